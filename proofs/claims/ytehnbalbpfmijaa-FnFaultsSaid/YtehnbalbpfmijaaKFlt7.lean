/- What the claim's walk rests on: parts FaultFree, ElsP, Each, Each2, ProfB, FltL, Count. -/
import Derived.Test.YtehnbalbpfmijaaKFlt6
import Derived.Test.YtehnbalbpfmijaaKFlt4
import Derived.Test.YtehnbalbpfmijaaKFlt1
import Derived.Test.YtehnbalbpfmijaaKFlt2
import Derived.Deep.RegionHeld3
import Derived.Deep.RegionLaw
namespace Go.Proofs.Ytehnbalbpfmijaa
open Go.RowKit
set_option linter.unusedVariables false

def iffB (a b : Int) (ls : List Lk) : Bool := fltB a b ls && decide ((fltZ a b a true ls).length = 0) && decide ((fltZ a b b false ls).length = 0)

set_option maxRecDepth 100000 in
set_option maxHeartbeats 1000000 in
theorem IsFaultFree_any (a b : Int) (v : Value) (ls : List Lk) (B : Nat) (w : World) (h : RdF elDomino w B v ls) (hB : B ≤ w.heap.size) :
    Calls Try.prog 20 #[.int .i64 a, .int .i64 b, v] w fun e w' => e = .returned (.bool (iffB a b ls)) ∧ Below w.heap.size w w' := by
  cases t1 : inB a 1 8
  · have HF : Hid (false = iffB a b ls) := by unfold Hid iffB fltB; simp [t1]
    go_enter Try.func20, Try.ntmps20
    go_wp2_with fail
    refine (within_any _ _ _ _).mono ?_
    rintro e w' ⟨rfl, rfl⟩
    rw [t1]
    go_wp2_with fail
    go_ret
    exact ⟨ret_bool HF.out, Below.refl _ _⟩
  · cases t2 : inB b 1 8
    · have HF : Hid (false = iffB a b ls) := by unfold Hid iffB fltB; simp [t2]
      go_enter Try.func20, Try.ntmps20
      go_wp2_with fail
      refine (within_any _ _ _ _).mono ?_
      rintro e w' ⟨rfl, rfl⟩
      rw [t1]
      go_wp2_with fail
      refine (within_any _ _ _ _).mono ?_
      rintro e w' ⟨rfl, rfl⟩
      rw [t2]
      go_wp2_with fail
      go_ret
      exact ⟨ret_bool HF.out, Below.refl _ _⟩
    · have ha := (inB_iff _ _ _).1 t1
      have hb := (inB_iff _ _ _).1 t2
      obtain ⟨a, rfl⟩ := Int.eq_ofNat_of_zero_le (show 0 ≤ a by omega)
      obtain ⟨b, rfl⟩ := Int.eq_ofNat_of_zero_le (show 0 ≤ b by omega)
      have hok := rectZ_ok a b (by omega) (by omega)
      have HT : Hid (tileB (setZ (rectZ a b)) ls = sTileB (setZ (rectZ a b)) ls) := tile_eq (setZ_lt hok) ls
      have HOK := Lib.hid hok
      have HV := Lib.hid h
      have HD := Lib.hid (fun V (h : RdF elDomino V V.heap.size v ls) => FaultsDown_any a b v ls _ V h (Nat.le_refl _))
      have HC := Lib.hid (fun V (h : RdF elDomino V V.heap.size v ls) => FaultsAcross_any a b v ls _ V h (Nat.le_refl _))
      have HFB : Hid (fltB a b ls = sTileB (setZ (rectZ a b)) ls) := by unfold Hid fltB; simp [t1, t2]
      have HIF : Hid (iffB a b ls = (fltB a b ls && decide ((fltZ a b a true ls).length = 0) && decide ((fltZ a b b false ls).length = 0))) := rfl
      generalize iffB a b ls = r at *
      rw [HFB.out] at HIF
      generalize fltZ (a : Int) b a true ls = z1 at *
      generalize fltZ (a : Int) b b false ls = z2 at *
      clear hok h
      go_enter Try.func20, Try.ntmps20
      go_wp2_with fail
      refine (within_any _ _ _ _).mono ?_
      rintro e w' ⟨rfl, rfl⟩
      rw [t1]
      go_wp2_with fail
      refine (within_any _ _ _ _).mono ?_
      rintro e w' ⟨rfl, rfl⟩
      rw [t2]
      go_wp2_with fail
      refine (Rectangle_yes a b (by omega) (by omega) _).mono ?_
      rintro e w1 ⟨u1, rfl, hr1, hb1⟩
      have HR1 := Lib.hid hr1
      have HB1 := Lib.hid hb1
      clear hb1 hr1
      go_wp2_with fail
      refine (IsTiling_yes _ _ _ ls _ _ HR1.out ((HV.out.below (HB1.out.mono hB)).more (Nat.le_trans hB HB1.out.size)) (Nat.le_refl _) HOK.out).mono ?_
      rintro e w2 ⟨rfl, hb2⟩
      rw [HT.out]
      have HB2 := Lib.hid (HB1.out.trans (hb2.mono HB1.out.size))
      clear hb2
      cases ht : sTileB (setZ (rectZ a b)) ls
      · have HF : Hid (false = r) := by unfold Hid; rw [HIF.out, ht]; rfl
        go_wp2_with fail
        go_ret
        exact ⟨ret_bool HF.out, HB2.out⟩
      · rw [ht, Bool.true_and] at HIF
        go_wp2_with fail
        refine (HD.out _ ((HV.out.below (HB2.out.mono hB)).more (Nat.le_trans hB HB2.out.size))).mono ?_
        rintro e w3 ⟨u3, rfl, ho3, hb3⟩
        obtain ⟨A3, c3, rfl, q31, q32, _⟩ := ho3.rd
        unfold maxLen at q32
        have HB3 := Lib.hid (HB2.out.trans (hb3.mono HB2.out.size))
        clear hb3 ho3
        by_cases h1 : z1.length = 0
        · have t3 : ((z1.length : Int) == 0) = true := by rw [beq_iff_eq]; omega
          have HI2 : Hid (decide (z2.length = 0) = r) := by unfold Hid; rw [HIF.out, decide_eq_true h1]; rfl
          have H1 := Lib.hid h1
          clear h1
          go_wp2_with fail
          refine (HC.out _ ((HV.out.below (HB3.out.mono hB)).more (Nat.le_trans hB HB3.out.size))).mono ?_
          rintro e w4 ⟨u4, rfl, ho4, hb4⟩
          obtain ⟨A4, c4, rfl, q41, q42, _⟩ := ho4.rd
          unfold maxLen at q42
          have HB4 := Lib.hid (HB3.out.trans (hb4.mono HB3.out.size))
          clear hb4 ho4
          have HE : Hid (((z2.length : Int) == 0) = r) := by unfold Hid; rw [← HI2.out, Bool.eq_iff_iff, beq_iff_eq, decide_eq_true_eq]; omega
          obtain ⟨n, HN⟩ : ∃ n : Nat, Hid (n = z2.length) := ⟨_, rfl⟩
          rw [← HN.out] at HE q41
          rw [← HN.out]
          cases hn : ((n : Int) == 0)
          all_goals
            rw [hn] at HE
            go_wp2_with fail
            go_ret
            exact ⟨ret_bool HE.out, HB4.out⟩
        · have t3 : ((z1.length : Int) == 0) = false := by rw [beq_eq_false_iff_ne]; omega
          have HF : Hid (false = r) := by unfold Hid; rw [HIF.out, decide_eq_false h1]; rfl
          obtain ⟨n, HN⟩ : ∃ n : Nat, Hid (n = z1.length) := ⟨_, rfl⟩
          rw [← HN.out] at t3 q31
          rw [← HN.out]
          clear h1
          go_wp2_with fail
          go_ret
          exact ⟨ret_bool HF.out, HB3.out⟩

end Go.Proofs.Ytehnbalbpfmijaa

namespace Go.Proofs.Ytehnbalbpfmijaa
open Go.RowKit
set_option linter.unusedVariables false

section
variable {α : Type} {K : Kd α}
/-- The elements: each in an interval of its own, none with a block of O. -/
def ElsP (K : Kd α) (w : World) (lo hi : Nat) (O : Nat → Prop) (ss : List Sl) (xs : List α) : Prop :=
  ss.length = xs.length ∧ ∃ a b : Nat → Nat, (∀ i s x, ss[i]? = some s → xs[i]? = some x → lo ≤ a i ∧ b i ≤ hi ∧ K.P w (a i) (b i) (slV s) x ∧ ∀ g, O g → g < a i ∨ b i ≤ g) ∧ ∀ i j, i < j → j < xs.length → b i ≤ a j
theorem ElsP.nil (w : World) (lo hi : Nat) (O : Nat → Prop) : ElsP K w lo hi O [] [] := ⟨rfl, fun _ => 0, fun _ => 0, fun i s x h => by simp at h, fun i j _ h => by simp at h⟩
theorem ElsP.kept {w w' : World} {lo hi : Nat} {O : Nat → Prop} {ss : List Sl} {xs : List α} (h : ElsP K w lo hi O ss xs) (hs : w.heap.size ≤ w'.heap.size) (hk : ∀ k, lo ≤ k → k < hi → ¬ O k → w'.heap[k]? = w.heap[k]?) : ElsP K w' lo hi O ss xs := by
  obtain ⟨h1, a, b, h2, h3⟩ := h
  refine ⟨h1, a, b, fun i s x hi hx => ?_, h3⟩
  obtain ⟨p1, p2, p3, p4⟩ := h2 i s x hi hx
  exact ⟨p1, p2, K.keep p3 hs fun k q1 q2 => hk k (by omega) (by omega) (fun e => by have := p4 k e; omega), p4⟩
theorem ElsP.excl {w : World} {lo hi : Nat} {O O' : Nat → Prop} {ss : List Sl} {xs : List α} (h : ElsP K w lo hi O ss xs) (ho : ∀ g, O' g → O g ∨ hi ≤ g ∨ g < lo) : ElsP K w lo hi O' ss xs := by
  obtain ⟨h1, a, b, h2, h3⟩ := h
  refine ⟨h1, a, b, fun i s x hi hx => ?_, h3⟩
  obtain ⟨p1, p2, p3, p4⟩ := h2 i s x hi hx
  refine ⟨p1, p2, p3, fun g hg => ?_⟩
  rcases ho g hg with h | h | h
  · exact p4 g h
  · exact .inr (by omega)
  · exact .inl (by omega)
theorem ElsP.els {w : World} {lo hi : Nat} {O : Nat → Prop} {o : Option Nat} {ss : List Sl} {xs : List α} (h : ElsP K w lo hi O ss xs) (ho : ∀ g, o = some g → O g) : Els K w lo hi o ss xs := by
  obtain ⟨h1, a, b, h2, h3⟩ := h
  refine ⟨h1, a, b, fun i s x hi hx => ?_, h3⟩
  obtain ⟨p1, p2, p3, p4⟩ := h2 i s x hi hx
  exact ⟨p1, p2, p3, fun g hg => p4 g (ho g hg)⟩
theorem ElsP.push {w : World} {lo hi hi' a b : Nat} {O : Nat → Prop} {ss : List Sl} {xs : List α} {s : Sl} {x : α} (h : ElsP K w lo hi O ss xs) (hx : K.P w a b (slV s) x) (hl : lo ≤ a) (ha : hi ≤ a) (hb : b ≤ hi') (hh : hi ≤ hi') (hO : ∀ g, O g → g < a ∨ b ≤ g) : ElsP K w lo hi' O (ss ++ [s]) (xs ++ [x]) := by
  obtain ⟨e1, fa, fb, e2, e3⟩ := h
  refine ⟨by simp [e1], fun i => if i < xs.length then fa i else a, fun i => if i < xs.length then fb i else b, fun i s' x' h1 h2 => ?_, fun i j hij hj => ?_⟩
  · by_cases e : i < xs.length
    · rw [List.getElem?_append_left (by omega)] at h1
      rw [List.getElem?_append_left e] at h2
      simp only [e, if_true]
      obtain ⟨p1, p2, p3, p4⟩ := e2 i s' x' h1 h2
      exact ⟨p1, by omega, p3, p4⟩
    · rw [List.getElem?_append_right (by omega)] at h1 h2
      by_cases e4 : i = xs.length
      · subst e4
        rw [e1] at h1
        simp at h1 h2
        subst h1 h2
        simp only [Nat.lt_irrefl, if_false]
        exact ⟨hl, hb, hx, hO⟩
      · rw [List.getElem?_eq_none (by simp; omega)] at h2; simp at h2
  · simp only [List.length_append, List.length_singleton] at hj
    simp only [show i < xs.length by omega, if_true]
    by_cases e : j < xs.length
    · simp only [e, if_true]; exact e3 i j hij e
    · simp only [e, if_false]
      obtain ⟨s', hs'⟩ : ∃ s', ss[i]? = some s' := ⟨_, List.getElem?_eq_getElem (by omega)⟩
      obtain ⟨x', hx'⟩ : ∃ x', xs[i]? = some x' := ⟨_, List.getElem?_eq_getElem (by omega)⟩
      have := (e2 i s' x' hs' hx').2.1
      omega
end

section
variable {α : Type} {E : El α}
theorem OwnF.same {w w' : World} {lo : Nat} {v : Value} {xs : List α} (h : OwnF E w lo v xs) (hk : ∀ k, v.ownBlock = some k → w'.heap[k]? = w.heap[k]?) : OwnF E w' lo v xs := by
  refine ⟨h.1, ?_⟩
  rcases h.2 with hn | ⟨g, cap, cur, rfl, hb, hgg, rest⟩
  · exact .inl hn
  · exact .inr ⟨g, cap, cur, rfl, hb, (hk g rfl).trans hgg, rest⟩
/-- The last element is cut off. -/
theorem OwnF.pop (hE : ∀ x, (E.f x).length = E.s) {w : World} {lo : Nat} {v : Value} {xs : List α} {x : α} (h : OwnF E w lo v (xs ++ [x])) :
    ∃ g c, v = .slice (some ⟨g, 0, none⟩) (xs.length + 1) c ∧ xs.length + 1 ≤ c ∧ c ≤ maxLen ∧ OwnF E w lo (.slice (some ⟨g, 0, none⟩) xs.length c) xs := by
  rcases h.2 with ⟨_, h0⟩ | ⟨g, cap, cur, hv, hb, hgg, h1, h2, h3, h4⟩
  · simp at h0
  · simp only [List.length_append, List.length_singleton] at hv h1 h4
    refine ⟨g, cap, hv, h1, h2, flat_length hE xs, .inr ⟨g, cap, cur, rfl, hb, hgg, by omega, h2, h3, ?_⟩⟩
    rw [List.flatMap_append] at h4
    have h5 := congrArg (List.take (xs.length * E.s)) h4
    rw [List.take_take, Nat.min_eq_left (Nat.mul_le_mul_right _ (by omega)), List.take_append_of_le_length (by rw [flat_length hE]; exact Nat.le_refl _), List.take_of_length_le (l := xs.flatMap E.f) (by rw [flat_length hE]; exact Nat.le_refl _)] at h5
    exact h5
theorem OwnF.rdFull {P : Program} (hE : E.Ok P) {w : World} {lo : Nat} {v : Value} {xs : List α} (h : OwnF E w lo v xs) : RdF E w w.heap.size v xs := h.rd hE

/-- Where the list and the row lie. -/
structure TLay where
  po : Nat
  pw : Nat
  o0 : Nat
  m0 : Nat
  lo : Nat
  lo2 : Nat
structure TLay.Ok (L : TLay) : Prop where
  o : L.lo ≤ L.o0
  m : L.lo ≤ L.m0
  o2 : L.o0 < L.lo2
  m2 : L.m0 < L.lo2
  p2 : L.po < L.lo2
  w2 : L.pw < L.lo2
  om : L.o0 ≠ L.m0
  pw_ : L.po ≠ L.pw
  po0 : L.po ≠ L.o0
  pm0 : L.po ≠ L.m0
  wo0 : L.pw ≠ L.o0
  wm0 : L.pw ≠ L.m0
  lp : L.lo ≤ L.po
  lw : L.lo ≤ L.pw
/-- All other blocks below stay. -/
def Fix (L : TLay) (w w' : World) : Prop := ∀ k, k < L.lo2 → k ≠ L.po → k ≠ L.pw → k ≠ L.o0 → k ≠ L.m0 → w'.heap[k]? = w.heap[k]?
theorem Fix.refl (L : TLay) (w : World) : Fix L w w := fun _ _ _ _ _ _ => rfl
theorem Fix.trans {L : TLay} {a b c : World} (h : Fix L a b) (h' : Fix L b c) : Fix L a c := fun k h1 h2 h3 h4 h5 => (h' k h1 h2 h3 h4 h5).trans (h k h1 h2 h3 h4 h5)
theorem Fix.below {L : TLay} {a b : World} (h : Below a.heap.size a b) (hl : L.lo2 ≤ a.heap.size) : Fix L a b := fun k h1 _ _ _ _ => h.block k (by omega)

structure TS (E : El α) (ES : El Sl) (w0 : World) (L : TLay) (wr : World) (vo vw : Value) (ho : Nat) (ss : List Sl) (hd : List α) (os : List (List α)) : Prop where
  co : wr.heap[L.po]? = some (.cells #[vo] ES.t (0, 0))
  cw : wr.heap[L.pw]? = some (.cells #[vw] E.t (0, 0))
  ao : Acc ES w0 L.lo wr vo ss
  aw : Acc E w0 L.lo wr vw hd
  el : ElsP (kdF E) wr L.lo2 ho (fun g => vo.ownBlock = some g ∨ vw.ownBlock = some g) ss os
  lh : L.lo2 ≤ ho
  hs : ho ≤ wr.heap.size
  bo : ∀ g, vo.ownBlock = some g → g = L.o0 ∨ L.lo2 ≤ g
  bw : ∀ g, vw.ownBlock = some g → g = L.m0 ∨ L.lo2 ≤ g
  ne : ∀ g, vo.ownBlock = some g → vw.ownBlock ≠ some g
def TSt (E : El α) (ES : El Sl) (w0 : World) (L : TLay) (wr : World) (hd : List α) (os : List (List α)) : Prop := ∃ vo vw ho ss, TS E ES w0 L wr vo vw ho ss hd os

variable {ES : El Sl} {w0 wr w1 w2 : World} {L : TLay} {vo vw v' : Value} {ho : Nat} {ss : List Sl} {hd : List α} {os : List (List α)} {x : α}
theorem TS.below (h : TS E ES w0 L wr vo vw ho ss hd os) (hb : Below wr.heap.size wr w1) : TS E ES w0 L w1 vo vw ho ss hd os :=
  ⟨(hb.block _ (lt_of_block h.co)).trans h.co, (hb.block _ (lt_of_block h.cw)).trans h.cw, h.ao.below hb, h.aw.below hb, h.el.kept hb.size fun k _ hk _ => hb.block k (by have := h.hs; omega), h.lh, Nat.le_trans h.hs hb.size, h.bo, h.bw, h.ne⟩
theorem TS.fix (h : TS E ES w0 L wr vo vw ho ss hd os) (hb : Below wr.heap.size wr w1) : Fix L wr w1 := Fix.below hb (Nat.le_trans h.lh h.hs)
theorem TS.big (h : TS E ES w0 L wr vo vw ho ss hd os) : Below w0.heap.size w0 wr := h.ao.2.1
theorem TS.cello (h : TS E ES w0 L wr vo vw ho ss hd os) : wr.cell? ⟨L.po, 0, none⟩ = some vo := cell_of_one h.co
theorem TS.cellw (h : TS E ES w0 L wr vo vw ho ss hd os) : wr.cell? ⟨L.pw, 0, none⟩ = some vw := cell_of_one h.cw
theorem TS.lenw {P : Program} (hE : E.Ok P) (h : TS E ES w0 L wr vo vw ho ss hd os) : ∃ A c, vw = .slice A hd.length c ∧ hd.length ≤ c ∧ c ≤ maxLen := by
  obtain ⟨A, c, hv, h1, h2, _⟩ := h.aw.1.rd hE; exact ⟨A, c, hv, h1, h2⟩
theorem TS.leno {P : Program} (hE : ES.Ok P) (h : TS E ES w0 L wr vo vw ho ss hd os) : ∃ A c, vo = .slice A ss.length c ∧ ss.length ≤ c ∧ c ≤ maxLen := by
  obtain ⟨A, c, hv, h1, h2, _⟩ := h.ao.1.rd hE; exact ⟨A, c, hv, h1, h2⟩
/-- The row grows by one. -/
theorem TS.pushOwn (hL : L.Ok) (h : TS E ES w0 L wr vo vw ho ss hd os) (HA : Acc E w0 L.lo w2 v' (hd ++ [x])) (HG : Grew wr w2 vw v') :
    TS E ES w0 L (w2.setCell ⟨L.pw, 0, none⟩ v') vo v' ho ss (hd ++ [x]) os ∧ Fix L wr (w2.setCell ⟨L.pw, 0, none⟩ v') ∧ (∃ u, w2.heap[L.pw]? = some (.cells #[u] E.t (0, 0))) := by
  obtain ⟨g1, g, g2, g3, g4⟩ := HG
  have l1 := hL.w2; have l2 := hL.p2; have l3 := hL.o2; have l4 := hL.m2; have l5 := hL.pw_; have l6 := hL.wo0; have l7 := hL.wm0; have l8 := hL.po0; have l9 := hL.pm0; have l10 := hL.om; have l11 := hL.lw
  have hlo := Nat.le_trans h.lh h.hs
  have hsame : ∀ k, k < wr.heap.size → vw.ownBlock ≠ some k → k ≠ L.pw → (w2.setCell ⟨L.pw, 0, none⟩ v').heap[k]? = wr.heap[k]? := fun k k1 k2 k3 =>
    (Below.heap_setCell _ _ _ _ (by show k ≠ L.pw; exact k3)).trans (g1.block k k1 (fun e => k2 e.symm))
  have hpw : w2.heap[L.pw]? = some (.cells #[vw] E.t (0, 0)) := (g1.block L.pw (by omega) (fun e => by have := h.bw L.pw e.symm; omega)).trans h.cw
  have hgb : g = L.m0 ∨ L.lo2 ≤ g := by
    rcases g3 with g3 | g3
    · exact h.bw g g3
    · exact .inr (by omega)
  have hw0 : w0.heap.size ≤ L.pw := Nat.le_trans h.aw.2.2.1 l11
  refine ⟨⟨?_, ?_, ⟨h.ao.1.same fun k hk => ?_, HA.2.1.setCell hw0 _, h.ao.2.2.1, by simpa using HA.2.2.2⟩, ⟨HA.1.same fun k hk => Below.heap_setCell _ _ _ _ ?_, HA.2.1.setCell hw0 _, HA.2.2.1, by simpa using HA.2.2.2⟩, ?_, h.lh, ?_, h.bo, ?_, ?_⟩, ?_, ⟨_, hpw⟩⟩
  · exact (hsame L.po (by omega) (fun e => by have := h.bw _ e; omega) l5).trans h.co
  · exact (blk_setCell hpw _).trans (by simp)
  · exact hsame k ((h.ao.1.lt k hk).2) (h.ne k hk) (by have := h.bo k hk; omega)
  · rw [g2] at hk; obtain rfl := Option.some.inj hk; show g ≠ L.pw; omega
  · refine (h.el.kept (w' := w2.setCell ⟨L.pw, 0, none⟩ v') (by simpa using g1.size) fun k k1 k2 k3 => hsame k (by have := h.hs; omega) (fun e => k3 (.inr e)) (by omega)).excl fun k hk => ?_
    rcases hk with hk | hk
    · exact .inl (.inl hk)
    · rw [g2] at hk
      obtain rfl := Option.some.inj hk
      rcases g3 with g3 | g3
      · exact .inl (.inr g3)
      · exact .inr (.inl (by have := h.hs; omega))
  · simpa using Nat.le_trans h.hs g1.size
  · intro k hk; rw [g2] at hk; obtain rfl := Option.some.inj hk; exact hgb
  · intro k hk e
    rw [g2] at e
    obtain rfl := Option.some.inj e
    rcases g3 with g3 | g3
    · exact h.ne g hk g3
    · have := (h.ao.1.lt g hk).2; omega
  · intro k k1 k2 k3 k4 k5
    exact hsame k (by omega) (fun e => by have := h.bw k e; omega) k3
/-- The row's last element is cut off. -/
theorem TS.popOwn (hE : ∀ x, (E.f x).length = E.s) (hL : L.Ok) (h : TS E ES w0 L wr vo vw ho ss (hd ++ [x]) os) :
    ∃ g c, vw = .slice (some ⟨g, 0, none⟩) (hd.length + 1) c ∧ hd.length + 1 ≤ c ∧ c ≤ maxLen ∧
      Hid (TS E ES w0 L (wr.setCell ⟨L.pw, 0, none⟩ (.slice (some ⟨g, 0, none⟩) hd.length c)) vo (.slice (some ⟨g, 0, none⟩) hd.length c) ho ss hd os ∧ Fix L wr (wr.setCell ⟨L.pw, 0, none⟩ (.slice (some ⟨g, 0, none⟩) hd.length c))) := by
  obtain ⟨g, c, rfl, h1, h2, h3⟩ := h.aw.1.pop hE
  have l1 := hL.w2; have l2 := hL.p2; have l3 := hL.o2; have l4 := hL.m2; have l5 := hL.pw_; have l6 := hL.wo0; have l7 := hL.wm0; have l8 := hL.po0; have l9 := hL.pm0; have l10 := hL.om; have l11 := hL.lw
  have hw0 : w0.heap.size ≤ L.pw := Nat.le_trans h.aw.2.2.1 l11
  have hb := h.bw g rfl
  have hsame : ∀ k, k ≠ L.pw → (wr.setCell ⟨L.pw, 0, none⟩ (.slice (some ⟨g, 0, none⟩) hd.length c)).heap[k]? = wr.heap[k]? := fun k k3 => Below.heap_setCell _ _ _ _ k3
  refine ⟨g, c, rfl, h1, h2, ⟨?_, ?_, ⟨h.ao.1.same fun k hk => hsame k (by have := h.bo k hk; omega), h.ao.2.1.setCell hw0 _, h.ao.2.2.1, by simpa using h.ao.2.2.2⟩, ⟨h3.same fun k hk => hsame k ?_, h.aw.2.1.setCell hw0 _, h.aw.2.2.1, by simpa using h.aw.2.2.2⟩, ?_, h.lh, by simpa using h.hs, h.bo, h.bw, h.ne⟩, fun k k1 k2 k3 k4 k5 => hsame k k3⟩
  · exact (hsame _ l5).trans h.co
  · exact (blk_setCell h.cw _).trans (by simp)
  · simp only [Value.ownBlock, Option.some.injEq] at hk; subst hk; omega
  · exact h.el.kept (by simp) fun k k1 k2 k3 => hsame k (by omega)
/-- A row is added to the list. -/
theorem TS.pushOut {p : Nat} {s : Sl} {y : List α} (hL : L.Ok) (h : TS E ES w0 L wr vo vw ho ss hd os) (hp : ho ≤ p) (hpw : p ≤ wr.heap.size) (hx : OwnF E wr p (slV s) y) (hvw : ∀ g, vw.ownBlock = some g → g < p) (hvo : ∀ g, vo.ownBlock = some g → g < p)
    (HA : Acc ES w0 L.lo w2 v' (ss ++ [s])) (HG : Grew wr w2 vo v') :
    TS E ES w0 L (w2.setCell ⟨L.po, 0, none⟩ v') v' vw w2.heap.size (ss ++ [s]) hd (os ++ [y]) ∧ Fix L wr (w2.setCell ⟨L.po, 0, none⟩ v') ∧ (∃ u, w2.heap[L.po]? = some (.cells #[u] ES.t (0, 0))) := by
  obtain ⟨g1, g, g2, g3, g4⟩ := HG
  have l1 := hL.w2; have l2 := hL.p2; have l3 := hL.o2; have l4 := hL.m2; have l5 := hL.pw_; have l6 := hL.wo0; have l7 := hL.wm0; have l8 := hL.po0; have l9 := hL.pm0; have l10 := hL.om; have l11 := hL.lp
  have hlo := Nat.le_trans h.lh h.hs
  have hsz := g1.size
  have hlh := h.lh
  have hsame : ∀ k, k < wr.heap.size → vo.ownBlock ≠ some k → k ≠ L.po → (w2.setCell ⟨L.po, 0, none⟩ v').heap[k]? = wr.heap[k]? := fun k k1 k2 k3 =>
    (Below.heap_setCell _ _ _ _ (by show k ≠ L.po; exact k3)).trans (g1.block k k1 (fun e => k2 e.symm))
  have hpo : w2.heap[L.po]? = some (.cells #[vo] ES.t (0, 0)) := (g1.block L.po (by omega) (fun e => by have := h.bo L.po e.symm; omega)).trans h.co
  have hgb : g = L.o0 ∨ L.lo2 ≤ g := by
    rcases g3 with g3 | g3
    · exact h.bo g g3
    · exact .inr (by omega)
  have hw0 : w0.heap.size ≤ L.po := Nat.le_trans h.ao.2.2.1 l11
  refine ⟨⟨?_, ?_, ⟨HA.1.same fun k hk => Below.heap_setCell _ _ _ _ ?_, HA.2.1.setCell hw0 _, HA.2.2.1, by simpa using HA.2.2.2⟩, ⟨h.aw.1.same fun k hk => ?_, HA.2.1.setCell hw0 _, h.aw.2.2.1, by simpa using HA.2.2.2⟩, ?_, by omega, by simp, ?_, h.bw, ?_⟩, ?_, ⟨_, hpo⟩⟩
  · exact (blk_setCell hpo _).trans (by simp)
  · exact (hsame L.pw (by omega) (fun e => by have := h.bo _ e; omega) (Ne.symm l5)).trans h.cw
  · rw [g2] at hk; obtain rfl := Option.some.inj hk; show g ≠ L.po; omega
  · exact hsame k ((h.aw.1.lt k hk).2) (fun e => h.ne k e hk) (by have := h.bw k hk; omega)
  · have e1 := (h.el.kept (w' := w2.setCell ⟨L.po, 0, none⟩ v') (by simpa using hsz) fun k k1 k2 k3 => hsame k (by have := h.hs; omega) (fun e => k3 (.inl e)) (by omega)).excl (O' := fun g => v'.ownBlock = some g ∨ vw.ownBlock = some g) fun k hk => ?_
    · refine e1.push (a := p) (b := wr.heap.size) ⟨hx.same fun k hk => ?_, fun k hk => (hx.lt k hk).2⟩ (by omega) hp (by simpa using hsz) (by simpa using Nat.le_trans h.hs hsz) fun k hk => ?_
      · have := hx.lt k hk
        exact hsame k this.2 (fun e => by have := hvo k e; omega) (by omega)
      · rcases hk with hk | hk
        · rw [g2] at hk
          obtain rfl := Option.some.inj hk
          rcases g3 with g3 | g3
          · exact .inl (hvo g g3)
          · exact .inr g3
        · exact .inl (hvw k hk)
    · rcases hk with hk | hk
      · rw [g2] at hk
        obtain rfl := Option.some.inj hk
        rcases g3 with g3 | g3
        · exact .inl (.inl g3)
        · exact .inr (.inl (by have := h.hs; omega))
      · exact .inl (.inr hk)
  · intro k hk; rw [g2] at hk; obtain rfl := Option.some.inj hk; exact hgb
  · intro k hk e
    rw [g2] at hk
    obtain rfl := Option.some.inj hk
    rcases g3 with g3 | g3
    · exact h.ne g g3 e
    · have := (h.aw.1.lt g e).2; omega
  · intro k k1 k2 k3 k4 k5
    exact hsame k (by omega) (fun e => by have := h.bo k e; omega) k2
/-- The list alone. -/
theorem TS.nrel (h : TS E ES w0 L wr vo vw ho ss hd os) : NRel (kdF E) ES w0 L.lo L.lo2 wr ho vo os := ⟨ss, h.ao, h.el.els fun g hg => .inl hg, h.hs⟩
end
def RetN {α : Type} (K : Kd α) (E : El Sl) (w : World) (xs : List α) (e : Ending) (w' : World) : Prop := ∃ v hi, e = .returned v ∧ NRel K E w w.heap.size w.heap.size w' hi v xs
end Go.Proofs.Ytehnbalbpfmijaa

namespace Go.Proofs.Ytehnbalbpfmijaa
open Go.RowKit
set_option linter.unusedVariables false

/-- The counter behind all tilings of s that continue hd. -/
def cntE (p : List Lk → Bool) : Nat → Nat → List Lk → Int → Int
  | 0, _, _, x => x
  | d + 1, s, hd, x =>
    if s = 0 then (if p hd then wrap64 (x + 1) else x)
    else
      let x1 := if fitB s (dOf (fstN s) false) then cntE p d (minN s (dM (dOf (fstN s) false))) (hd ++ [dOf (fstN s) false]) x else x
      if fitB s (dOf (fstN s) true) then cntE p d (minN s (dM (dOf (fstN s) true))) (hd ++ [dOf (fstN s) true]) x1 else x1

abbrev cbV (n0 : Nat) : Value := .func (.func 62) #[] #[.pointer (some ⟨n0, 0, none⟩), .pointer (some ⟨n0 + 1, 0, none⟩), .pointer (some ⟨n0 + 2, 0, none⟩)]
structure CF (w0 wr : World) (n0 n a b : Nat) (x : Int) (vw : Value) (hd : List Lk) : Prop where
  ea : wr.heap[n0]? = some (.cells #[.int .i64 a] 3 (0, 0))
  eb : wr.heap[n0 + 1]? = some (.cells #[.int .i64 b] 3 (0, 0))
  ec : wr.heap[n0 + 2]? = some (.cells #[.int .i64 x] 3 (0, 0))
  cc : wr.heap[n]? = some (.cells #[cbV n0] 82 (0, 0))
  cw : wr.heap[n + 2]? = some (.cells #[vw] 28 (0, 0))
  cr : wr.heap[n + 3]? = some (.cells #[reV n] 138 (0, 0))
  aw : Acc elDomino w0 (n + 1) wr vw hd
  bw : ∀ g, vw.ownBlock = some g → g = n + 1 ∨ n + 4 ≤ g
  l0 : n0 + 2 < n
  lw : w0.heap.size ≤ n0
section
variable {w0 wr w1 w2 : World} {n0 n a b : Nat} {x : Int} {vw v' : Value} {hd : List Lk} {y : Lk}
theorem CF.big (h : CF w0 wr n0 n a b x vw hd) : Below w0.heap.size w0 wr := h.aw.2.1
theorem CF.below (h : CF w0 wr n0 n a b x vw hd) (hb : Below wr.heap.size wr w1) : CF w0 w1 n0 n a b x vw hd :=
  ⟨blk_below h.ea hb, blk_below h.eb hb, blk_below h.ec hb, blk_below h.cc hb, blk_below h.cw hb, blk_below h.cr hb, h.aw.below hb, h.bw, h.l0, h.lw⟩
theorem CF.count (h : CF w0 wr n0 n a b x vw hd) (z : Int) : CF w0 (wr.setCell ⟨n0 + 2, 0, none⟩ (.int .i64 z)) n0 n a b z vw hd := by
  have hl := h.l0
  have hlw := h.lw
  have hk : ∀ j, j ≠ n0 + 2 → (wr.setCell ⟨n0 + 2, 0, none⟩ (.int .i64 z)).heap[j]? = wr.heap[j]? := fun j hj => Below.heap_setCell _ _ _ _ hj
  exact ⟨(hk _ (by omega)).trans h.ea, (hk _ (by omega)).trans h.eb, (blk_setCell h.ec _).trans (by simp), (hk _ (by omega)).trans h.cc, (hk _ (by omega)).trans h.cw, (hk _ (by omega)).trans h.cr,
    ⟨h.aw.1.same fun k hk2 => hk k (by have := h.bw k hk2; omega), h.aw.2.1.setCell (by show w0.heap.size ≤ n0 + 2; omega) _, h.aw.2.2.1, by simpa using h.aw.2.2.2⟩, h.bw, h.l0, h.lw⟩
theorem CF.push (h : CF w0 wr n0 n a b x vw hd) (HA : Acc elDomino w0 (n + 1) w2 v' (hd ++ [y])) (HG : Grew wr w2 vw v') :
    CF w0 (w2.setCell ⟨n + 2, 0, none⟩ v') n0 n a b x v' (hd ++ [y]) ∧ (∃ u, w2.heap[n + 2]? = some (.cells #[u] 28 (0, 0))) := by
  obtain ⟨g1, g, g2, g3, g4⟩ := HG
  have hl := h.l0
  have hlw := h.lw
  have hsz := lt_of_block h.cr
  have hsame : ∀ k, k < n + 4 → k ≠ n + 1 → k ≠ n + 2 → (w2.setCell ⟨n + 2, 0, none⟩ v').heap[k]? = wr.heap[k]? := fun k k1 k2 k3 =>
    (Below.heap_setCell _ _ _ _ (by show k ≠ n + 2; exact k3)).trans (g1.block k (by omega) (fun e => by have := h.bw k e.symm; omega))
  have hpw : w2.heap[n + 2]? = some (.cells #[vw] 28 (0, 0)) := (g1.block (n + 2) (by omega) (fun e => by have := h.bw _ e.symm; omega)).trans h.cw
  have hgb : g = n + 1 ∨ n + 4 ≤ g := by
    rcases g3 with g3 | g3
    · exact h.bw g g3
    · exact .inr (by omega)
  refine ⟨⟨(hsame _ (by omega) (by omega) (by omega)).trans h.ea, (hsame _ (by omega) (by omega) (by omega)).trans h.eb, (hsame _ (by omega) (by omega) (by omega)).trans h.ec, (hsame _ (by omega) (by omega) (by omega)).trans h.cc, (blk_setCell hpw _).trans (by simp), (hsame _ (by omega) (by omega) (by omega)).trans h.cr,
    ⟨HA.1.same fun k hk => Below.heap_setCell _ _ _ _ ?_, HA.2.1.setCell (by show w0.heap.size ≤ n + 2; omega) _, HA.2.2.1, by simpa using HA.2.2.2⟩, fun k hk => ?_, h.l0, h.lw⟩, ⟨_, hpw⟩⟩
  · rw [g2] at hk; obtain rfl := Option.some.inj hk; show g ≠ n + 2; omega
  · rw [g2] at hk; obtain rfl := Option.some.inj hk; exact hgb
theorem CF.pop (h : CF w0 wr n0 n a b x vw (hd ++ [y])) :
    ∃ g c, vw = .slice (some ⟨g, 0, none⟩) (hd.length + 1) c ∧ hd.length + 1 ≤ c ∧ c ≤ maxLen ∧ Hid (CF w0 (wr.setCell ⟨n + 2, 0, none⟩ (.slice (some ⟨g, 0, none⟩) hd.length c)) n0 n a b x (.slice (some ⟨g, 0, none⟩) hd.length c) hd) := by
  obtain ⟨g, c, rfl, h1, h2, h3⟩ := h.aw.1.pop (fun _ => rfl)
  have hl := h.l0
  have hlw := h.lw
  have hb := h.bw g rfl
  have hsame : ∀ k, k ≠ n + 2 → (wr.setCell ⟨n + 2, 0, none⟩ (.slice (some ⟨g, 0, none⟩) hd.length c)).heap[k]? = wr.heap[k]? := fun k k3 => Below.heap_setCell _ _ _ _ k3
  refine ⟨g, c, rfl, h1, h2, (hsame _ (by omega)).trans h.ea, (hsame _ (by omega)).trans h.eb, (hsame _ (by omega)).trans h.ec, (hsame _ (by omega)).trans h.cc, (blk_setCell h.cw _).trans (by simp), (hsame _ (by omega)).trans h.cr,
    ⟨h3.same fun k hk => hsame k ?_, h.aw.2.1.setCell (by show w0.heap.size ≤ n + 2; omega) _, h.aw.2.2.1, by simpa using h.aw.2.2.2⟩, h.bw, h.l0, h.lw⟩
  simp only [Value.ownBlock, Option.some.injEq] at hk; subst hk; omega
end

/-- How the closure leaves the rest. -/
def EF (n0 n : Nat) (wr w' : World) (vw vw' : Value) : Prop := (∀ k, k < wr.heap.size → k ≠ n0 + 2 → k ≠ n + 2 → vw.ownBlock ≠ some k → w'.heap[k]? = wr.heap[k]?) ∧ (∀ g, vw'.ownBlock = some g → vw.ownBlock = some g ∨ wr.heap.size ≤ g) ∧ wr.heap.size ≤ w'.heap.size
theorem EF.trans {n0 n : Nat} {wr w1 w2 : World} {v v1 v2 : Value} (h : EF n0 n wr w1 v v1) (h' : EF n0 n w1 w2 v1 v2) : EF n0 n wr w2 v v2 := by
  obtain ⟨a1, a2, a3⟩ := h
  obtain ⟨b1, b2, b3⟩ := h'
  refine ⟨fun k k1 k2 k3 k4 => (b1 k (by omega) k2 k3 fun e => ?_).trans (a1 k k1 k2 k3 k4), fun g hg => ?_, by omega⟩
  · rcases a2 k e with e | e
    · exact k4 e
    · omega
  · rcases b2 g hg with e | e
    · exact a2 g e
    · exact .inr (by omega)
theorem EF.below {n0 n : Nat} {wr w1 : World} {v : Value} (h : Below wr.heap.size wr w1) : EF n0 n wr w1 v v := ⟨fun k k1 _ _ _ => h.block k k1, fun g hg => .inl hg, h.size⟩
theorem EF.cell {n0 n : Nat} {wr : World} {v v' : Value} (p : Addr) (u : Value) (hp : p.block = n0 + 2 ∨ p.block = n + 2) (hv : v'.ownBlock = v.ownBlock) : EF n0 n wr (wr.setCell p u) v v' :=
  ⟨fun k _ k2 k3 _ => Below.heap_setCell _ _ _ _ (by omega), fun g hg => .inl (by rw [← hv]; exact hg), by simp⟩
theorem EF.grew {n0 n : Nat} {wr w2 : World} {v v' : Value} (u : Value) (h : Grew wr w2 v v') : EF n0 n wr (w2.setCell ⟨n + 2, 0, none⟩ u) v v' := by
  obtain ⟨g1, g, g2, g3, g4⟩ := h
  refine ⟨fun k k1 k2 k3 k4 => (Below.heap_setCell _ _ _ _ (by show k ≠ n + 2; exact k3)).trans (g1.block k k1 fun e => k4 e.symm), fun g' hg => ?_, by simpa using g1.size⟩
  rw [g2] at hg
  obtain rfl := Option.some.inj hg
  exact g3

/-- The callback counts. -/
theorem back_any (w0 : World) (n0 n a b : Nat) (x : Int) (vw : Value) (hd : List Lk) (wr : World) (h : CF w0 wr n0 n a b x vw hd) :
    Calls Try.prog 62 #[vw, .pointer (some ⟨n0, 0, none⟩), .pointer (some ⟨n0 + 1, 0, none⟩), .pointer (some ⟨n0 + 2, 0, none⟩)] wr
      fun e w' => e = .returned (.tuple #[]) ∧ CF w0 w' n0 n a b (if iffB a b hd then wrap64 (x + 1) else x) vw hd ∧ EF n0 n wr w' vw vw := by
  have H := Lib.hid h
  have c0 : wr.cell? ⟨n0, 0, none⟩ = some (.int .i64 a) := cell_of_one h.ea
  have c1 : wr.cell? ⟨n0 + 1, 0, none⟩ = some (.int .i64 b) := cell_of_one h.eb
  have HR := Lib.hid (h.aw.1.rd okDomino)
  obtain ⟨A, c, rfl, _, _, _⟩ := h.aw.1.rd okDomino
  clear h
  cases hi : iffB a b hd
  · have HE : Hid ((if false = true then wrap64 (x + 1) else x) = x) := by unfold Hid; simp
    rw [HE.out]
    go_enter Try.func62, Try.ntmps62
    go_wp2_with fail
    refine (IsFaultFree_any a b _ hd _ _ HR.out (Nat.le_refl _)).mono ?_
    rintro e w1 ⟨rfl, hb1⟩
    rw [hi]
    have H1 := Lib.hid (H.out.below hb1)
    have HB1 := Lib.hid hb1
    clear hb1
    go_wp2_with fail
    go_end0
    exact ⟨rfl, H1.out, EF.below HB1.out⟩
  · have HE : Hid ((if true = true then wrap64 (x + 1) else x) = wrap64 (x + 1)) := by unfold Hid; simp
    rw [HE.out]
    go_enter Try.func62, Try.ntmps62
    go_wp2_with fail
    refine (IsFaultFree_any a b _ hd _ _ HR.out (Nat.le_refl _)).mono ?_
    rintro e w1 ⟨rfl, hb1⟩
    rw [hi]
    have H1 := Lib.hid (H.out.below hb1)
    have d0 : w1.cell? ⟨n0 + 2, 0, none⟩ = some (.int .i64 x) := cell_of_one H1.out.ec
    have d1 := free_of_one H1.out.ec
    have H2 := Lib.hid (H1.out.count (wrap64 (x + 1)))
    have HB1 := Lib.hid hb1
    clear hb1 c0 c1
    go_wp2_with fail
    go_end0
    exact ⟨rfl, H2.out, (EF.below HB1.out).trans (EF.cell ⟨n0 + 2, 0, none⟩ _ (.inl rfl) rfl)⟩

def EPost (w0 wr : World) (n0 n a b : Nat) (x : Int) (vw : Value) (hd : List Lk) (e : Ending) (w' : World) : Prop := e = .returned (.tuple #[]) ∧ ∃ vw', CF w0 w' n0 n a b x vw' hd ∧ EF n0 n wr w' vw vw'
/-- One call of each's closure. -/
def EachAt (w0 : World) (n0 n a b d s : Nat) (hd : List Lk) : Prop := ∀ (wr : World) (x : Int) (vw : Value), CF w0 wr n0 n a b x vw hd →
  Calls Try.prog 127 #[.int .u64 (s : Int), .pointer (some ⟨n, 0, none⟩), .pointer (some ⟨n + 2, 0, none⟩), .pointer (some ⟨n + 3, 0, none⟩)] wr
    (EPost w0 wr n0 n a b (cntE (iffB a b) d s hd x) vw hd)
theorem each_end (w0 : World) (n0 n a b d : Nat) (hd : List Lk) : EachAt w0 n0 n a b (d + 1) 0 hd := by
  intro wr x vw h
  have HC : Hid (cntE (iffB a b) (d + 1) 0 hd x = if iffB a b hd then wrap64 (x + 1) else x) := by unfold Hid; rw [cntE, if_pos rfl]
  rw [HC.out]
  clear HC
  have HK := Lib.hid (back_any w0 n0 n a b x vw hd wr h)
  have c0 : wr.cell? ⟨n, 0, none⟩ = some (cbV n0) := cell_of_one h.cc
  have c1 : wr.cell? ⟨n + 2, 0, none⟩ = some vw := cell_of_one h.cw
  obtain ⟨A, c, rfl, _, _, _⟩ := h.aw.1.rd okDomino
  clear h
  generalize (if iffB a b hd then wrap64 (x + 1) else x) = z at *
  go_enter Try.func127, Try.ntmps127
  go_wp2_with fail
  refine HK.out.mono ?_
  rintro e w1 ⟨rfl, h1, h2⟩
  have H1 := Lib.hid h1
  have H2 := Lib.hid h2
  clear h1 h2
  go_wp2_with fail
  go_end0
  exact ⟨rfl, _, H1.out, H2.out⟩
end Go.Proofs.Ytehnbalbpfmijaa

namespace Go.Proofs.Ytehnbalbpfmijaa
open Go.RowKit
set_option linter.unusedVariables false

set_option maxRecDepth 100000 in
set_option maxHeartbeats 8000000 in
theorem each_step (w0 : World) (n0 n a b d s : Nat) (hd : List Lk) (hs : s ≠ 0) (hl : s < 18446744073709551616) (hh : hd.length ≤ 100)
    (IH : ∀ down, fitB s (dOf (fstN s) down) = true → EachAt w0 n0 n a b d (minN s (dM (dOf (fstN s) down))) (hd ++ [dOf (fstN s) down])) : EachAt w0 n0 n a b (d + 1) s hd := by
  intro wr x vw h
  have hsz : ((s : Int) == 0) = false := by rw [beq_eq_false_iff_ne]; omega
  obtain ⟨xs, HXE⟩ : ∃ xs : Nat → Int, Hid (xs = fun j => if j = 0 then x else if j = 1 then (if fitB s (dOf (fstN s) false) then cntE (iffB a b) d (minN s (dM (dOf (fstN s) false))) (hd ++ [dOf (fstN s) false]) x else x) else cntE (iffB a b) (d + 1) s hd x) := ⟨_, rfl⟩
  have HX0 : Hid (xs 0 = x) := by rw [HXE.out]; rfl
  have HX2 : Hid (xs 2 = cntE (iffB a b) (d + 1) s hd x) := by rw [HXE.out]; rfl
  have HXS : Hid (∀ j, j < 2 → xs (j + 1) = if fitB s (dOf (fstN s) (decide (j = 1))) then cntE (iffB a b) d (minN s (dM (dOf (fstN s) (decide (j = 1))))) (hd ++ [dOf (fstN s) (decide (j = 1))]) (xs j) else xs j) := by
    intro j hj
    rw [HXE.out]
    rcases (show j = 0 ∨ j = 1 by omega) with rfl | rfl
    · rfl
    · simp only [cntE, if_neg hs]; rfl
  rw [← HX2.out]
  have HFC := Lib.hid (firstCell_any s hs hl)
  have HIH := Lib.hid IH
  have hf64 := (fstN_spec hs hl).2.1
  clear HXE HX2 IH hs
  generalize fstN s = f at *
  have H := Lib.hid h
  clear h
  go_enter Try.func127, Try.ntmps127
  go_wp2_with fail
  refine (HFC.out _).mono ?_
  rintro e w1 ⟨rfl, hb1⟩
  obtain ⟨cx, HCX⟩ : ∃ z : Int, Hid (((f % 8 : Nat) : Int) = z) := ⟨_, rfl⟩
  obtain ⟨cy, HCY⟩ : ∃ z : Int, Hid (((f / 8 : Nat) : Int) = z) := ⟨_, rfl⟩
  have HDO : Hid (∀ dn, dOf f dn = (cx, cy, dn)) := fun dn => by unfold dOf; rw [HCX.out, HCY.out]
  rw [HCX.out, HCY.out]
  have H1 := Lib.hid (H.out.below hb1)
  have HE1 : Hid (EF n0 n wr w1 vw vw) := EF.below hb1
  clear hb1 H HCX HCY
  go_wp2_with fail
  obtain ⟨Ws, hWs, kc, kb, hbs⟩ := two_alloc w1 (.cells #[.int .i64 cx, .int .i64 cy] 44) (.cells #[.bool false, .bool true] 4)
  rw [← hWs]
  have HC0 := Lib.hid (H1.out.below hbs)
  have HE0 := Lib.hid (HE1.out.trans (EF.below hbs))
  have HLC := Lib.hid (show n + 3 < w1.heap.size ∧ n0 + 2 < n ∧ ∀ g, vw.ownBlock = some g → g < w1.heap.size from ⟨lt_of_block H1.out.cr, H1.out.l0, fun g hg => (H1.out.aw.1.lt g hg).2⟩)
  have HKC := Lib.hid kc; have HKB := Lib.hid kb
  have HSW : Hid (w1.heap.size + 1 < Ws.heap.size) := lt_of_block kb
  clear hWs kc kb hbs H1 HE1
  go_loopw [18] (fun i wr2 => ∃ (j : Nat) (vwj : Value), j ≤ 2 ∧ i = .int .i64 j ∧ Hid (CF w0 wr2 n0 n a b (xs j) vwj hd) ∧ Hid (EF n0 n Ws wr2 vw vwj)) (fun i _ => 2 - (intOf i).toNat)
  case atStart => exact ⟨0, vw, by omega, rfl, (by rw [HX0.out]; exact HC0), ⟨fun k _ _ _ _ => rfl, fun g hg => .inl hg, Nat.le_refl _⟩⟩
  case round =>
    obtain ⟨j, vwj, hj, rfl, HC, HEF⟩ := hrel
    by_cases hj2 : j < 2
    · have ht : decide ((j : Int) < 2) = true := by simp only [decide_eq_true_eq]; omega
      have hj0 : (0 : Int) ≤ (j : Int) := by omega
      have hj1 : (j : Int) < 2 := by omega
      have HXJ := Lib.hid (HXS.out j hj2)
      have hlc := HLC.out
      have hsw := HSW.out
      have hkc : wr.heap[w1.heap.size]? = some (.cells #[.int .i64 cx, .int .i64 cy] 44 (0, 0)) := (HEF.out.1 _ (by omega) (by omega) (by omega) (fun e => by have := hlc.2.2 _ e; omega)).trans HKC.out
      have hkb : wr.heap[w1.heap.size + 1]? = some (.cells #[.bool false, .bool true] 4 (0, 0)) := (HEF.out.1 _ (by omega) (by omega) (by omega) (fun e => by have := hlc.2.2 _ e; omega)).trans HKB.out
      have cc0 : wr.cell? ⟨w1.heap.size, 0, none⟩ = some (.int .i64 cx) := by rw [blk_cell hkc]; rfl
      have cc1 : wr.cell? ⟨w1.heap.size, 1, none⟩ = some (.int .i64 cy) := by rw [blk_cell hkc]; rfl
      have cb := cell_of_bools hkb j hj2
      obtain ⟨dn, HDN⟩ : ∃ dn, Hid (decide (j = 1) = dn) := ⟨_, rfl⟩
      rw [HDN.out] at cb HXJ
      rw [HDO.out dn] at HXJ
      have HIJ := Lib.hid (HIH.out dn)
      rw [HDO.out dn] at HIJ
      clear hkc hkb hlc hsw HDN
      go_wp2_with fail
      obtain ⟨W, hW, kd, hbW⟩ := one_alloc wr (.cells #[.int .i64 cx, .int .i64 cy, .bool dn] 46)
      rw [← hW]
      have HCW := Lib.hid (HC.out.below hbW)
      have HLd : Hid (wr.heap.size < W.heap.size) := lt_of_block kd
      have HS0 : Hid (OneT W W.drew wr.heap.size cx cy dn) := (OneT.of kd).drew
      have HBW := Lib.hid hbW
      have HKD := Lib.hid kd
      have HOW := Lib.hid (show n + 3 < wr.heap.size ∧ ∀ g, vwj.ownBlock = some g → g < wr.heap.size from ⟨lt_of_block HC.out.cr, fun g hg => (HC.out.aw.1.lt g hg).2⟩)
      clear hW kd hbW cc0 cc1 cb HC
      cases hdb : domB cx cy dn
      · have HDB := Lib.hid hdb
        have HNF : Hid (fitB s (cx, cy, dn) = false) := by unfold Hid fitB domL; simp [hdb]
        clear hdb
        go_wp2_with fail
        refine wp_region_held_drew (S := fun w' => OneT W w' wr.heap.size cx cy dn) (by kernel_rfl) (by exact HS0.out) (fun hHeld => ?_)
        refine wpAnyH_take (i := 0) (oi := ⟨_, _, _, _, _, _⟩) (v := ?vap3012q1n0) rfl (by kernel_rfl) (by kernel_rfl) (by kernel_rfl) (fun _ _ _ h => h) (Or.inl ⟨by rfl, ?hap3012q1n0⟩) (by assumption) ?_
        case hap3012q1n0 => (intro w hSw; (try dsimp only at hSw); go_simp; try with_reducible rfl)
        try simp only [Act.put, List.setIfInBounds_toArray, List.set_cons_zero, List.set_cons_succ]
        refine wpAnyH_ready (rs := [1]) (by kernel_rfl) (by simp) ?_
        refine AllReadyH.cons (o := ⟨_, _, _, _, _, _⟩) rfl (fun K hK => ?_) AllReadyH.nil
        go_simp
        go_at_call 129
        refine (DominoOk_any cx cy dn _).mono ?_
        rintro e w9 ⟨rfl, hb9⟩
        rw [HDB.out]
        refine hK.out _ _ (by exact OneT.keep hb9 HLd.out (by assumption)) (fun hHeld => ?_)
        clear hK K
        try simp only [Act.put, List.setIfInBounds_toArray, List.set_cons_zero, List.set_cons_succ]
        refine wpAnyH_take (i := 2) (oi := ⟨_, _, _, _, _, _⟩) (v := ?vap3012q2n2) rfl (by kernel_rfl) (by kernel_rfl) (by kernel_rfl) (fun _ _ _ h => h) (Or.inl ⟨by rfl, ?hap3012q2n2⟩) (by assumption) ?_
        case hap3012q2n2 => (intro w hSw; (try dsimp only at hSw); go_simp; try with_reducible rfl)
        try simp only [Act.put, List.setIfInBounds_toArray, List.set_cons_zero, List.set_cons_succ]
        refine wpAnyH_take (i := 3) (oi := ⟨_, _, _, _, _, _⟩) (v := undef) rfl (by kernel_rfl) (by kernel_rfl) (by kernel_rfl) (fun _ _ _ h => h) (Or.inr ⟨by rfl, rfl⟩) (by assumption) ?_
        try simp only [Act.put, List.setIfInBounds_toArray, List.set_cons_zero, List.set_cons_succ]
        refine wpAnyH_take (i := 4) (oi := ⟨_, _, _, _, _, _⟩) (v := undef) rfl (by kernel_rfl) (by kernel_rfl) (by kernel_rfl) (fun _ _ _ h => h) (Or.inr ⟨by rfl, rfl⟩) (by assumption) ?_
        try simp only [Act.put, List.setIfInBounds_toArray, List.set_cons_zero, List.set_cons_succ]
        refine wpAnyH_take (i := 5) (oi := ⟨_, _, _, _, _, _⟩) (v := undef) rfl (by kernel_rfl) (by kernel_rfl) (by kernel_rfl) (fun _ _ _ h => h) (Or.inr ⟨by rfl, rfl⟩) (by assumption) ?_
        try simp only [Act.put, List.setIfInBounds_toArray, List.set_cons_zero, List.set_cons_succ]
        refine wpAnyH_take (i := 6) (oi := ⟨_, _, _, _, _, _⟩) (v := undef) rfl (by kernel_rfl) (by kernel_rfl) (by kernel_rfl) (fun _ _ _ h => h) (Or.inr ⟨by rfl, rfl⟩) (by assumption) ?_
        try simp only [Act.put, List.setIfInBounds_toArray, List.set_cons_zero, List.set_cons_succ]
        refine wpAnyH_take (i := 7) (oi := ⟨_, _, _, _, _, _⟩) (v := undef) rfl (by kernel_rfl) (by kernel_rfl) (by kernel_rfl) (fun _ _ _ h => h) (Or.inr ⟨by rfl, rfl⟩) (by assumption) ?_
        try simp only [Act.put, List.setIfInBounds_toArray, List.set_cons_zero, List.set_cons_succ]
        refine wpAnyH_take (i := 8) (oi := ⟨_, _, _, _, _, _⟩) (v := undef) rfl (by kernel_rfl) (by kernel_rfl) (by kernel_rfl) (fun _ _ _ h => h) (Or.inr ⟨by rfl, rfl⟩) (by assumption) ?_
        try simp only [Act.put, List.setIfInBounds_toArray, List.set_cons_zero, List.set_cons_succ]
        refine wpAnyH_take (i := 9) (oi := ⟨_, _, _, _, _, _⟩) (v := undef) rfl (by kernel_rfl) (by kernel_rfl) (by kernel_rfl) (fun _ _ _ h => h) (Or.inr ⟨by rfl, rfl⟩) (by assumption) ?_
        try simp only [Act.put, List.setIfInBounds_toArray, List.set_cons_zero, List.set_cons_succ]
        refine wpAnyH_take (i := 10) (oi := ⟨_, _, _, _, _, _⟩) (v := ?vap3012q3n10) rfl (by kernel_rfl) (by kernel_rfl) (by kernel_rfl) (fun _ _ _ h => h) (Or.inl ⟨by rfl, ?hap3012q3n10⟩) (by assumption) ?_
        case hap3012q3n10 => (intro w hSw; (try dsimp only at hSw); go_simp; try with_reducible rfl)
        try simp only [Act.put, List.setIfInBounds_toArray, List.set_cons_zero, List.set_cons_succ]
        refine wpAnyH_done (by kernel_rfl) ?_ _
        have HEN : Hid (xs (j + 1) = xs j) := by unfold Hid; rw [HXJ.out]; simp [HNF.out]
        have hS := (show OneT W _ wr.heap.size cx cy dn from by assumption)
        have HCE := Lib.hid (HCW.out.below hS.2.2.2.2)
        have HEE := Lib.hid (HEF.out.trans ((EF.below HBW.out).trans (EF.below hS.2.2.2.2)))
        clear hS
        go_wp2_with fail
        go_roundw
        case rel => exact ⟨j + 1, _, by omega, by go_num, (by rw [HEN.out]; exact HCE), HEE⟩
        case measure => simp [intOf]; omega
      · have HDB := Lib.hid hdb
        have HSX := Lib.hid (fun W => dset_Z cx cy dn W hdb)
        have HML := Lib.hid (dM_lt (l := (cx, cy, dn)) hdb)
        have HFB : Hid (fitB s (cx, cy, dn) = (s &&& dM (cx, cy, dn) == dM (cx, cy, dn))) := by unfold Hid fitB domL; simp [hdb]
        have HAN := Lib.hid (u64_and_nat s (dM (cx, cy, dn)) hl HML.out)
        have HNN := Lib.hid (u64_andNot_nat s (dM (cx, cy, dn)) hl HML.out)
        clear hdb
        obtain ⟨m, HM⟩ : ∃ m, Hid (dM (cx, cy, dn) = m) := ⟨_, rfl⟩
        rw [HM.out] at HSX HML HFB HAN HNN HXJ HIJ
        have HMN : Hid (bits .andNot .u64 (s : Int) (m : Int) = ((minN s m : Nat) : Int)) := HNN.out
        clear HNN
        cases hft : (s &&& m == m)
        · have hq : (bits .and .u64 (s : Int) (m : Int) == (m : Int)) = false := by rw [HAN.out, beq_eq_false_iff_ne]; rw [beq_eq_false_iff_ne] at hft; omega
          have HNF : Hid (fitB s (cx, cy, dn) = false) := by rw [HFB.out]; exact hft
          clear hft
          go_wp2_with fail
          refine wp_region_held_drew (S := fun w' => OneT W w' wr.heap.size cx cy dn) (by kernel_rfl) (by exact HS0.out) (fun hHeld => ?_)
          refine wpAnyH_take (i := 0) (oi := ⟨_, _, _, _, _, _⟩) (v := ?vap3013q1n0) rfl (by kernel_rfl) (by kernel_rfl) (by kernel_rfl) (fun _ _ _ h => h) (Or.inl ⟨by rfl, ?hap3013q1n0⟩) (by assumption) ?_
          case hap3013q1n0 => (intro w hSw; (try dsimp only at hSw); go_simp; try with_reducible rfl)
          try simp only [Act.put, List.setIfInBounds_toArray, List.set_cons_zero, List.set_cons_succ]
          refine wpAnyH_ready (rs := [1]) (by kernel_rfl) (by simp) ?_
          refine AllReadyH.cons (o := ⟨_, _, _, _, _, _⟩) rfl (fun K hK => ?_) AllReadyH.nil
          go_simp
          go_at_call 129
          refine (DominoOk_any cx cy dn _).mono ?_
          rintro e w9 ⟨rfl, hb9⟩
          rw [HDB.out]
          refine hK.out _ _ (by exact OneT.keep hb9 HLd.out (by assumption)) (fun hHeld => ?_)
          clear hK K
          try simp only [Act.put, List.setIfInBounds_toArray, List.set_cons_zero, List.set_cons_succ]
          refine wpAnyH_take (i := 2) (oi := ⟨_, _, _, _, _, _⟩) (v := ?vap3013q2n2) rfl (by kernel_rfl) (by kernel_rfl) (by kernel_rfl) (fun _ _ _ h => h) (Or.inl ⟨by rfl, ?hap3013q2n2⟩) (by assumption) ?_
          case hap3013q2n2 => (intro w hSw; (try dsimp only at hSw); go_simp; try with_reducible rfl)
          try simp only [Act.put, List.setIfInBounds_toArray, List.set_cons_zero, List.set_cons_succ]
          refine wpAnyH_take (i := 3) (oi := ⟨_, _, _, _, _, _⟩) (v := ?vap3013q3n3) rfl (by kernel_rfl) (by kernel_rfl) (by kernel_rfl) (fun _ _ _ h => h) (Or.inl ⟨by rfl, ?hap3013q3n3⟩) (by assumption) ?_
          case hap3013q3n3 => (intro w hSw; (try dsimp only at hSw); go_simp; try with_reducible rfl)
          try simp only [Act.put, List.setIfInBounds_toArray, List.set_cons_zero, List.set_cons_succ]
          refine wpAnyH_take (i := 4) (oi := ⟨_, _, _, _, _, _⟩) (v := ?vap3013q4n4) rfl (by kernel_rfl) (by kernel_rfl) (by kernel_rfl) (fun _ _ _ h => h) (Or.inl ⟨by rfl, ?hap3013q4n4⟩) (by assumption) ?_
          case hap3013q4n4 => (intro w hSw; (try dsimp only at hSw); go_simp; try with_reducible rfl)
          try simp only [Act.put, List.setIfInBounds_toArray, List.set_cons_zero, List.set_cons_succ]
          refine wpAnyH_take (i := 7) (oi := ⟨_, _, _, _, _, _⟩) (v := ?vap3013q5n7) rfl (by kernel_rfl) (by kernel_rfl) (by kernel_rfl) (fun _ _ _ h => h) (Or.inl ⟨by rfl, ?hap3013q5n7⟩) (by assumption) ?_
          case hap3013q5n7 => (intro w hSw; (try dsimp only at hSw); go_simp; try with_reducible rfl)
          try simp only [Act.put, List.setIfInBounds_toArray, List.set_cons_zero, List.set_cons_succ]
          refine wpAnyH_ready (rs := [5]) (by kernel_rfl) (by simp) ?_
          refine AllReadyH.cons (o := ⟨_, _, _, _, _, _⟩) rfl (fun K hK => ?_) AllReadyH.nil
          go_simp
          go_at_call 130
          refine (HSX.out _).mono ?_
          rintro e w9 ⟨rfl, hb9⟩
          refine hK.out _ _ (by exact OneT.keep hb9 HLd.out (by assumption)) (fun hHeld => ?_)
          clear hK K
          try simp only [Act.put, List.setIfInBounds_toArray, List.set_cons_zero, List.set_cons_succ]
          refine wpAnyH_take (i := 6) (oi := ⟨_, _, _, _, _, _⟩) (v := ?vap3013q6n6) rfl (by kernel_rfl) (by kernel_rfl) (by kernel_rfl) (fun _ _ _ h => h) (Or.inl ⟨by rfl, ?hap3013q6n6⟩) (by assumption) ?_
          case hap3013q6n6 => (intro w hSw; (try dsimp only at hSw); go_simp; try with_reducible rfl)
          try simp only [Act.put, List.setIfInBounds_toArray, List.set_cons_zero, List.set_cons_succ]
          refine wpAnyH_ready (rs := [8]) (by kernel_rfl) (by simp) ?_
          refine AllReadyH.cons (o := ⟨_, _, _, _, _, _⟩) rfl (fun K hK => ?_) AllReadyH.nil
          go_simp
          go_at_call 130
          refine (HSX.out _).mono ?_
          rintro e w9 ⟨rfl, hb9⟩
          refine hK.out _ _ (by exact OneT.keep hb9 HLd.out (by assumption)) (fun hHeld => ?_)
          clear hK K
          try simp only [Act.put, List.setIfInBounds_toArray, List.set_cons_zero, List.set_cons_succ]
          refine wpAnyH_take (i := 9) (oi := ⟨_, _, _, _, _, _⟩) (v := ?vap3013q7n9) rfl (by kernel_rfl) (by kernel_rfl) (by kernel_rfl) (fun _ _ _ h => h) (Or.inl ⟨by rfl, ?hap3013q7n9⟩) (by assumption) ?_
          case hap3013q7n9 => (intro w hSw; (try dsimp only at hSw); go_simp; try with_reducible rfl)
          try simp only [Act.put, List.setIfInBounds_toArray, List.set_cons_zero, List.set_cons_succ]
          refine wpAnyH_take (i := 10) (oi := ⟨_, _, _, _, _, _⟩) (v := ?vap3013q8n10) rfl (by kernel_rfl) (by kernel_rfl) (by kernel_rfl) (fun _ _ _ h => h) (Or.inl ⟨by rfl, ?hap3013q8n10⟩) (by assumption) ?_
          case hap3013q8n10 => (intro w hSw; (try dsimp only at hSw); go_simp; try with_reducible rfl)
          try simp only [Act.put, List.setIfInBounds_toArray, List.set_cons_zero, List.set_cons_succ]
          refine wpAnyH_done (by kernel_rfl) ?_ _
          have HEN : Hid (xs (j + 1) = xs j) := by unfold Hid; rw [HXJ.out]; simp [HNF.out]
          have hS := (show OneT W _ wr.heap.size cx cy dn from by assumption)
          have HCE := Lib.hid (HCW.out.below hS.2.2.2.2)
          have HEE := Lib.hid (HEF.out.trans ((EF.below HBW.out).trans (EF.below hS.2.2.2.2)))
          clear hS
          go_wp2_with fail
          go_roundw
          case rel => exact ⟨j + 1, _, by omega, by go_num, (by rw [HEN.out]; exact HCE), HEE⟩
          case measure => simp [intOf]; omega
        · have hq : (bits .and .u64 (s : Int) (m : Int) == (m : Int)) = true := by rw [HAN.out, beq_iff_eq]; rw [beq_iff_eq] at hft; omega
          have HNF : Hid (fitB s (cx, cy, dn) = true) := by rw [HFB.out]; exact hft
          clear hft
          go_wp2_with fail
          refine wp_region_held_drew (S := fun w' => OneT W w' wr.heap.size cx cy dn) (by kernel_rfl) (by exact HS0.out) (fun hHeld => ?_)
          refine wpAnyH_take (i := 0) (oi := ⟨_, _, _, _, _, _⟩) (v := ?vap3015q1n0) rfl (by kernel_rfl) (by kernel_rfl) (by kernel_rfl) (fun _ _ _ h => h) (Or.inl ⟨by rfl, ?hap3015q1n0⟩) (by assumption) ?_
          case hap3015q1n0 => (intro w hSw; (try dsimp only at hSw); go_simp; try with_reducible rfl)
          try simp only [Act.put, List.setIfInBounds_toArray, List.set_cons_zero, List.set_cons_succ]
          refine wpAnyH_ready (rs := [1]) (by kernel_rfl) (by simp) ?_
          refine AllReadyH.cons (o := ⟨_, _, _, _, _, _⟩) rfl (fun K hK => ?_) AllReadyH.nil
          go_simp
          go_at_call 129
          refine (DominoOk_any cx cy dn _).mono ?_
          rintro e w9 ⟨rfl, hb9⟩
          rw [HDB.out]
          refine hK.out _ _ (by exact OneT.keep hb9 HLd.out (by assumption)) (fun hHeld => ?_)
          clear hK K
          try simp only [Act.put, List.setIfInBounds_toArray, List.set_cons_zero, List.set_cons_succ]
          refine wpAnyH_take (i := 2) (oi := ⟨_, _, _, _, _, _⟩) (v := ?vap3015q2n2) rfl (by kernel_rfl) (by kernel_rfl) (by kernel_rfl) (fun _ _ _ h => h) (Or.inl ⟨by rfl, ?hap3015q2n2⟩) (by assumption) ?_
          case hap3015q2n2 => (intro w hSw; (try dsimp only at hSw); go_simp; try with_reducible rfl)
          try simp only [Act.put, List.setIfInBounds_toArray, List.set_cons_zero, List.set_cons_succ]
          refine wpAnyH_take (i := 3) (oi := ⟨_, _, _, _, _, _⟩) (v := ?vap3015q3n3) rfl (by kernel_rfl) (by kernel_rfl) (by kernel_rfl) (fun _ _ _ h => h) (Or.inl ⟨by rfl, ?hap3015q3n3⟩) (by assumption) ?_
          case hap3015q3n3 => (intro w hSw; (try dsimp only at hSw); go_simp; try with_reducible rfl)
          try simp only [Act.put, List.setIfInBounds_toArray, List.set_cons_zero, List.set_cons_succ]
          refine wpAnyH_take (i := 4) (oi := ⟨_, _, _, _, _, _⟩) (v := ?vap3015q4n4) rfl (by kernel_rfl) (by kernel_rfl) (by kernel_rfl) (fun _ _ _ h => h) (Or.inl ⟨by rfl, ?hap3015q4n4⟩) (by assumption) ?_
          case hap3015q4n4 => (intro w hSw; (try dsimp only at hSw); go_simp; try with_reducible rfl)
          try simp only [Act.put, List.setIfInBounds_toArray, List.set_cons_zero, List.set_cons_succ]
          refine wpAnyH_take (i := 7) (oi := ⟨_, _, _, _, _, _⟩) (v := ?vap3015q5n7) rfl (by kernel_rfl) (by kernel_rfl) (by kernel_rfl) (fun _ _ _ h => h) (Or.inl ⟨by rfl, ?hap3015q5n7⟩) (by assumption) ?_
          case hap3015q5n7 => (intro w hSw; (try dsimp only at hSw); go_simp; try with_reducible rfl)
          try simp only [Act.put, List.setIfInBounds_toArray, List.set_cons_zero, List.set_cons_succ]
          refine wpAnyH_ready (rs := [5]) (by kernel_rfl) (by simp) ?_
          refine AllReadyH.cons (o := ⟨_, _, _, _, _, _⟩) rfl (fun K hK => ?_) AllReadyH.nil
          go_simp
          go_at_call 130
          refine (HSX.out _).mono ?_
          rintro e w9 ⟨rfl, hb9⟩
          refine hK.out _ _ (by exact OneT.keep hb9 HLd.out (by assumption)) (fun hHeld => ?_)
          clear hK K
          try simp only [Act.put, List.setIfInBounds_toArray, List.set_cons_zero, List.set_cons_succ]
          refine wpAnyH_take (i := 6) (oi := ⟨_, _, _, _, _, _⟩) (v := ?vap3015q6n6) rfl (by kernel_rfl) (by kernel_rfl) (by kernel_rfl) (fun _ _ _ h => h) (Or.inl ⟨by rfl, ?hap3015q6n6⟩) (by assumption) ?_
          case hap3015q6n6 => (intro w hSw; (try dsimp only at hSw); go_simp; try with_reducible rfl)
          try simp only [Act.put, List.setIfInBounds_toArray, List.set_cons_zero, List.set_cons_succ]
          refine wpAnyH_ready (rs := [8]) (by kernel_rfl) (by simp) ?_
          refine AllReadyH.cons (o := ⟨_, _, _, _, _, _⟩) rfl (fun K hK => ?_) AllReadyH.nil
          go_simp
          go_at_call 130
          refine (HSX.out _).mono ?_
          rintro e w9 ⟨rfl, hb9⟩
          refine hK.out _ _ (by exact OneT.keep hb9 HLd.out (by assumption)) (fun hHeld => ?_)
          clear hK K
          try simp only [Act.put, List.setIfInBounds_toArray, List.set_cons_zero, List.set_cons_succ]
          refine wpAnyH_take (i := 9) (oi := ⟨_, _, _, _, _, _⟩) (v := ?vap3015q7n9) rfl (by kernel_rfl) (by kernel_rfl) (by kernel_rfl) (fun _ _ _ h => h) (Or.inl ⟨by rfl, ?hap3015q7n9⟩) (by assumption) ?_
          case hap3015q7n9 => (intro w hSw; (try dsimp only at hSw); go_simp; try with_reducible rfl)
          try simp only [Act.put, List.setIfInBounds_toArray, List.set_cons_zero, List.set_cons_succ]
          refine wpAnyH_take (i := 10) (oi := ⟨_, _, _, _, _, _⟩) (v := ?vap3015q8n10) rfl (by kernel_rfl) (by kernel_rfl) (by kernel_rfl) (fun _ _ _ h => h) (Or.inl ⟨by rfl, ?hap3015q8n10⟩) (by assumption) ?_
          case hap3015q8n10 => (intro w hSw; (try dsimp only at hSw); go_simp; try with_reducible rfl)
          try simp only [Act.put, List.setIfInBounds_toArray, List.set_cons_zero, List.set_cons_succ]
          refine wpAnyH_done (by kernel_rfl) ?_ _
          have hS := (show OneT W w9 wr.heap.size cx cy dn from by assumption)
          have HCE := Lib.hid (HCW.out.below hS.2.2.2.2)
          have HEW := Lib.hid (EF.below (n0 := n0) (n := n) (v := vwj) hS.2.2.2.2)
          have HER := Lib.hid ((EF.below (n0 := n0) (n := n) (v := vwj) HBW.out).trans (EF.below hS.2.2.2.2))
          obtain ⟨s0, s1, s2, s3, s4⟩ := hS
          obtain ⟨Aw, cw, hvw, q1, q2, _⟩ := HCE.out.aw.1.rd okDomino
          subst hvw
          have cl : w9.cell? ⟨n + 2, 0, none⟩ = some (.slice Aw hd.length cw) := cell_of_one HCE.out.cw
          unfold maxLen at q2
          clear hb9 s3 s4
          go_wp2_with (at_builtin; refine wpList_push okDomino rfl _ _ rfl HCE.out.aw rfl (cx, cy, dn) _ rfl _ rfl rfl (by omega) ?_; intro v3 w3 HA3 HG3; obtain ⟨A3, k3, hv3, _⟩ := HA3.out.1.rd okDomino; rw [show (hd ++ [((cx, cy, dn) : Lk)]).length = hd.length + 1 by simp] at hv3; subst hv3; have HP3 := Lib.hid (HCE.out.push HA3.out HG3.out); obtain ⟨u9, hk9⟩ := HP3.out.2; have ck := cell_of_one hk9; have fk := free_of_one hk9; clear hk9)
          have HC10 := Lib.hid HP3.out.1
          have HEW10 := Lib.hid (HEW.out.trans (EF.grew (.slice A3 (hd.length + 1) k3) HG3.out))
          have HER10 := Lib.hid (HER.out.trans (EF.grew (.slice A3 (hd.length + 1) k3) HG3.out))
          obtain ⟨W10, HW10⟩ : ∃ X, Hid (X = w3.setCell ⟨n + 2, 0, none⟩ (.slice A3 (hd.length + 1) k3)) := ⟨_, rfl⟩
          rw [← HW10.out] at HC10 HEW10 HER10 ⊢
          have hlt3 := HOW.out.1
          have hkd : W10.heap[wr.heap.size]? = some (.cells #[.int .i64 cx, .int .i64 cy, .bool dn] 46 (0, 0)) := (HEW10.out.1 _ HLd.out (by have := HC10.out.l0; omega) (by omega) (fun e => by have := HOW.out.2 _ e; omega)).trans HKD.out
          have HKD10 := Lib.hid hkd
          have HS10 : Hid (EachS W10.drew n wr.heap.size cx cy dn) := EachS.of HC10.out.cr hkd
          have HOB : Hid ((Value.slice A3 (hd.length + 1) k3).ownBlock ≠ some (n + 3) ∧ (Value.slice A3 (hd.length + 1) k3).ownBlock ≠ some wr.heap.size) := by
            refine ⟨fun e => by have := HC10.out.bw _ e; omega, fun e => ?_⟩
            rcases HEW10.out.2.1 _ e with e | e
            · have := HOW.out.2 _ e; omega
            · have := HLd.out; omega
          have HCL := Lib.hid (HIJ.out HNF.out)
          clear HP3 HA3 HG3 HW10 HCE HEW HER hkd s0 s1 s2 cl ck fk hlt3
          clear HEW10
          go_wp2_with fail
          refine wp_region_held_drew (S := fun w' => EachS w' n wr.heap.size cx cy dn) (by kernel_rfl) (by exact HS10.out) (fun hHeld => ?_)
          refine wpAnyH_take (i := 0) (oi := ⟨_, _, _, _, _, _⟩) (v := ?vap3014q1n0) rfl (by kernel_rfl) (by kernel_rfl) (by kernel_rfl) (fun _ _ _ h => h) (Or.inl ⟨by rfl, ?hap3014q1n0⟩) (by assumption) ?_
          case hap3014q1n0 => (intro w hSw; (try dsimp only at hSw); go_simp; try with_reducible rfl)
          try simp only [Act.put, List.setIfInBounds_toArray, List.set_cons_zero, List.set_cons_succ]
          refine wpAnyH_take (i := 1) (oi := ⟨_, _, _, _, _, _⟩) (v := ?vap3014q2n1) rfl (by kernel_rfl) (by kernel_rfl) (by kernel_rfl) (fun _ _ _ h => h) (Or.inl ⟨by rfl, ?hap3014q2n1⟩) (by assumption) ?_
          case hap3014q2n1 => (intro w hSw; (try dsimp only at hSw); go_simp; try with_reducible rfl)
          try simp only [Act.put, List.setIfInBounds_toArray, List.set_cons_zero, List.set_cons_succ]
          refine wpAnyH_take (i := 2) (oi := ⟨_, _, _, _, _, _⟩) (v := ?vap3014q3n2) rfl (by kernel_rfl) (by kernel_rfl) (by kernel_rfl) (fun _ _ _ h => h) (Or.inl ⟨by rfl, ?hap3014q3n2⟩) (by assumption) ?_
          case hap3014q3n2 => (intro w hSw; (try dsimp only at hSw); go_simp; try with_reducible rfl)
          try simp only [Act.put, List.setIfInBounds_toArray, List.set_cons_zero, List.set_cons_succ]
          refine wpAnyH_ready (rs := [3]) (by kernel_rfl) (by simp) ?_
          refine AllReadyH.cons (o := ⟨_, _, _, _, _, _⟩) rfl (fun K hK => ?_) AllReadyH.nil
          go_simp
          go_at_call 130
          refine (HSX.out _).mono ?_
          rintro e w11 ⟨rfl, hb11⟩
          have hB11 : Below W10.heap.size W10 w11 := (Below.refl _ _).drew.trans hb11
          have HC11 := Lib.hid (HC10.out.below hB11)
          have HER11 := Lib.hid (HER10.out.trans (EF.below hB11))
          have HKD11 := Lib.hid (blk_below HKD10.out hB11)
          have hS11 : EachS w11 n wr.heap.size cx cy dn := EachS.of HC11.out.cr HKD11.out
          clear hb11 hB11
          refine hK.out _ _ (by first | exact hS12 | exact hS11) (fun hHeld => ?_)
          clear hK K
          try simp only [Act.put, List.setIfInBounds_toArray, List.set_cons_zero, List.set_cons_succ]
          refine wpAnyH_take (i := 4) (oi := ⟨_, _, _, _, _, _⟩) (v := ?vap3014q4n4) rfl (by kernel_rfl) (by kernel_rfl) (by kernel_rfl) (fun _ _ _ h => h) (Or.inl ⟨by rfl, ?hap3014q4n4⟩) (by assumption) ?_
          case hap3014q4n4 => (intro w hSw; (try dsimp only at hSw); go_simp; try with_reducible rfl)
          try simp only [Act.put, List.setIfInBounds_toArray, List.set_cons_zero, List.set_cons_succ]
          refine wpAnyH_ready (rs := [5]) (by kernel_rfl) (by simp) ?_
          refine AllReadyH.cons (o := ⟨_, _, _, _, _, _⟩) rfl (fun K hK => ?_) AllReadyH.nil
          go_simp
          rw [HMN.out]
          go_at_call 127
          refine (HCL.out w11 _ _ HC11.out).mono ?_
          rintro e w12 ⟨rfl, vw12, hC12, hE12⟩
          have HC12 := Lib.hid hC12
          have HE12 := Lib.hid (HER11.out.trans hE12)
          have hS12 : EachS w12 n wr.heap.size cx cy dn := EachS.of hC12.cr ((hE12.1 _ (lt_of_block HKD11.out) (by have := HC11.out.l0; have := HOW.out.1; omega) (by have := HOW.out.1; omega) HOB.out.2).trans HKD11.out)
          clear hC12 hE12
          refine hK.out _ _ (by first | exact hS12 | exact hS11) (fun hHeld => ?_)
          clear hK K
          try simp only [Act.put, List.setIfInBounds_toArray, List.set_cons_zero, List.set_cons_succ]
          refine wpAnyH_done (by kernel_rfl) ?_ _
          obtain ⟨g4, k4, hv12, l1, l2, HPOP⟩ := HC12.out.pop
          subst hv12
          unfold maxLen at l2
          have f4 : w12.cell? ⟨n + 2, 0, none⟩ = some (.slice (some ⟨g4, 0, none⟩) (hd.length + 1) k4) := cell_of_one HC12.out.cw
          have fz4 := free_of_one HC12.out.cw
          have HEF2 := Lib.hid (HEF.out.trans (HE12.out.trans (EF.cell (n0 := n0) (n := n) (v' := .slice (some ⟨g4, 0, none⟩) hd.length k4) ⟨n + 2, 0, none⟩ (.slice (some ⟨g4, 0, none⟩) hd.length k4) (.inr rfl) rfl)))
          have hh1 : IntKind.i64.wrap ((hd.length : Int) + 1 - 1) = (hd.length : Int) := by rw [IntWalk.i64_in _ (by omega)]; omega
          have hh2 : (hd.length : Int) + 1 - 1 = (hd.length : Int) := by omega
          have HFIN : Hid (xs (j + 1) = cntE (iffB a b) d (minN s m) (hd ++ [(cx, cy, dn)]) (xs j)) := by unfold Hid; rw [HXJ.out, HNF.out]; rfl
          rw [← HFIN.out] at HPOP
          clear HFIN
          go_wp2_with fail
          go_roundw
          case rel => exact ⟨j + 1, _, by omega, by go_num, HPOP, HEF2⟩
          case measure => simp [intOf]; omega
    · have ht : decide ((j : Int) < 2) = false := by simp only [decide_eq_false_iff_not]; omega
      obtain rfl : j = 2 := by omega
      go_wp2_with fail
      go_end0
      exact ⟨rfl, _, HC.out, HE0.out.trans HEF.out⟩
end Go.Proofs.Ytehnbalbpfmijaa

namespace Go.Proofs.Ytehnbalbpfmijaa
open Go.RowKit
set_option linter.unusedVariables false

def NN (zs : List Int) : Prop := ∀ x ∈ zs, 0 ≤ x
theorem NN.atk {zs : List Int} (h : NN zs) (k : Nat) : 0 ≤ el zs k := by
  by_cases hk : k < zs.length
  · rw [el_get _ _ hk]; exact h _ (List.getElem_mem _)
  · unfold el; simp [hk]
theorem NN.sum {zs : List Int} (h : NN zs) : 0 ≤ zs.sum := by
  induction zs with
  | nil => simp
  | cons z zs ih =>
    have h1 := h z (by simp)
    have h2 := ih fun x hx => h x (by simp [hx])
    simp only [List.sum_cons]; omega
theorem NN.le {zs : List Int} (h : NN zs) (k : Nat) : el zs k ≤ zs.sum := by
  induction zs generalizing k with
  | nil => simp [el]
  | cons z zs ih =>
    have h1 := h z (by simp)
    have h2 : NN zs := fun x hx => h x (by simp [hx])
    have h3 := h2.sum
    simp only [List.sum_cons]
    cases k with
    | zero => simp [el]; omega
    | succ k => have := ih h2 k; simp [el] at this ⊢; omega
theorem sum_set (zs : List Int) (j : Nat) (z : Int) (hj : j < zs.length) : (zs.set j z).sum = zs.sum - el zs j + z := by
  induction zs generalizing j with
  | nil => simp at hj
  | cons y ys ih =>
    cases j with
    | zero => simp [el]; omega
    | succ j =>
      have := ih j (by simpa using hj)
      simp [el] at this ⊢; omega
theorem NN.put {nx : List Int} {j : Nat} {n : Int} (h : NN nx) (hn : 0 ≤ n) (hs : nx.sum + n ≤ 1099511627776) : NN (putZ nx j n) ∧ (putZ nx j n).sum ≤ nx.sum + n := by
  have h1 := h.atk j
  have h2 := h.le j
  have hw : wrap64 (el nx j + n) = el nx j + n := by unfold wrap64; omega
  unfold putZ
  rw [hw]
  refine ⟨fun x hx => ?_, ?_⟩
  · rcases List.mem_or_eq_of_mem_set hx with hx | hx
    · exact h x hx
    · omega
  · by_cases hj : j < nx.length
    · rw [sum_set _ _ _ hj]; omega
    · rw [List.set_eq_of_length_le (by omega)]; omega
def cF (h : Bool) : Int := if h then 2 else 1
theorem NN.in_ {h b r : Bool} {x k : Nat} {n : Int} {nx : List Int} (hx : NN nx) (hn : 0 ≤ n) (hs : nx.sum + 2 * n ≤ 1099511627776) : NN (inZ h b r x n k nx) ∧ (inZ h b r x n k nx).sum ≤ nx.sum + cF h * n := by
  have p1 := fun j => hx.put (j := j) hn (by omega)
  unfold inZ cF
  by_cases h0 : n = 0
  · rw [if_pos h0]; refine ⟨hx, ?_⟩; subst h0; simp
  · rw [if_neg h0]
    cases h
    · simp only [Bool.false_eq_true, if_false]
      split
      · exact ⟨hx, by omega⟩
      · have := p1 k; exact ⟨this.1, by have := this.2; omega⟩
    · simp only [if_true]
      split
      · have := p1 (k - 2 ^ x); exact ⟨this.1, by have := this.2; omega⟩
      · split
        · cases b
          · have := p1 (k ||| 2 ^ (x + 1)); simp only [Bool.false_eq_true, if_false]; exact ⟨this.1, by have := this.2; omega⟩
          · have h1 := p1 (k ||| 2 ^ x)
            have h2 := h1.1.put (j := k ||| 2 ^ (x + 1)) hn (by have := h1.2; omega)
            simp only [if_true]
            exact ⟨h2.1, by have := h1.2; have := h2.2; omega⟩
        · cases b
          · simp only [Bool.false_eq_true, if_false]; exact ⟨hx, by omega⟩
          · have := p1 (k ||| 2 ^ x); simp only [if_true]; exact ⟨this.1, by have := this.2; omega⟩
theorem sum_take (zs : List Int) : ∀ k, (zs.take (k + 1)).sum = (zs.take k).sum + el zs k := by
  induction zs with
  | nil => intro k; simp [el]
  | cons z zs ih =>
    intro k
    cases k with
    | zero => simp [el]
    | succ k => have := ih k; simp [el] at this ⊢; omega
theorem sum_take_le {zs : List Int} (h : NN zs) (k : Nat) : (zs.take k).sum ≤ zs.sum := by
  have h1 : zs.sum = (zs.take k).sum + (zs.drop k).sum := by rw [← List.sum_append, List.take_append_drop]
  have h2 : NN (zs.drop k) := fun x hx => h x (List.mem_of_mem_drop hx)
  have := h2.sum
  omega
theorem zeros_nn : NN zeros := fun x hx => by rw [zeros] at hx; have := List.eq_of_mem_replicate hx; omega
theorem zeros_sum : zeros.sum = 0 := by
  have : ∀ n, (List.replicate n (0 : Int)).sum = 0 := fun n => by induction n with
    | zero => rfl
    | succ n ih => rw [List.replicate_succ, List.sum_cons, ih]; rfl
  exact this 256
theorem NN.step (h b r : Bool) (x : Nat) {zs : List Int} (hz : NN zs) (hs : zs.sum ≤ 274877906944) : ∀ k, NN (stepTo h b r x zs k) ∧ (stepTo h b r x zs k).sum ≤ cF h * (zs.take k).sum
  | 0 => ⟨zeros_nn, by rw [stepTo, zeros_sum]; simp⟩
  | k + 1 => by
    obtain ⟨h1, h2⟩ := NN.step h b r x hz hs k
    have h3 := sum_take zs k
    have h4 := sum_take_le hz (k + 1)
    have h5 := hz.atk k
    have hc : cF h * (zs.take k).sum ≤ 2 * (zs.take k).sum := by
      have h9 : 0 ≤ (zs.take k).sum := NN.sum fun x hx => hz x (List.mem_of_mem_take hx)
      cases h <;> simp [cF] <;> omega
    obtain ⟨h6, h7⟩ := h1.in_ (h := h) (b := b) (r := r) (x := x) (k := k) h5 (by omega)
    refine ⟨h6, Int.le_trans h7 ?_⟩
    rw [h3, Int.mul_add]
    omega
/-- How many of the first cells a set has. -/
def nCell (T : Nat) : Nat → Nat
  | 0 => 0
  | i + 1 => nCell T i + if hasC T (i % 8) (i / 8) then 1 else 0
theorem NN.prof (T : Nat) : ∀ i, nCell T i ≤ 37 → NN (profTo T i) ∧ (profTo T i).sum ≤ 2 ^ nCell T i
  | 0, _ => by
    refine ⟨fun x hx => ?_, ?_⟩
    · rw [profTo] at hx
      rcases List.mem_or_eq_of_mem_set hx with hx | hx
      · exact zeros_nn x hx
      · omega
    · rw [profTo, sum_set _ _ _ (by rw [zeros_len]; omega), zeros_sum, zeros_el]; simp [nCell]
  | i + 1, hc => by
    have hc2 : nCell T i ≤ 37 := by rw [nCell] at hc; omega
    obtain ⟨h1, h2⟩ := NN.prof T i hc2
    have hp : (2 : Int) ^ nCell T i ≤ 2 ^ 37 := by
      have := Nat.pow_le_pow_right (n := 2) (by omega) hc2
      exact_mod_cast this
    obtain ⟨h3, h4⟩ := NN.step (hasC T (i % 8) (i / 8)) (hasC T (i % 8) (i / 8 + 1)) (hasC T (i % 8 + 1) (i / 8)) (i % 8) h1 (by omega) 256
    refine ⟨h3, ?_⟩
    rw [List.take_of_length_le (by rw [profTo_len]; omega)] at h4
    rw [profTo]
    refine Int.le_trans h4 ?_
    rw [nCell]
    cases hasC T (i % 8) (i / 8)
    · simp [cF]; exact h2
    · simp only [cF, if_true, Int.pow_succ]; omega
theorem prof_bd (T : Nat) (h : nCell T 64 ≤ 37) : 0 ≤ profZ T ∧ profZ T ≤ 2 ^ nCell T 64 := by
  obtain ⟨h1, h2⟩ := NN.prof T 64 h
  exact ⟨h1.atk 0, Int.le_trans (h1.le 0) h2⟩
end Go.Proofs.Ytehnbalbpfmijaa

namespace Go.Proofs.Ytehnbalbpfmijaa
open Go.RowKit
set_option linter.unusedVariables false

def rcZ (a b : Nat) : Int := profZ (setZ (rectZ a b))
theorem rc_tab : ((List.range 7).all fun a => (List.range 7).all fun b => nCell (setZ (rectZ a b)) 64 == a * b) = true := by decide +kernel
theorem rc_bd (a b : Nat) (ha : a ≤ 6) (hb : b ≤ 6) : 0 ≤ rcZ a b ∧ rcZ a b ≤ 2 ^ (a * b) := by
  have h := rc_tab
  rw [List.all_eq_true] at h
  have h := h a (by simp; omega)
  rw [List.all_eq_true] at h
  have h := h b (by simp; omega)
  rw [beq_iff_eq] at h
  have h36 : a * b ≤ 6 * 6 := Nat.mul_le_mul ha hb
  have := prof_bd (setZ (rectZ a b)) (by omega)
  rw [h] at this
  exact this

/-! ### Parts -/
/-- The parts behind the first k places, and the last line. -/
def ptTo (s : Nat) : Nat → List Nat × Nat
  | 0 => ([], 0)
  | k + 1 => if s.testBit k then ((ptTo s k).1 ++ [k + 1 - (ptTo s k).2], k + 1) else ptTo s k
def ptZ (len s : Nat) : List Nat := (ptTo s (len - 1)).1 ++ [len - (ptTo s (len - 1)).2]
theorem ptTo_le (s : Nat) : ∀ k, (ptTo s k).2 ≤ k ∧ (ptTo s k).1.length ≤ k
  | 0 => by simp [ptTo]
  | k + 1 => by
    have := ptTo_le s k
    rw [ptTo]
    split
    · refine ⟨Nat.le_refl _, ?_⟩; simp; omega
    · omega
theorem pt_tab : ((List.range 7).all fun len => (List.range 32).all fun s => len == 0 || ((ptZ len s).sum == len && (ptZ len s).all fun x => decide (1 ≤ x) && decide (x ≤ 6)) && decide ((ptZ len s).length ≤ 6)) = true := by decide +kernel
theorem pt_at {len s : Nat} (h1 : 1 ≤ len) (h6 : len ≤ 6) (hs : s < 32) : (ptZ len s).sum = len ∧ (∀ x ∈ ptZ len s, 1 ≤ x ∧ x ≤ 6) ∧ (ptZ len s).length ≤ 6 ∧ 1 ≤ (ptZ len s).length := by
  have h := pt_tab
  rw [List.all_eq_true] at h
  have h := h len (by simp; omega)
  rw [List.all_eq_true] at h
  have h := h s (by simp; omega)
  simp only [Bool.or_eq_true, Bool.and_eq_true, beq_iff_eq, decide_eq_true_eq, List.all_eq_true] at h
  rcases h with h | ⟨⟨h2, h3⟩, h4⟩
  · omega
  · exact ⟨h2, h3, h4, by unfold ptZ; simp⟩

/-! ### Products -/
def mulI (n c : Int) : Int := if 0 < n then wrap64 (n * c) else n
def mulS (n c : Int) : Int := wrap64 (n * c)
def rowF (f : Int → Int → Int) (c : Nat) (rows : List Nat) (n : Int) : Int := rows.foldl (fun n h => f n (rcZ c h)) n
def colF (f : Int → Int → Int) (cols rows : List Nat) (n : Int) : Int := cols.foldl (fun n c => rowF f c rows n) n
theorem rowF_take (f : Int → Int → Int) (c : Nat) (rows : List Nat) (n : Int) (j : Nat) (h : j < rows.length) : rowF f c (rows.take (j + 1)) n = f (rowF f c (rows.take j) n) (rcZ c rows[j]) := by
  unfold rowF; rw [List.take_succ_eq_append_getElem h, List.foldl_append]; rfl
theorem colF_take (f : Int → Int → Int) (cols rows : List Nat) (n : Int) (i : Nat) (h : i < cols.length) : colF f (cols.take (i + 1)) rows n = rowF f cols[i] rows (colF f (cols.take i) rows n) := by
  unfold colF; rw [List.take_succ_eq_append_getElem h, List.foldl_append]; rfl
theorem mul_bd {n c : Int} {E e : Nat} (h0 : 0 ≤ n) (h1 : n ≤ 2 ^ E) (c0 : 0 ≤ c) (c1 : c ≤ 2 ^ e) (hE : E + e ≤ 40) : mulI n c = n * c ∧ mulS n c = n * c ∧ 0 ≤ n * c ∧ n * c ≤ 2 ^ (E + e) := by
  have h2 : 0 ≤ n * c := Int.mul_nonneg h0 c0
  have h3 : n * c ≤ 2 ^ E * 2 ^ e := Int.mul_le_mul h1 c1 c0 (by exact Int.pow_nonneg (by omega))
  rw [← Int.pow_add] at h3
  have h4 : (2 : Int) ^ (E + e) ≤ 2 ^ 40 := by
    have := Nat.pow_le_pow_right (n := 2) (by omega) hE
    exact_mod_cast this
  have hw : wrap64 (n * c) = n * c := by unfold wrap64; omega
  refine ⟨?_, hw, h2, h3⟩
  unfold mulI
  split
  · exact hw
  · have : n = 0 := by omega
    subst this; simp
theorem row_same (c : Nat) (hc : c ≤ 6) : ∀ (rows : List Nat) (n : Int) (E : Nat), (∀ x ∈ rows, 1 ≤ x ∧ x ≤ 6) → 0 ≤ n → n ≤ 2 ^ E → E + c * rows.sum ≤ 40 → rowF mulI c rows n = rowF mulS c rows n ∧ 0 ≤ rowF mulS c rows n ∧ rowF mulS c rows n ≤ 2 ^ (E + c * rows.sum)
  | [], n, E, _, h0, h1, _ => by simp [rowF]; exact ⟨h0, h1⟩
  | x :: rows, n, E, hx, h0, h1, hE => by
    rw [List.sum_cons, Nat.mul_add] at hE ⊢
    obtain ⟨c0, c1⟩ := rc_bd c x hc (hx x (by simp)).2
    obtain ⟨m1, m2, m3, m4⟩ := mul_bd h0 h1 c0 c1 (by omega)
    have := row_same c hc rows (n * rcZ c x) (E + c * x) (fun y hy => hx y (by simp [hy])) m3 m4 (by omega)
    unfold rowF at *
    rw [List.foldl_cons, List.foldl_cons, m1, m2]
    rw [show E + (c * x + c * rows.sum) = E + c * x + c * rows.sum by omega]
    exact this
theorem col_same : ∀ (cols rows : List Nat) (n : Int) (E : Nat), (∀ x ∈ cols, 1 ≤ x ∧ x ≤ 6) → (∀ x ∈ rows, 1 ≤ x ∧ x ≤ 6) → 0 ≤ n → n ≤ 2 ^ E → E + cols.sum * rows.sum ≤ 40 → colF mulI cols rows n = colF mulS cols rows n ∧ 0 ≤ colF mulS cols rows n ∧ colF mulS cols rows n ≤ 2 ^ (E + cols.sum * rows.sum)
  | [], rows, n, E, _, _, h0, h1, _ => by simp [colF]; exact ⟨h0, h1⟩
  | c :: cols, rows, n, E, hc, hr, h0, h1, hE => by
    rw [List.sum_cons, Nat.add_mul] at hE ⊢
    obtain ⟨m1, m2, m3⟩ := row_same c (hc c (by simp)).2 rows n E hr h0 h1 (by omega)
    have := col_same cols rows (rowF mulS c rows n) (E + c * rows.sum) (fun y hy => hc y (by simp [hy])) hr m2 m3 (by omega)
    unfold colF at *
    rw [List.foldl_cons, List.foldl_cons, m1]
    rw [show E + (c * rows.sum + cols.sum * rows.sum) = E + c * rows.sum + cols.sum * rows.sum by omega]
    exact this
/-- What one pair of sets of lines adds. -/
def prodZ (a b s t : Nat) : Int := colF mulS (ptZ a s) (ptZ b t) 1
def termZ (a b s t : Nat) : Int := if ((ptZ a s).length + (ptZ b t).length) % 2 = 1 then -prodZ a b s t else prodZ a b s t
theorem prod_bd {a b s t : Nat} (ha : 1 ≤ a ∧ a ≤ 6) (hb : 1 ≤ b ∧ b ≤ 6) (hab : a * b ≤ 30) (hs : s < 32) (ht : t < 32) : colF mulI (ptZ a s) (ptZ b t) 1 = prodZ a b s t ∧ 0 ≤ prodZ a b s t ∧ prodZ a b s t ≤ 1073741824 := by
  obtain ⟨p1, p2, p3, _⟩ := pt_at ha.1 ha.2 hs
  obtain ⟨q1, q2, q3, _⟩ := pt_at hb.1 hb.2 ht
  obtain ⟨h1, h2, h3⟩ := col_same (ptZ a s) (ptZ b t) 1 0 p2 q2 (by omega) (by omega) (by rw [p1, q1]; omega)
  refine ⟨h1, h2, Int.le_trans h3 ?_⟩
  rw [p1, q1, Nat.zero_add]
  have h : (2 : Int) ^ (a * b) ≤ 2 ^ 30 := by
    have := Nat.pow_le_pow_right (n := 2) (by omega) hab
    exact_mod_cast this
  exact Int.le_trans h (by decide)
def inT (a b s : Nat) (o : Int) : Nat → Int
  | 0 => o
  | t + 1 => wrap64 (inT a b s o t + termZ a b s t)
def outS (a b : Nat) : Nat → Int
  | 0 => 0
  | s + 1 => inT a b s (outS a b s) (2 ^ (b - 1))
/-- What CountFaultless returns. -/
def fewB (a b : Int) : Bool := inB a 1 6 && inB b 1 6 && decide (a * b ≤ 30)
def fltlZ (a b : Int) : Int := if fewB a b then outS a.toNat b.toNat (2 ^ (a.toNat - 1)) else -1
end Go.Proofs.Ytehnbalbpfmijaa

namespace Go.Proofs.Ytehnbalbpfmijaa
open Go.RowKit
set_option linter.unusedVariables false

theorem count_any (T : Nat) (hT : T < 18446744073709551616) (w : World) :
    Calls Try.prog 156 #[.int .u64 (T : Int)] w fun e w' => e = .returned (.int .i64 (profZ T)) ∧ Below w.heap.size w w' := by
  obtain ⟨res, HRES⟩ : ∃ r, Hid (profZ T = r) := ⟨_, rfl⟩
  have HP := Lib.hid (profile_any T hT w)
  rw [HRES.out] at HP ⊢
  go_enter Try.func156, Try.ntmps156
  go_wp2_with fail
  refine HP.out.mono ?_
  rintro e w1 ⟨rfl, hb1⟩
  go_wp2_with fail
  go_ret
  exact ⟨rfl, hb1⟩
/-- What CountTilings returns. -/
def tilZ (zs : List Int) : Int := if regOkB zs then profZ (setZ zs) else 0
theorem CountTilings_any (v : Value) (zs : List Int) (B : Nat) (w : World) (h : RdI w B v zs) (hB : B ≤ w.heap.size) :
    Calls Try.prog 119 #[.agg #[v]] w fun e w' => e = .returned (.int .i64 (tilZ zs)) ∧ Below w.heap.size w w' := by
  have hb0 : Below w.heap.size w (w.alloc (.cells #[v] 39)) := (Below.refl _ _).alloc (Nat.le_refl _) _
  have HR := Lib.hid (h.below (hb0.mono hB))
  have hn := heap_alloc_new w (.cells #[v] 39)
  have hc : (w.alloc (.cells #[v] 39)).cell? ⟨w.heap.size, 0, none⟩ = some v := by rw [blk_cell hn]; rfl
  have hB2 : B ≤ (w.alloc (.cells #[v] 39)).heap.size := Nat.le_trans hB hb0.size
  have HB2 := Lib.hid hB2
  have HB0 := Lib.hid hb0
  obtain ⟨A, c, rfl, _, g2, _⟩ := id h
  unfold maxLen at g2
  cases hok : regOkB zs
  · have e0 : tilZ zs = 0 := by simp [tilZ, hok]
    rw [e0]
    clear e0 hn hB2 hb0 h
    go_enter Try.func119, Try.ntmps119
    go_wp2_with fail
    generalize w.alloc (.cells #[.slice A zs.length c] 39) = W at *
    refine (RegionOk_any _ zs B W HR.out HB2.out).mono ?_
    rintro e w1 ⟨rfl, hb1⟩
    rw [hok]
    go_wp2_with fail
    go_ret
    exact ⟨rfl, HB0.out.trans (hb1.mono HB0.out.size)⟩
  · obtain ⟨res, HRES⟩ : ∃ r, Hid (tilZ zs = r) := ⟨_, rfl⟩
    have HE : Hid (profZ (setZ zs) = res) := by unfold Hid; rw [← HRES.out]; simp [tilZ, hok]
    rw [HRES.out]
    have HL := Lib.hid (setZ_lt hok)
    clear HRES hn hB2 hb0 h
    go_enter Try.func119, Try.ntmps119
    go_wp2_with fail
    generalize w.alloc (.cells #[.slice A zs.length c] 39) = W at *
    refine (RegionOk_any _ zs B W HR.out HB2.out).mono ?_
    rintro e w1 ⟨rfl, hb1⟩
    rw [hok]
    have hc1 : w1.cell? ⟨w.heap.size, 0, none⟩ = some (.slice A zs.length c) := (hb1.cell (p := ⟨w.heap.size, 0, none⟩) (by
      by_cases hlt : w.heap.size < W.heap.size
      · exact hlt
      · rw [World.cell?, Array.getElem?_eq_none (by simpa using hlt)] at hc; simp at hc)).trans hc
    have HB1 := Lib.hid (HB0.out.trans (hb1.mono HB0.out.size))
    have HR1 := Lib.hid (HR.out.below (hb1.mono HB2.out))
    have HB21 := Lib.hid (Nat.le_trans HB2.out hb1.size)
    clear hc hb1
    go_wp2_with fail
    refine (rset_any _ zs B w1 HR1.out HB21.out hok).mono ?_
    rintro e w2 ⟨rfl, hb2⟩
    have HB3 := Lib.hid (HB1.out.trans (hb2.mono HB1.out.size))
    clear hc1 hb2
    have HC := Lib.hid (count_any (setZ zs) HL.out w2)
    rw [HE.out] at HC
    go_wp2_with fail
    refine HC.out.mono ?_
    rintro e w3 ⟨rfl, hb3⟩
    go_wp2_with fail
    go_ret
    exact ⟨rfl, HB3.out.trans (hb3.mono HB3.out.size)⟩
end Go.Proofs.Ytehnbalbpfmijaa
