/- The contract of the program's rooted. -/
import Derived.Test.YtiecphhenpapoaaTreeM
import Derived.Test.YtiecphhenpapoaaRoot
import Derived.Test.YtiecphhenpapoaaQueue
import Derived.Deep.LoopGhost
namespace Go.Proofs.Ytiecphhenpapoaa
open Go.RowKit
set_option linter.unusedVariables false

structure RMem (w wr : World) (gO cap n lo : Nat) (zs : List Int) (v : Value) (q : List Nat) : Prop where
  own : OwnI wr w.heap.size (.slice (some ⟨gO, 0, none⟩) n cap) zs
  len : zs.length = n
  que : OwnQ wr lo v q
  lt : gO < lo
  le : lo ≤ wr.heap.size
  big : Below w.heap.size w wr
section
variable {w wr w1 : World} {gO cap n lo : Nat} {zs : List Int} {v v' : Value} {q q' : List Nat}
theorem RMem.below (h : RMem w wr gO cap n lo zs v q) (hb : Below wr.heap.size wr w1) : RMem w w1 gO cap n lo zs v q :=
  ⟨h.own.below hb, h.len, h.que.below hb, h.lt, Nat.le_trans h.le hb.size, h.big.trans (hb.mono h.big.size)⟩
theorem RMem.base (h : RMem w wr gO cap n lo zs v q) : w.heap.size ≤ gO := (h.own.lt gO rfl).1
theorem RMem.cell (h : RMem w wr gO cap n lo zs v q) {i : Nat} (hi : i < n) : wr.cell? ⟨gO, i, none⟩ = some (.int .i64 (el zs i)) ∧ wr.frozen? ⟨gO, i, none⟩ = false := by
  have hl := h.len
  have ho : wr.ownsRow w.heap.size 3 1 (.slice (some ⟨gO, 0, none⟩) zs.length cap) zs.length (zs.map (Value.int .i64)) := by rw [hl]; have := h.own; unfold OwnI at this; rw [hl] at this; exact this
  refine ⟨?_, World.ownsRow.frozenAt ho i⟩
  rw [World.ownsRow.cellAt ho i (by omega), List.getElem?_map, List.getElem?_eq_getElem (by omega), el_get _ _ (by omega)]; rfl
theorem RMem.set (h : RMem w wr gO cap n lo zs v q) (i : Nat) (z : Int) : RMem w (wr.setCell ⟨gO, i, none⟩ (.int .i64 z)) gO cap n lo (zs.set i z) v q := by
  have hl := h.len
  have ho : wr.ownsRow w.heap.size 3 1 (.slice (some ⟨gO, 0, none⟩) zs.length cap) zs.length (zs.map (Value.int .i64)) := by rw [hl]; have := h.own; unfold OwnI at this; rw [hl] at this; exact this
  have hst := World.ownsRow.stored ho i (.int .i64 z)
  have hb := h.base
  refine ⟨?_, by rw [List.length_set]; exact hl, h.que.kept hst.2 (fun k hk => by obtain rfl := Option.some.inj hk; exact h.lt), h.lt, by simpa using h.le, h.big.setCell (by show w.heap.size ≤ gO; omega) _⟩
  unfold OwnI
  rw [List.length_set, List.map_set]
  have := hst.1
  rw [hl] at this ⊢
  exact this
theorem RMem.queue (h : RMem w wr gO cap n lo zs v q) (hq : OwnQ wr lo v' q') : RMem w wr gO cap n lo zs v' q' := ⟨h.own, h.len, hq, h.lt, h.le, h.big⟩
theorem RMem.push (h : RMem w wr gO cap n lo zs v q) (hq : OwnQ w1 lo v' q') (hg : ∃ row, wr.grownBy w1 row ∧ ∀ k, row = some k → lo ≤ k) : RMem w w1 gO cap n lo zs v' q' := by
  obtain ⟨row, g1, g2⟩ := hg
  have hb := h.base
  have hl := h.lt
  refine ⟨World.ownsRow.kept h.own g1 (.inr fun e => ?_), h.len, hq, h.lt, Nat.le_trans h.le g1.size, h.big.grown g1 h.big.size fun k hk => by have := g2 k hk; omega⟩
  have := g2 gO e.symm
  omega
end
theorem OwnI.store {w : World} {lo g n cap : Nat} {zs : List Int} (h : OwnI w lo (.slice (some ⟨g, 0, none⟩) n cap) zs) (hl : zs.length = n) (i : Nat) (z : Int) : OwnI (w.setCell ⟨g, i, none⟩ (.int .i64 z)) lo (.slice (some ⟨g, 0, none⟩) n cap) (zs.set i z) := by
  subst hl
  have hst := World.ownsRow.stored h i (.int .i64 z)
  unfold OwnI
  rw [List.length_set, List.map_set]
  exact hst.1
/-- All that is told of rooted. -/
def RetRoot (w : World) (n : Nat) (es : List (Nat × Nat)) (e : Ending) (w' : World) : Prop :=
  ∃ v zs, e = .returned v ∧ RdI w' w'.heap.size v zs ∧ zs.length = n ∧ (∀ i, i < n → -1 ≤ el zs i) ∧ (∀ i, i < n → (0 ≤ el zs i ↔ Con es 0 i)) ∧ Below w.heap.size w w'
theorem lk_ends {wd n : Nat} {x y : Int} {d : Bool} (h : lkIn wd n (x, y, d) = true) : ∃ a b : Nat, postA wd (x, y, d) = (a : Int) ∧ postB wd (x, y, d) = (b : Int) ∧ a < n ∧ b < n ∧ a ≠ b ∧ lkN wd (x, y, d) = (a, b) ∧ (0 ≤ x ∧ x ≤ 4) ∧ 0 ≤ y ∧ y ≤ 4 := by
  obtain ⟨i1, i2, i3, i4, i5, i6, i7⟩ := (lkIn_iff _ _ _).1 h
  obtain ⟨a, ha⟩ := Int.eq_ofNat_of_zero_le i5
  obtain ⟨b, hb⟩ := Int.eq_ofNat_of_zero_le (show 0 ≤ postB wd (x, y, d) by omega)
  rw [ha, hb] at i6; rw [hb] at i7
  exact ⟨a, b, ha, hb, by omega, by omega, by omega, by unfold lkN; rw [ha, hb]; rfl, ⟨i1, i2⟩, i3, i4⟩

set_option maxRecDepth 100000 in
set_option maxHeartbeats 8000000 in
theorem rooted_any (wd ht n : Nat) (u : Value) (ls : List Lk) (B : Nat) (w : World) (hu : RdF elLink w B u ls) (hB : B ≤ w.heap.size) (h1 : 1 ≤ wd ∧ wd ≤ 4) (h2 : 1 ≤ ht ∧ ht ≤ 4) (hn : wd * ht = n) (hl : ∀ l ∈ ls, lkIn wd n l = true) :
    Calls Try.prog 98 #[.int .i64 wd, .int .i64 ht, u] w (RetRoot w n (ls.map (lkN wd))) := by
  obtain ⟨A, c, rfl, g1, g2, G3⟩ := RdT.of (E := elLink) rfl (fun _ => rfl) hu
  unfold maxLen at g2
  clear hu
  have hn16 : n ≤ 16 := by rw [← hn]; exact Nat.mul_le_mul h1.2 h2.2
  have hpos : 0 < n := by rw [← hn]; exact Nat.mul_pos h1.1 h2.1
  have hw : IntKind.i64.wrap ((wd : Int) * (ht : Int)) = (n : Int) := by rw [← Int.natCast_mul, hn]; exact IntWalk.i64_in _ (by omega)
  have hw2 : (wd : Int) * (ht : Int) = (n : Int) := by rw [← Int.natCast_mul, hn]
  have HLI := Lib.hid hl
  have HPOS := Lib.hid hpos
  clear hn hl hpos
  have HA0 : Hid (Acc elInt w w.heap.size (w.alloc (.cells #[] 3)) (.slice (some ⟨w.heap.size, 0, none⟩) 0 0) []) := Acc.start w
  go_enter Try.func98, Try.ntmps98
  go_wp2_with fail
  go_loopw [7, 18] (fun o s wr => ∃ (k : Nat) (v : Value), k ≤ n ∧ s = .int .i64 k ∧ v = o ∧ Hid (Acc elInt w w.heap.size wr v (List.replicate k (-1)))) (fun _ s _ => n - (intOf s).toNat)
  case atStart => exact ⟨0, _, Nat.zero_le _, rfl, rfl, HA0⟩
  case round =>
    obtain ⟨k, v, hk, rfl, rfl, HA⟩ := hrel
    by_cases hlt : k < n
    · have ht : decide ((k : Int) < (n : Int)) = true := by simp only [decide_eq_true_eq]; omega
      go_wp2_with (at_builtin; refine wpList_push okInt rfl _ _ rfl HA.out rfl (-1) _ rfl _ rfl (by simp) (by simp; omega) ?_; intro v2 w2 HA2 HG2)
      go_roundw
      case rel => exact ⟨k + 1, _, by omega, by go_num, rfl, by (unfold Hid; rw [List.replicate_succ']; exact HA2.out)⟩
      case measure => simp [intOf]; omega
    · have ht : decide ((k : Int) < (n : Int)) = false := by simp only [decide_eq_false_iff_not]; omega
      obtain rfl : k = n := by omega
      obtain ⟨gO, cap, hv, hgb, hgl⟩ := World.ownsRow.form HA.out.1 (by simp; exact HPOS.out)
      rw [List.length_replicate] at hv
      subst hv
      have hk0 : (0 : Int) < (k : Int) := by have := HPOS.out; omega
      have hoi : OwnI wr w.heap.size (.slice (some ⟨gO, 0, none⟩) k cap) (List.replicate k (-1)) := ownF_int.1 HA.out.1
      have hc0 : wr.cell? ⟨gO, 0, none⟩ = some (.int .i64 (-1)) ∧ wr.frozen? ⟨gO, 0, none⟩ = false := by
        have ho : wr.ownsRow w.heap.size 3 1 (.slice (some ⟨gO, 0, none⟩) (List.replicate k (-1 : Int)).length cap) (List.replicate k (-1 : Int)).length ((List.replicate k (-1 : Int)).map (Value.int .i64)) := by
          have := hoi; unfold OwnI at this; rw [List.length_replicate] at this ⊢; exact this
        refine ⟨?_, World.ownsRow.frozenAt ho 0⟩
        rw [World.ownsRow.cellAt ho 0 (by simp; exact HPOS.out)]
        simp [HPOS.out]
      obtain ⟨hc0, hf0⟩ := hc0
      have HM0 : Hid (RMem w ((wr.setCell ⟨gO, 0, none⟩ (.int .i64 0)).alloc (.cells #[.int .i64 0] 3)) gO cap k wr.heap.size ((List.replicate k (-1)).set 0 0) (.slice (some ⟨wr.heap.size, 0, none⟩) 1 1) [0]) := by
        have hal := (Below.refl (wr.setCell ⟨gO, 0, none⟩ (.int .i64 0)).heap.size (wr.setCell ⟨gO, 0, none⟩ (.int .i64 0))).alloc (Nat.le_refl _) (.cells #[.int .i64 0] 3)
        have hst := hoi.store (by simp) 0 0
        have hq := OwnQ.start (wr.setCell ⟨gO, 0, none⟩ (.int .i64 0))
        rw [World.size_setCell] at hq
        have hb1 : Below w.heap.size w (wr.setCell ⟨gO, 0, none⟩ (.int .i64 0)) := HA.out.2.1.setCell hgb _
        exact ⟨hst.below hal, by simp, hq, hgl, by simp, hb1.trans (hal.mono hb1.size)⟩
      have HR0 := Lib.hid (ROut.start HPOS.out (ls.map (lkN wd)))
      have HU0 : Hid (2 * unr k ((List.replicate k (-1)).set 0 0) + 1 ≤ 2 * k + 1) := by have := unr_le k ((List.replicate k (-1)).set 0 0); unfold Hid; omega
      have HES : Hid ((ls.map (lkN wd)).length = ls.length) := by unfold Hid; simp
      have hgp : (0 : Int) < (k : Int) := by omega
      clear hoi HA HA0
      generalize hL0 : wr.heap.size = lo at *
      go_wp2_with fail
      go_loopg [8] (2 * k + 1) (fun gk s wr' => ∃ (zs : List Int) (q : List Nat), Hid (RMem w wr' gO cap k lo zs s q) ∧ Hid (ROut k (ls.map (lkN wd)) zs q) ∧ Hid (2 * unr k zs + q.length ≤ gk ∧ gk ≤ 2 * k + 1))
      case atStart => exact ⟨_, [0], HM0, HR0, HU0.out, Nat.le_refl _⟩
      case round =>
        obtain ⟨zs, q, HM, HR, HU⟩ := hrel
        clear HM0 HR0 HU0 hc0 hf0
        obtain ⟨g, off, cp, rfl, q1, q2, q3, q4⟩ := HM.out.que.open_
        unfold maxLen at q2
        cases q with
        | nil =>
          go_wp2_with fail
          go_ret
          have hm := HM.out
          have hr := HR.out
          refine ⟨_, zs, rfl, ?_, hr.len, hr.low, fun i hi => hr.all HPOS.out (fun e he => ?_) i hi, hm.big⟩
          · have := hm.own.rd; exact this
          · obtain ⟨⟨x, y, d⟩, hm2, rfl⟩ := List.mem_map.1 he
            obtain ⟨a, b, _, _, h3, h4, _, h5, _⟩ := lk_ends (HLI.out _ hm2)
            rw [h5]; exact ⟨h3, h4⟩
        | cons own q' =>
          have hd := HM.out.que.head
          obtain ⟨ho1, ho2⟩ := HR.out.que own (by simp)
          have HRI := Lib.hid HR.out.pop
          rw [List.length_cons] at *
          have hqp : decide ((((q'.length + 1 : Nat)) : Int) > 0) = true := by simp only [decide_eq_true_eq]; omega
          have HU1 : Hid (2 * unr k zs + q'.length + 1 ≤ gk ∧ gk ≤ 2 * k + 1) := by have := HU.out; unfold Hid; omega
          by_cases hcp : cp = 1
          case' pos =>
            subst hcp
            obtain ⟨hq0, hq1⟩ := HM.out.que.tail1
            rw [← hq0] at hq1
            have HM1 := Lib.hid (HM.out.queue hq1)
            clear hq0 hq1 HM HR HU
            go_upto_region 11 with (fail)
          case' neg =>
            have hq1 := HM.out.que.tail
            have HM1 := Lib.hid (HM.out.queue hq1)
            clear hq1 HM HR HU
            go_upto_region 11 with (fail)
          all_goals
            clear hd hqp
            go_wp2_with fail
            have hho : (own : Int) < (k : Int) := by omega
            go_loopw [8, 37] (fun s j wr2 => ∃ (m : Nat) (zs2 : List Int) (q2 : List Nat), m ≤ ls.length ∧ j = .int .i64 m ∧ Hid (RMem w wr2 gO cap k lo zs2 s q2) ∧ Hid (RIn k (ls.map (lkN wd)) zs2 q2 own m) ∧ Hid (2 * unr k zs2 + q2.length + 1 ≤ gk)) (fun _ j _ => ls.length - (intOf j).toNat)
            case atStart => exact ⟨0, zs, q', Nat.zero_le _, rfl, HM1, HRI, HU1.out.1⟩
            case round =>
              obtain ⟨m, zs2, q2, hm, rfl, HM2, HR2, HU2⟩ := hrel
              have HGK := Lib.hid HU1.out.2
              clear HM1 HRI
              obtain ⟨g2', off2, cp2, rfl, r1, r2, r3, r4⟩ := HM2.out.que.open_
              unfold maxLen at r2
              by_cases hlm : m < ls.length
              · have htm : decide ((m : Int) < (ls.length : Int)) = true := by simp only [decide_eq_true_eq]; omega
                obtain ⟨ad, rfl, had, hx, hy, hz⟩ := G3.out m hlm
                have hbw := HM2.out.big
                have hx' := (hbw.cell (p := ad.add (m * 3)) (by rw [addBlock]; omega)).trans hx
                have hy' := (hbw.cell (p := ⟨(ad.add (m * 3)).block, (ad.add (m * 3)).off + 1, none⟩) (by show (ad.add (m * 3)).block < _; rw [addBlock]; omega)).trans hy
                have hz' := (hbw.cell (p := ⟨(ad.add (m * 3)).block, (ad.add (m * 3)).off + 2, none⟩) (by show (ad.add (m * 3)).block < _; rw [addBlock]; omega)).trans hz
                have hin := HLI.out _ (List.getElem_mem hlm)
                have hmem : (ls.map (lkN wd))[m]? = some (lkN wd (lx ls m, ly ls m, ld ls m)) := by rw [List.getElem?_map, lk_get _ _ hlm]; rfl
                rw [lk_at _ _ hlm] at hin
                generalize lx ls m = x at *
                generalize ly ls m = y at *
                generalize ld ls m = d at *
                obtain ⟨a, b, ha, hb, i1, i2, i3, i4, i5, i6⟩ := lk_ends hin
                rw [i4] at hmem
                have HA := Lib.hid ha
                have HB := Lib.hid hb
                have hk1 : (m : Int) < (ls.length : Int) := by omega
                have hk0 : (0 : Int) ≤ (m : Int) := by omega
                have HAL := Lib.hid ((Below.refl wr.heap.size wr).alloc (Nat.le_refl _) (.cells #[.int .i64 x, .int .i64 y, .bool d] 101))
                clear hx hy hz hbw ha hb hin i4
                go_wp2_with fail
                refine (posts_any _ _ _ _ _ (by omega) (by omega) (by omega) (by omega) (by omega) (by omega)).mono ?_
                rintro e w3 ⟨rfl, hb3⟩
                rw [HA.out, HB.out]
                have HM4 := Lib.hid (HM2.out.below (HAL.out.trans (hb3.mono HAL.out.size)))
                have HML : Hid (m < (ls.map (lkN wd)).length) := by unfold Hid; rw [List.length_map]; exact hlm
                have HEK : Hid ((ls.map (lkN wd))[m]'HML.out = (a, b)) := by
                  unfold Hid
                  rw [List.getElem?_eq_getElem HML.out] at hmem
                  exact Option.some.inj hmem
                have HNE : Hid (a ≠ b) := i3
                clear hb3 HAL hx' hy' hz' hmem HA HB i3
                by_cases cb : b = own
                · have HBO := Lib.hid cb
                  have cb' := cb.symm
                  subst cb'
                  obtain ⟨hcell, hfr⟩ := HM4.out.cell (i := a) (by omega)
                  have ht0 : (0 : Int) ≤ (a : Int) := by omega
                  have ht1 : (a : Int) < (k : Int) := by omega
                  by_cases cz : el zs2 a < 0
                  · have HMS := Lib.hid (HM4.out.set a (own : Int))
                    have HR5 : Hid (RIn k (ls.map (lkN wd)) (zs2.set a (own : Int)) (q2 ++ [a]) own (m + 1)) := HR2.out.reach HML.out (by omega) (by rw [HEK.out]; exact HNE.out) (by rw [HEK.out]; exact Or.inr ⟨HBO.out, rfl⟩) cz
                    have HU5 : Hid (2 * unr k (zs2.set a (own : Int)) + (q2 ++ [a]).length + 1 ≤ gk) := by
                      have := unr_set (z := (own : Int)) HM4.out.len (t := a) (by omega) cz (by omega)
                      have := HU2.out
                      unfold Hid; simp; omega
                    have hql : q2.length + 1 ≤ 1000 := by have := HU2.out; have := HGK.out; omega
                    go_wp2_with (at_builtin; refine wpList_pushQ Try.underlying32 infoInt rfl _ _ rfl HMS.out.que HMS.out.le rfl a _ rfl _ rfl (by simp) hql ?_; intro v5 w5 HQ5 HG5; obtain ⟨g5, off5, cp5, hv5, _⟩ := HQ5.out.open_; rw [List.length_append, List.length_singleton] at hv5; subst hv5)
                    have HM5 := Lib.hid (HMS.out.push HQ5.out HG5.out)
                    go_roundw
                    case rel => exact ⟨m + 1, _, _, by omega, by go_num, HM5, HR5, HU5⟩
                    case measure => simp [intOf]; omega
                  · have HR5 : Hid (RIn k (ls.map (lkN wd)) zs2 q2 own (m + 1)) := HR2.out.skip HML.out (by rw [HEK.out]; exact ⟨fun h9 => absurd (h9.trans HBO.out.symm) HNE.out, fun h9 => (show 0 ≤ el zs2 a from Int.not_lt.1 cz)⟩)
                    go_wp2_with fail
                    go_roundw
                    case rel => exact ⟨m + 1, _, _, by omega, by go_num, HM4, HR5, HU2⟩
                    case measure => simp [intOf]; omega
                · have tb : ((b : Int) == (own : Int)) = false := by rw [beq_eq_false_iff_ne]; omega
                  have tb' : (b == own) = false := by rw [beq_eq_false_iff_ne]; exact cb
                  by_cases ca : a = own
                  · have HBO := Lib.hid ca
                    have ca' := ca.symm
                    subst ca'
                    obtain ⟨hcell, hfr⟩ := HM4.out.cell (i := b) (by omega)
                    have ht0 : (0 : Int) ≤ (b : Int) := by omega
                    have ht1 : (b : Int) < (k : Int) := by omega
                    by_cases cz : el zs2 b < 0
                    · have HMS := Lib.hid (HM4.out.set b (own : Int))
                      have HR5 : Hid (RIn k (ls.map (lkN wd)) (zs2.set b (own : Int)) (q2 ++ [b]) own (m + 1)) := HR2.out.reach HML.out (by omega) (by rw [HEK.out]; exact HNE.out) (by rw [HEK.out]; exact Or.inl ⟨HBO.out, rfl⟩) cz
                      have HU5 : Hid (2 * unr k (zs2.set b (own : Int)) + (q2 ++ [b]).length + 1 ≤ gk) := by
                        have := unr_set (z := (own : Int)) HM4.out.len (t := b) (by omega) cz (by omega)
                        have := HU2.out
                        unfold Hid; simp; omega
                      have hql : q2.length + 1 ≤ 1000 := by have := HU2.out; have := HGK.out; omega
                      go_wp2_with (at_builtin; refine wpList_pushQ Try.underlying32 infoInt rfl _ _ rfl HMS.out.que HMS.out.le rfl b _ rfl _ rfl (by simp) hql ?_; intro v5 w5 HQ5 HG5; obtain ⟨g5, off5, cp5, hv5, _⟩ := HQ5.out.open_; rw [List.length_append, List.length_singleton] at hv5; subst hv5)
                      have HM5 := Lib.hid (HMS.out.push HQ5.out HG5.out)
                      go_roundw
                      case rel => exact ⟨m + 1, _, _, by omega, by go_num, HM5, HR5, HU5⟩
                      case measure => simp [intOf]; omega
                    · have HR5 : Hid (RIn k (ls.map (lkN wd)) zs2 q2 own (m + 1)) := HR2.out.skip HML.out (by rw [HEK.out]; exact ⟨fun h9 => (show 0 ≤ el zs2 b from Int.not_lt.1 cz), fun h9 => absurd (HBO.out.trans h9.symm) HNE.out⟩)
                      go_wp2_with fail
                      go_roundw
                      case rel => exact ⟨m + 1, _, _, by omega, by go_num, HM4, HR5, HU2⟩
                      case measure => simp [intOf]; omega
                  · have ta : ((a : Int) == (own : Int)) = false := by rw [beq_eq_false_iff_ne]; omega
                    have ta' : (a == own) = false := by rw [beq_eq_false_iff_ne]; exact ca
                    have HR5 : Hid (RIn k (ls.map (lkN wd)) zs2 q2 own (m + 1)) := HR2.out.skip HML.out (by rw [HEK.out]; exact ⟨fun h9 => absurd h9 ca, fun h9 => absurd h9 cb⟩)
                    clear cb ca
                    go_wp2_with fail
                    go_roundw
                    case rel => exact ⟨m + 1, _, _, by omega, by go_num, HM4, HR5, HU2⟩
                    case measure => simp [intOf]; omega
              · have htm : decide ((m : Int) < (ls.length : Int)) = false := by simp only [decide_eq_false_iff_not]; omega
                have HR3 := Lib.hid (HR2.out.done (by rw [List.length_map]; omega))
                have HQ3 : Hid (2 * unr k zs2 + q2.length ≤ gk - 1 ∧ gk - 1 ≤ 2 * k + 1) := by have := HU2.out; have := HGK.out; unfold Hid; omega
                have hgk : gk - 1 < gk := by have := HU2.out; omega
                go_wp2_with fail
                go_roundg (gk - 1)
                case measure => exact hgk
                case rel => exact ⟨zs2, q2, HM2, HR3, HQ3⟩
end Go.Proofs.Ytiecphhenpapoaa
