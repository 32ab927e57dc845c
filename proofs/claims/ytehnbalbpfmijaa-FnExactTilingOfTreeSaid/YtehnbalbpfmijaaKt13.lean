/- What the claim's walk rests on: parts TilS, OutwW, TilI, TriFill, ToLink. -/
import Derived.Test.YtehnbalbpfmijaaKt10
import Derived.Test.YtehnbalbpfmijaaKt12
import Derived.Test.YtehnbalbpfmijaaKt11
import Derived.Test.YtehnbalbpfmijaaKt8
import Derived.Test.YtehnbalbpfmijaaKt1
namespace Go.Proofs.Ytehnbalbpfmijaa
open Go.RowKit
set_option linter.unusedVariables false

/-- What TilingOfTree returns. -/
def RetTil (w : World) (b : Bool) (xs : List Lk) (e : Ending) (w' : World) : Prop := ∃ u, e = .returned (.tuple #[u, .bool b]) ∧ OwnF elDomino w' w.heap.size u xs ∧ Below w.heap.size w w'
noncomputable def tilQ (p q : Int) (ls : List Lk) : List Lk := if treeB p q ls then tilZ p.toNat q.toNat ls else []
theorem spec_tilP {gw gh W H : Nat} {ls : List Lk} (hw1 : 1 ≤ gw) (hh1 : 1 ≤ gh) (hW : 2 * gw = W + 1) (hH : 2 * gh = H + 1) (hf : FloorOk gw gh) (ht : TreeOk gw gh ls) {T0 T1 : List (Int × Int)} {o0 o1 : List Lk}
    (s0 : SInv W H (fun c => decide (c ∈ ls.map lkC) == true) (iniZ gw gh true) T0 o0) (c0 : Closed W H (fun c => decide (c ∈ ls.map lkC) == true) T0 T0.length 0)
    (s1 : SInv W H (fun c => decide (c ∈ ls.map lkC) == false) (iniZ gw gh false) T1 o1) (c1 : Closed W H (fun c => decide (c ∈ ls.map lkC) == false) T1 T1.length 0) :
    TilP gw gh ls (sortI (o0 ++ o1) (o0 ++ o1).length) := by
  have eW : (W : Int) = 2 * (gw : Int) - 1 := by omega
  have eH : (H : Int) = 2 * (gh : Int) - 1 := by omega
  rw [eW, eH] at s0 c0 s1 c1
  obtain ⟨a1, a2, a3, _⟩ := ini_facts hw1 hh1 true
  obtain ⟨b1, b2, b3, _⟩ := ini_facts hw1 hh1 false
  obtain ⟨R0, d0, k0, r0, m0⟩ := stp_reach (r := 0) (init := isO) s0 c0 (fun c hc => a1 c hc) (fun c e hc he hi => a2 c e hc he hi) (fun v hv h1 => a3 v hv h1)
  obtain ⟨R1, d1, k1, r1, m1⟩ := stp_reach (r := 1) (init := out1 (2 * gw - 1) (2 * gh - 1)) s1 c1 (fun c hc => b1 c hc) (fun c e hc he hi => b2 c e hc he hi) (fun v hv h1 => b3 v hv h1)
  refine ⟨R0, d0, k0, R1, d1, k1, o0 ++ o1, r0.congr fun c => ?_, r1.congr fun c => ?_, fun x => ?_, rfl⟩
  · unfold has0
    constructor
    · rintro ⟨_, h⟩; simpa using h
    · intro h
      obtain ⟨l, hl, rfl⟩ := List.mem_map.1 h
      exact ⟨((hf.me _).1 (List.mem_map.2 ⟨l, ht.sb l hl, rfl⟩)).1, by simpa using h⟩
  · unfold has1
    constructor
    · rintro ⟨h1, h⟩; exact ⟨h1, by simpa using h⟩
    · rintro ⟨h1, h⟩; exact ⟨h1, by simpa using h⟩
  · rw [List.mem_append, m0, m1]; rfl

set_option maxRecDepth 100000 in
set_option maxHeartbeats 4000000 in
theorem specTil_any (p q : Int) (u : Value) (ls : List Lk) (B : Nat) (w : World) (hu : RdF elLink w B u ls) (hB : B ≤ w.heap.size) :
    Calls Try.prog 34 #[.int .i64 p, .int .i64 q, u] w (RetTil w (treeB p q ls) (tilQ p q ls)) := by
  have HU := Lib.hid hu
  obtain ⟨A, c, rfl, g1, g2, _⟩ := hu
  unfold maxLen at g2
  have HIT := Lib.hid (specIsTree_any p q _ ls B w HU.out hB)
  cases ht : treeB p q ls
  · have HQ : Hid (tilQ p q ls = []) := by unfold Hid tilQ; rw [ht]; simp
    rw [HQ.out]
    rw [ht] at HIT
    go_enter Try.func34, Try.ntmps34
    go_wp2_with fail
    refine HIT.out.mono ?_
    rintro e w1 ⟨rfl, hb1⟩
    have HB1 := Lib.hid hb1
    clear hb1
    go_wp2_with fail
    have HA0 : Acc elDomino w w.heap.size (w1.alloc (.cells #[] 46)) (.slice (some ⟨w1.heap.size, 0, none⟩) 0 0) [] := Acc.startAt HB1.out (Nat.le_refl _) HB1.out.size
    refine bodyPost_ret (v := .tuple #[.slice (some ⟨w1.heap.size, 0, none⟩) 0 0, .bool false]) (by simp [results, Try.results34, go_sem]) rfl ⟨_, rfl, HA0.1, HA0.2.1⟩
  · rw [ht] at HIT
    have hg : gridB p q = true := by
      unfold treeB at ht; simp only [Bool.and_eq_true] at ht; exact ht.1
    have hb := (gridB_iff _ _).1 hg
    obtain ⟨gw, rfl⟩ := Int.eq_ofNat_of_zero_le (show 0 ≤ p by omega)
    obtain ⟨gh, rfl⟩ := Int.eq_ofNat_of_zero_le (show 0 ≤ q by omega)
    obtain ⟨hg, hok⟩ := tree_ok ht
    have hf := floor_ok hg
    obtain ⟨W, hW⟩ : ∃ W, 2 * gw = W + 1 := ⟨2 * gw - 1, by omega⟩
    obtain ⟨H, hH⟩ : ∃ H, 2 * gh = H + 1 := ⟨2 * gh - 1, by omega⟩
    have hl : ∀ l ∈ ls, (0 ≤ l.1 ∧ l.1 ≤ 4) ∧ 0 ≤ l.2.1 ∧ l.2.1 ≤ 4 := fun l hl => by
      have := (lkIn_iff _ _ _).1 ((tree_facts gw gh hg).1 l (hok.sb l hl))
      exact ⟨⟨this.1, this.2.1⟩, this.2.2.1, this.2.2.2.1⟩
    have HS0 := Lib.hid (fun (V : World) (hV : Below w.heap.size w V) => Steps_any gw gh W H _ 0 true rfl (by omega) (by omega) hW hH rfl (.slice A ls.length c) ls hl B V (HU.out.below (hV.mono hB)) (Nat.le_trans hB hV.size))
    have HS1 := Lib.hid (fun (V : World) (hV : Below w.heap.size w V) => Steps_any gw gh W H _ 1 false rfl (by omega) (by omega) hW hH rfl (.slice A ls.length c) ls hl B V (HU.out.below (hV.mono hB)) (Nat.le_trans hB hV.size))
    have HFIN : Hid (∀ T0 T1 o0 o1, SInv W H (fun c => decide (c ∈ ls.map lkC) == true) (iniZ gw gh true) T0 o0 → Closed W H (fun c => decide (c ∈ ls.map lkC) == true) T0 T0.length 0 → SInv W H (fun c => decide (c ∈ ls.map lkC) == false) (iniZ gw gh false) T1 o1 → Closed W H (fun c => decide (c ∈ ls.map lkC) == false) T1 T1.length 0 → sortI (o0 ++ o1) (o0 ++ o1).length = tilQ gw gh ls) := by
      intro T0 T1 o0 o1 a b c d
      unfold tilQ
      rw [ht, if_pos rfl, Int.toNat_natCast, Int.toNat_natCast]
      exact tilZ_eq ht (spec_tilP (by omega) (by omega) hW hH hf hok a b c d)
    generalize tilQ gw gh ls = TQ at *
    clear ht hf hok hl hg hW hH
    go_enter Try.func34, Try.ntmps34
    go_wp2_with fail
    refine HIT.out.mono ?_
    rintro e w1 ⟨rfl, hb1⟩
    have HB1 := Lib.hid hb1
    clear hb1
    go_wp2_with fail
    refine (HS0.out w1 HB1.out).mono ?_
    rintro e w2 ⟨v2, T0, o0, rfl, ho2, s0, c0, l0, hb2⟩
    have HA2 : Hid (Acc elDomino w w.heap.size w2 v2 o0) := ⟨ho2.mono HB1.out.size, HB1.out.trans (hb2.mono HB1.out.size), Nat.le_refl _, Nat.le_trans HB1.out.size hb2.size⟩
    have HSC0 := Lib.hid (And.intro s0 c0)
    clear ho2 hb2 s0 c0
    go_wp2_with fail
    refine (HS1.out w2 HA2.out.2.1).mono ?_
    rintro e w3 ⟨v3, T1, o1, rfl, ho3, s1, c1, l1, hb3⟩
    have HA3 := Lib.hid (HA2.out.below hb3)
    have HR3 := Lib.hid (ho3.rd okDomino)
    have HSC1 := Lib.hid (And.intro s1 c1)
    have HE := Lib.hid (HFIN.out T0 T1 o0 o1 HSC0.out.1 HSC0.out.2 HSC1.out.1 HSC1.out.2)
    clear ho3 hb3 s1 c1 HA2 HSC0 HSC1 HFIN
    go_wp2_with (at_builtin; refine wpList_pushSrcF okDomino rfl _ _ rfl HA3.out rfl o1 _ _ HR3.out rfl (by omega) ?_; intro u4 w4 HA4 HG4)
    refine (specSortDominoes_any _ (o0 ++ o1) _ _ (HA4.out.1.rd okDomino) (Nat.le_refl _)).mono ?_
    rintro e w5 ⟨u5, rfl, ho5, hb5⟩
    rw [HE.out] at ho5
    have HO5 := Lib.hid (ho5.mono HA4.out.2.1.size)
    have HB5 := Lib.hid (HA4.out.2.1.trans (hb5.mono HA4.out.2.1.size))
    clear ho5 hb5
    go_wp2_with fail
    refine bodyPost_ret (v := .tuple #[u5, .bool true]) (by simp [results, Try.results34, go_sem]) rfl ⟨_, rfl, HO5.out, HB5.out⟩
end Go.Proofs.Ytehnbalbpfmijaa

namespace Go.Proofs.Ytehnbalbpfmijaa
open Go.RowKit
set_option linter.unusedVariables false

/-- What outward returns. -/
def RetOut (w : World) (a b F : Nat) (ls : List Lk) (e : Ending) (w' : World) : Prop :=
  ∃ (v : Value) (kn : Nat → Bool) (cs : Nat → Int × Int), e = .returned v ∧ RdF elCell w' w'.heap.size v ((List.range F).map cs) ∧ OInv a b ls kn cs ∧ QuietTo a b ls kn F 0 ∧ Below w.heap.size w w' ∧ ∃ g, v = .slice (some ⟨g, 0, none⟩) F F ∧ w.heap.size ≤ g
set_option maxRecDepth 100000 in
set_option maxHeartbeats 4000000 in
theorem outward_any (wd hh a b : Nat) (u : Value) (ls : List Lk) (B : Nat) (w : World) (hu : RdF elLink w B u ls) (hB : B ≤ w.heap.size) (h1 : 1 ≤ wd ∧ wd ≤ 4) (h2 : 1 ≤ hh ∧ hh ≤ 4) (ha : wd = a + 1) (hb : hh = b + 1) :
    Calls Try.prog 102 #[.int .i64 wd, .int .i64 hh, u] w (RetOut w a b (a * b) ls) := by
  have HU := Lib.hid hu
  obtain ⟨A, c, rfl, g1, g2, _⟩ := hu
  unfold maxLen at g2
  have hwa : (wd : Int) - 1 = (a : Int) := by omega
  have hhb : (hh : Int) - 1 = (b : Int) := by omega
  have ha3 : a ≤ 3 := by omega
  have hb3 : b ≤ 3 := by omega
  obtain ⟨F, hF⟩ : ∃ F, a * b = F := ⟨_, rfl⟩
  have hF9 : F ≤ 9 := by rw [← hF]; exact Nat.mul_le_mul ha3 hb3
  have hab : (a : Int) * (b : Int) = (F : Int) := by rw [← hF]; simp
  have habw : IntKind.i64.wrap ((a : Int) * (b : Int)) = (F : Int) := by rw [hab]; exact IntWalk.i64_in _ (by omega)
  have hFw : IntKind.i64.wrap (F : Int) = (F : Int) := IntWalk.i64_in _ (by omega)
  have HF := Lib.hid hF
  have HWD := Lib.hid ha
  have HHT := Lib.hid hb
  have hmO := fun W => run_makeO F (by omega) W
  have hmK := fun W => run_makeK F (by omega) W
  have hmf : ∀ (fn : Fn) (first cap : Array Value) (w : World), (Instr.makeFunc fn first cap).run Try.prog w = .ok (.func fn first cap) w := fun _ _ _ _ => rfl
  rw [hF]
  clear ha hb hF
  go_enter Try.func102, Try.ntmps102
  go_upto_region 2 with (fail)
  obtain ⟨W, hW, k0, hbW⟩ := one_alloc w (.cells #[.slice A ls.length c] 53)
  rw [← hW]
  have HK0 := Lib.hid k0
  have HBW := Lib.hid hbW
  clear hW k0 hbW
  go_cut [9, 10] (fun o k wx => ∃ gO gK, o = .slice (some ⟨gO, 0, none⟩) F F ∧ k = .slice (some ⟨gK, 0, none⟩) F F ∧ Hid (OMem w wx gO gK (.slice A ls.length c) F (fun _ => false) (fun _ => (0, 0))))
  case first =>
    go_wp2_with fail
    refine wp_region_held_drew (S := fun w' => True) (by kernel_rfl) trivial (fun hHeld => ?_)
    refine wpAnyH_take (i := 0) (oi := ⟨_, _, _, _, _, _⟩) (v := ?vap30937q1n0) rfl (by kernel_rfl) (by kernel_rfl) (by kernel_rfl) (fun _ _ _ h => h) (Or.inl ⟨by rfl, ?hap30937q1n0⟩) (by assumption) ?_
    case hap30937q1n0 => (intro w hSw; (try dsimp only at hSw); go_simp; try with_reducible rfl)
    try simp only [Act.put, List.setIfInBounds_toArray, List.set_cons_zero, List.set_cons_succ]
    refine wpAnyH_take (i := 1) (oi := ⟨_, _, _, _, _, _⟩) (v := ?vap30937q2n1) rfl (by kernel_rfl) (by kernel_rfl) (by kernel_rfl) (fun _ _ _ h => h) (Or.inl ⟨by rfl, ?hap30937q2n1⟩) (by assumption) ?_
    case hap30937q2n1 => (intro w hSw; (try dsimp only at hSw); go_simp; try with_reducible rfl)
    try simp only [Act.put, List.setIfInBounds_toArray, List.set_cons_zero, List.set_cons_succ]
    refine wpAnyH_take (i := 2) (oi := ⟨_, _, _, _, _, _⟩) (v := ?vap30937q3n2) rfl (by kernel_rfl) (by kernel_rfl) (by kernel_rfl) (fun _ _ _ h => h) (Or.inl ⟨by rfl, ?hap30937q3n2⟩) (by assumption) ?_
    case hap30937q3n2 => (intro w hSw; (try dsimp only at hSw); go_simp; try with_reducible rfl)
    try simp only [Act.put, List.setIfInBounds_toArray, List.set_cons_zero, List.set_cons_succ]
    refine wpAnyH_take (i := 4) (oi := ⟨_, _, _, _, _, _⟩) (v := ?vap30937q4n4) rfl (by kernel_rfl) (by kernel_rfl) (by kernel_rfl) (fun _ _ _ h => h) (Or.inl ⟨by rfl, ?hap30937q4n4⟩) (by assumption) ?_
    case hap30937q4n4 => (intro w hSw; (try dsimp only at hSw); go_simp; try with_reducible rfl)
    try simp only [Act.put, List.setIfInBounds_toArray, List.set_cons_zero, List.set_cons_succ]
    refine wpAnyH_take (i := 5) (oi := ⟨_, _, _, _, _, _⟩) (v := ?vap30937q5n5) rfl (by kernel_rfl) (by kernel_rfl) (by kernel_rfl) (fun _ _ _ h => h) (Or.inl ⟨by rfl, ?hap30937q5n5⟩) (by assumption) ?_
    case hap30937q5n5 => (intro w hSw; (try dsimp only at hSw); go_simp; try with_reducible rfl)
    try simp only [Act.put, List.setIfInBounds_toArray, List.set_cons_zero, List.set_cons_succ]
    refine wpAnyH_take (i := 6) (oi := ⟨_, _, _, _, _, _⟩) (v := ?vap30937q6n6) rfl (by kernel_rfl) (by kernel_rfl) (by kernel_rfl) (fun _ _ _ h => h) (Or.inl ⟨by rfl, ?hap30937q6n6⟩) (by assumption) ?_
    case hap30937q6n6 => (intro w hSw; (try dsimp only at hSw); go_simp; try with_reducible rfl)
    try simp only [Act.put, List.setIfInBounds_toArray, List.set_cons_zero, List.set_cons_succ]
    refine wpAnyH_ready (rs := [3, 7]) (by kernel_rfl) (by simp) ?_
    refine AllReadyH.cons (o := ⟨_, _, _, _, _, _⟩) rfl (fun K hK => ?cp30937q7n3) (AllReadyH.cons (o := ⟨_, _, _, _, _, _⟩) rfl (fun K hK => ?cp30937q7n7) AllReadyH.nil)
    case cp30937q7n3 =>
      go_simp
      refine hK.out _ _ (by trivial) (fun hHeld => ?_)
      clear hK K
      try simp only [Act.put, List.setIfInBounds_toArray, List.set_cons_zero, List.set_cons_succ]
      refine wpAnyH_take (i := 8) (oi := ⟨_, _, _, _, _, _⟩) (v := ?vap30937q8n8) rfl (by kernel_rfl) (by kernel_rfl) (by kernel_rfl) (fun _ _ _ h => h) (Or.inl ⟨by rfl, ?hap30937q8n8⟩) (by assumption) ?_
      case hap30937q8n8 => (intro w hSw; (try dsimp only at hSw); go_simp; try with_reducible rfl)
      try simp only [Act.put, List.setIfInBounds_toArray, List.set_cons_zero, List.set_cons_succ]
      refine wpAnyH_ready (rs := [7]) (by kernel_rfl) (by simp) ?_
      refine AllReadyH.cons (o := ⟨_, _, _, _, _, _⟩) rfl (fun K hK => ?_) AllReadyH.nil
      go_simp
      refine hK.out _ _ (by trivial) (fun hHeld => ?_)
      clear hK K
      try simp only [Act.put, List.setIfInBounds_toArray, List.set_cons_zero, List.set_cons_succ]
      refine wpAnyH_take (i := 9) (oi := ⟨_, _, _, _, _, _⟩) (v := ?vap30937q9n9) rfl (by kernel_rfl) (by kernel_rfl) (by kernel_rfl) (fun _ _ _ h => h) (Or.inl ⟨by rfl, ?hap30937q9n9⟩) (by assumption) ?_
      case hap30937q9n9 => (intro w hSw; (try dsimp only at hSw); go_simp; try with_reducible rfl)
      try simp only [Act.put, List.setIfInBounds_toArray, List.set_cons_zero, List.set_cons_succ]
      refine wpAnyH_done (by kernel_rfl) ?_ _
      go_wp2_with fail
      go_meet
      first | exact ⟨_, _, rfl, rfl, (OMem.made HK0.out HBW.out).1⟩ | exact ⟨_, _, rfl, rfl, (OMem.made HK0.out HBW.out).2⟩
    case cp30937q7n7 =>
      go_simp
      refine hK.out _ _ (by trivial) (fun hHeld => ?_)
      clear hK K
      try simp only [Act.put, List.setIfInBounds_toArray, List.set_cons_zero, List.set_cons_succ]
      refine wpAnyH_ready (rs := [3]) (by kernel_rfl) (by simp) ?_
      refine AllReadyH.cons (o := ⟨_, _, _, _, _, _⟩) rfl (fun K hK => ?_) AllReadyH.nil
      go_simp
      refine hK.out _ _ (by trivial) (fun hHeld => ?_)
      clear hK K
      try simp only [Act.put, List.setIfInBounds_toArray, List.set_cons_zero, List.set_cons_succ]
      refine wpAnyH_take (i := 8) (oi := ⟨_, _, _, _, _, _⟩) (v := ?vap30937q10n8) rfl (by kernel_rfl) (by kernel_rfl) (by kernel_rfl) (fun _ _ _ h => h) (Or.inl ⟨by rfl, ?hap30937q10n8⟩) (by assumption) ?_
      case hap30937q10n8 => (intro w hSw; (try dsimp only at hSw); go_simp; try with_reducible rfl)
      try simp only [Act.put, List.setIfInBounds_toArray, List.set_cons_zero, List.set_cons_succ]
      refine wpAnyH_take (i := 9) (oi := ⟨_, _, _, _, _, _⟩) (v := ?vap30937q11n9) rfl (by kernel_rfl) (by kernel_rfl) (by kernel_rfl) (fun _ _ _ h => h) (Or.inl ⟨by rfl, ?hap30937q11n9⟩) (by assumption) ?_
      case hap30937q11n9 => (intro w hSw; (try dsimp only at hSw); go_simp; try with_reducible rfl)
      try simp only [Act.put, List.setIfInBounds_toArray, List.set_cons_zero, List.set_cons_succ]
      refine wpAnyH_done (by kernel_rfl) ?_ _
      go_wp2_with fail
      go_meet
      first | exact ⟨_, _, rfl, rfl, (OMem.made HK0.out HBW.out).1⟩ | exact ⟨_, _, rfl, rfl, (OMem.made HK0.out HBW.out).2⟩
  case rest =>
    obtain ⟨gO, gK, rfl, rfl, HM⟩ := hcut
    go_wp2_with fail
    have HS0 := Lib.hid (OMs.start HM.out)
    clear HM HK0 HBW
    generalize (World.alloc wc _) = W1 at *
    generalize wc.heap.size = nS at *
    have HU0 : Hid (unk F (fun _ => false) + (if true then 1 else 0) ≤ F + 1) := by have := unk_le F (fun _ => false); unfold Hid; simp; omega
    have HI0 := Lib.hid (OInv.start a b ls (fun _ => (0, 0)))
    clear hmO hmK hmf
    go_loopg [13] (F + 1) (fun gk s wr => ∃ (kn : Nat → Bool) (cs : Nat → Int × Int) (ag : Bool), s = .bool ag ∧ Hid (OMs w wr gO gK nS (.slice A ls.length c) F kn cs) ∧ Hid (OInv a b ls kn cs) ∧ Hid (unk F kn + (if ag then 1 else 0) ≤ gk) ∧ Hid (ag = false → QuietTo a b ls kn F 0))
    case atStart => exact ⟨_, _, true, rfl, HS0, HI0, HU0.out, fun h => by simp at h⟩
    case round =>
      obtain ⟨kn, cs, ag, rfl, HS, HI, HUN, HQ⟩ := hrel
      clear HS0 HI0 HU0
      cases ag
      · go_wp2_with fail
        go_ret
        exact ⟨_, kn, cs, rfl, HS.out.m.rd hF9, HI.out, HQ.out (by trivial), HS.out.m.big, _, rfl, Nat.le_of_lt HS.out.m.ne.2.1⟩
      · have HUN1 : Hid (unk F kn + (if false then 1 else 0) ≤ gk - 1) := by have := HUN.out; unfold Hid; simp at this ⊢; omega
        have hgk : gk - 1 < gk := by have := HUN.out; simp at this; omega
        have HQ0 := Lib.hid (QuietTo.start a b ls kn)
        clear HUN HQ
        go_wp2_with fail
        go_loopw [13, 44] (fun s i wr2 => ∃ (k : Nat) (kn2 : Nat → Bool) (cs2 : Nat → Int × Int) (ag2 : Bool), k ≤ F ∧ i = .int .i64 (k : Int) ∧ s = .bool ag2 ∧ Hid (OMs w wr2 gO gK nS (.slice A ls.length c) F kn2 cs2) ∧ Hid (OInv a b ls kn2 cs2) ∧ Hid (unk F kn2 + (if ag2 then 1 else 0) ≤ gk - 1) ∧ Hid (ag2 = false → QuietTo a b ls kn2 k 0)) (fun _ i _ => F - (intOf i).toNat)
        case atStart => exact ⟨0, kn, cs, false, Nat.zero_le _, rfl, rfl, HS, HI, HUN1, fun _ => HQ0.out⟩
        case round =>
          obtain ⟨k, kn2, cs2, ag2, hk, rfl, rfl, HS2, HI2, HUN2, HQ2⟩ := hrel
          clear HS HI HUN1 HQ0
          by_cases hlt : k < F
          · have ht : decide ((k : Int) < (F : Int)) = true := by simp only [decide_eq_true_eq]; omega
            have ha0 : 0 < a := Nat.pos_of_ne_zero fun e => by have := HF.out; rw [e] at this; omega
            have hqb : k / a < b := (Nat.div_lt_iff_lt_mul ha0).2 (by have := HF.out; rw [Nat.mul_comm]; omega)
            have hpa : k % a < a := Nat.mod_lt _ ha0
            have hq1 : (k : Int) / (a : Int) = ((k / a : Nat) : Int) := by rw [Int.natCast_ediv]
            have hr1 : (k : Int) % (a : Int) = ((k % a : Nat) : Int) := by rw [Int.natCast_emod]
            have hq2 : Int.tdiv (k : Int) (a : Int) = ((k / a : Nat) : Int) := by rw [Int.tdiv_eq_ediv_of_nonneg (by omega)]; exact hq1
            have hr2 : Int.tmod (k : Int) (a : Int) = ((k % a : Nat) : Int) := by rw [Int.tmod_eq_emod_of_nonneg (by omega)]; exact hr1
            have HPD : Hid (∀ d, nbU a k d = ((k % a : Nat) : Int) + d.1 ∧ nbV a k d = ((k / a : Nat) : Int) + d.2) := fun d => ⟨rfl, rfl⟩
            have HPC : Hid (cellF (a + 1) k = (2 * ((k % a : Nat) : Int) + 1, 2 * ((k / a : Nat) : Int) + 1)) := cellF_mod
            generalize k % a = p at *
            generalize k / a = q at *
            have ha1 : (0 : Int) < (a : Int) := by omega
            have hz : ((a : Int) == 0) = false := by rw [beq_eq_false_iff_ne]; omega
            have hk0 : (0 : Int) ≤ (k : Int) := by omega
            have hk1 : (k : Int) < (F : Int) := by omega
            have hk9 : (k : Int) < 9 := by omega
            go_wp2_with fail
            go_quiet (fail)
            go_wp2_with fail
            clear hq1 hr1 hq2 hr2 hz hk9
            go_loopw [13, 55] (fun s j wr3 => ∃ (m : Nat) (kn3 : Nat → Bool) (cs3 : Nat → Int × Int) (ag3 : Bool), m ≤ 4 ∧ j = .int .i64 (m : Int) ∧ s = .bool ag3 ∧ Hid (OMs w wr3 gO gK nS (.slice A ls.length c) F kn3 cs3) ∧ Hid (OInv a b ls kn3 cs3) ∧ Hid (unk F kn3 + (if ag3 then 1 else 0) ≤ gk - 1) ∧ Hid (ag3 = false → QuietTo a b ls kn3 k m)) (fun _ j _ => 4 - (intOf j).toNat)
            case atStart => exact ⟨0, kn2, cs2, ag2, Nat.zero_le _, rfl, rfl, HS2.out.below (Drawn.below ⟨_, rfl⟩ _), HI2, HUN2, HQ2⟩
            case round =>
              obtain ⟨m, kn3, cs3, ag3, hm, rfl, rfl, HS3, HI3, HUN3, HQ3⟩ := hrel
              clear HS2 HI2 HUN2 HQ2
              by_cases hlm : m < 4
              · have htm : decide ((m : Int) < 4) = true := by simp only [decide_eq_true_eq]; omega
                obtain ⟨hsx, hsy⟩ := HS3.out.cells.1 m hlm
                obtain ⟨X, Y, hXY⟩ : ∃ X Y, sd m = (X, Y) := ⟨_, _, rfl⟩
                have hdir := sd_dir hlm
                rw [hXY] at hsx hsy hdir
                simp only at hsx hsy
                have hXb : (-1 ≤ X ∧ X ≤ 1) ∧ -1 ≤ Y ∧ Y ≤ 1 := by
                  rcases (dirs4_iff _).1 hdir with e | e | e | e <;> simp at e <;> omega
                obtain ⟨⟨hX0, hX1⟩, hY0, hY1⟩ := hXb
                have HXY := Lib.hid hXY
                have HDIR := Lib.hid hdir
                have hm0 : (0 : Int) ≤ (m : Int) := by omega
                have hm1 : (m : Int) < 4 := by omega
                clear hXY hdir
                go_upto_region 15 with (fail)
                obtain ⟨V1, hV1, kV1, bV1⟩ := one_alloc wr (.cells #[.int .i64 X, .int .i64 Y] 44)
                rw [← hV1]
                obtain ⟨n9, hn9⟩ : ∃ n9, wr.heap.size = n9 := ⟨_, rfl⟩
                have HS4 := Lib.hid (HS3.out.below bV1)
                have HK9 := Lib.hid kV1
                rw [hn9] at HK9 ⊢
                have z0 : V1.cell? ⟨n9, 0, none⟩ = some (.int .i64 X) := by rw [blk_cell HK9.out]; rfl
                have z1 : V1.cell? ⟨n9, 1, none⟩ = some (.int .i64 Y) := by rw [blk_cell HK9.out]; rfl
                obtain ⟨U, hU⟩ : ∃ U, (p : Int) + X = U := ⟨_, rfl⟩
                obtain ⟨Z, hZ⟩ : ∃ Z, (q : Int) + Y = Z := ⟨_, rfl⟩
                have hUw : IntKind.i64.wrap ((p : Int) + X) = U := by rw [IntWalk.i64_in _ (by omega)]; exact hU
                have hZw : IntKind.i64.wrap ((q : Int) + Y) = Z := by rw [IntWalk.i64_in _ (by omega)]; exact hZ
                obtain ⟨ob, HOB⟩ : ∃ ob, Hid ((decide (U < 0) || (decide (Z < 0) || (decide ((a : Int) ≤ U) || decide ((b : Int) ≤ Z)))) = ob) := ⟨_, rfl⟩
                have HOB2 : Hid (outB a b k (X, Y) = ob) := by
                  unfold Hid
                  rw [← HOB.out]
                  unfold outB
                  rw [(HPD.out (X, Y)).1, (HPD.out (X, Y)).2]
                  show (decide ((p : Int) + X < 0) || (decide ((q : Int) + Y < 0) || (decide ((a : Int) ≤ (p : Int) + X) || decide ((b : Int) ≤ (q : Int) + Y)))) = _
                  rw [hU, hZ]
                clear hV1 kV1 bV1 HS3 hsx hsy hn9
                go_wp2_with fail
                go_quiet (fail)
                go_upto_region 16 with (fail)
                generalize hV2 : World.drewN V1 _ = V2
                have HS5 : Hid (OMs w V2 gO gK nS (.slice A ls.length c) F kn3 cs3) := by unfold Hid; rw [← hV2]; exact HS4.out.below (Drawn.below ⟨_, rfl⟩ _)
                have HK5 : Hid (V2.heap[n9]? = some (.cells #[.int .i64 X, .int .i64 Y] 44 (0, 0))) := by unfold Hid; rw [← hV2]; exact HK9.out
                clear hV2 HS4 HK9 z0 z1 hUw hZw
                go_cut [21] (fun s wx => s = .bool ob ∧ wx = V2)
                case first =>
                  by_cases c1 : U < 0
                  · have H : Hid (true = ob) := by unfold Hid; rw [← HOB.out]; simp [c1]
                    go_wp2_with fail
                    go_meet
                    exact ⟨by rw [H.out], rfl⟩
                  · by_cases c2 : Z < 0
                    · have H : Hid (true = ob) := by unfold Hid; rw [← HOB.out]; simp [c2]
                      go_wp2_with fail
                      go_meet
                      exact ⟨by rw [H.out], rfl⟩
                    · by_cases c3 : (a : Int) ≤ U
                      · have H : Hid (true = ob) := by unfold Hid; rw [← HOB.out]; simp [c3]
                        go_wp2_with fail
                        go_meet
                        exact ⟨by rw [H.out], rfl⟩
                      · by_cases c4 : (b : Int) ≤ Z
                        · have H : Hid (true = ob) := by unfold Hid; rw [← HOB.out]; simp [c4]
                          go_wp2_with fail
                          go_meet
                          exact ⟨by rw [H.out], rfl⟩
                        · have H : Hid (false = ob) := by unfold Hid; rw [← HOB.out]; simp [c1, c2, c3, c4]
                          go_wp2_with fail
                          go_meet
                          exact ⟨by rw [H.out], rfl⟩
                case rest =>
                  obtain ⟨rfl, rfl⟩ := hcut
                  clear HOB
                  have z0 : wc.cell? ⟨n9, 0, none⟩ = some (.int .i64 X) := by rw [blk_cell HK5.out]; rfl
                  have z1 : wc.cell? ⟨n9, 1, none⟩ = some (.int .i64 Y) := by rw [blk_cell HK5.out]; rfl
                  have hp0 : (0 : Int) ≤ (p : Int) ∧ (p : Int) ≤ 2 := by omega
                  have hq0 : (0 : Int) ≤ (q : Int) ∧ (q : Int) ≤ 2 := by omega
                  obtain ⟨hp0, hp2⟩ := hp0
                  obtain ⟨hq0, hq2⟩ := hq0
                  go_upto_region 18 with (fail)
                  obtain ⟨cx, hcx⟩ : ∃ cx, 2 * (p : Int) + 1 + X = cx := ⟨_, rfl⟩
                  obtain ⟨cy, hcy⟩ : ∃ cy, 2 * (q : Int) + 1 + Y = cy := ⟨_, rfl⟩
                  rw [hcx, hcy]
                  obtain ⟨V3, hV3, kV3, bV3⟩ := one_alloc wc (.cells #[.int .i64 cx, .int .i64 cy] 44)
                  rw [← hV3]
                  obtain ⟨n8, hn8⟩ : ∃ n8, wc.heap.size = n8 := ⟨_, rfl⟩
                  have HS6 := Lib.hid (HS5.out.below bV3)
                  have HK6 := Lib.hid kV3
                  rw [hn8] at HK6 ⊢
                  have hc0 : (0 ≤ cx ∧ cx ≤ 100) ∧ 0 ≤ cy ∧ cy ≤ 100 := by omega
                  have HC0 := Lib.hid hc0
                  have HPAD : Hid (pad (cellF (a + 1) k) (X, Y) = (cx, cy)) := by unfold Hid; rw [HPC.out, ← hcx, ← hcy]; rfl
                  obtain ⟨kk, HKK⟩ : ∃ kk, Hid (kn3 k = kk) := ⟨_, rfl⟩
                  obtain ⟨oc, HOC⟩ : ∃ oc, Hid (openB ls (cx, cy) = oc) := ⟨_, rfl⟩
                  obtain ⟨kb, HKB⟩ : ∃ kb, Hid (kn3 (nb a k (X, Y)) = kb) := ⟨_, rfl⟩
                  have HCB : Hid (condB a b ls kn3 k (X, Y) = (!kk && (oc && (ob || kb)))) := by unfold Hid condB; rw [HPAD.out, HKK.out, HOC.out, HKB.out, HOB2.out]
                  have HOPN := Lib.hid (fun (V : World) (hV : Below w.heap.size w V) (hx : V.heap[w.heap.size]? = some (.cells #[.slice A ls.length c] 53 (0, 0))) => openC_any ls (.slice A ls.length c) cx cy HC0.out.1 HC0.out.2 w.heap.size B V (HU.out.below (hV.mono hB)) (Nat.le_trans hB hV.size) hx)
                  have e0 : V3.cell? ⟨n8, 0, none⟩ = some (.int .i64 cx) := by rw [blk_cell HK6.out]; rfl
                  have e1 : V3.cell? ⟨n8, 1, none⟩ = some (.int .i64 cy) := by rw [blk_cell HK6.out]; rfl
                  have hkc : V3.cell? ⟨gK, k, none⟩ = some (.bool kk) := by rw [((HS6.out.cells).2.1 k hlt).1, HKK.out]
                  clear hV3 kV3 bV3 hn8 z0 z1 HS5 HK5 hcx hcy hc0
                  go_cut [118] (fun s2 wx => s2 = .bool (!kk && (oc && (ob || kb))) ∧ Hid (OMs w wx gO gK nS (.slice A ls.length c) F kn3 cs3) ∧ Hid (wx.heap[n8]? = some (.cells #[.int .i64 cx, .int .i64 cy] 44 (0, 0))))
                  case first =>
                    cases kk
                    · go_wp2_with fail
                      refine (HOPN.out _ HS6.out.m.big HS6.out.m.box).mono ?_
                      rintro e w5 ⟨rfl, hb5⟩
                      rw [HOC.out]
                      have HS7 := Lib.hid (HS6.out.below hb5)
                      have HK7 := Lib.hid (blk_below HK6.out hb5)
                      clear hb5 e0 e1 hkc
                      cases oc
                      · go_wp2_with fail
                        go_meet
                        exact ⟨rfl, HS7, HK7⟩
                      · cases ob
                        · obtain ⟨n1, n2, _, _⟩ := nb_lt HOB2.out
                          have hob := outB_no HOB2.out
                          rw [(HPD.out (X, Y)).1, (HPD.out (X, Y)).2] at n2 hob
                          simp only at n2 hob
                          rw [hU, hZ] at n2 hob
                          have hnc : w5.cell? ⟨gK, nb a k (X, Y), none⟩ = some (.bool kb) := by rw [((HS7.out.cells).2.1 _ (by rw [← HF.out]; exact n1)).1, HKB.out]
                          have hnF : ((nb a k (X, Y) : Nat) : Int) < (F : Int) := by have := HF.out; omega
                          obtain ⟨⟨u0, u1⟩, z0, z1⟩ := hob
                          generalize nb a k (X, Y) = nn at *
                          have hn0 : (0 : Int) ≤ (nn : Int) := by omega
                          have hm0 : 0 ≤ Z * (a : Int) := Int.mul_nonneg z0 (by omega)
                          have hm9 : Z * (a : Int) ≤ 9 := by omega
                          have hnn : Z * (a : Int) + U = (nn : Int) := n2.symm
                          clear n1 n2 hU hZ
                          go_wp2_with fail
                          go_meet
                          exact ⟨by cases kb <;> rfl, HS7, HK7⟩
                        · go_wp2_with fail
                          go_meet
                          exact ⟨rfl, HS7, HK7⟩
                    · go_wp2_with fail
                      go_meet
                      exact ⟨rfl, HS6, HK6⟩
                  case rest =>
                    obtain ⟨rfl, HS7, HK7⟩ := hcut
                    clear HS6 HK6 e0 e1 hkc HOPN
                    generalize (!kk && (oc && (ob || kb))) = cb at *
                    cases cb
                    · have HQ5 : Hid (ag3 = false → QuietTo a b ls kn3 k (m + 1)) := fun h => (HQ3.out h).step (by rw [HXY.out]; exact HCB.out)
                      go_wp2_with fail
                      go_roundw
                      case rel => exact ⟨m + 1, _, _, _, by omega, by go_num, rfl, HS7, HI3, HUN3, HQ5⟩
                      case measure => simp [intOf]; omega
                    · obtain ⟨c1, c2, c3⟩ := HS7.out.cells.2.1 k hlt
                      obtain ⟨f1, f2⟩ := HS7.out.cells.2.2
                      have hne1 := HS7.out.m.ne.1
                      have hne2 : gK ≠ gO := fun e => hne1 e.symm
                      have e0 := (blk_cell (k := 0) HK7.out)
                      have e1 := (blk_cell (k := 1) HK7.out)
                      have HSN := Lib.hid (HS7.out.set hlt cx cy)
                      have HIN : Hid (OInv a b ls (updB kn3 k) (updC cs3 k (cx, cy))) := by
                        have := HI3.out.step HDIR.out HCB.out
                        rw [HPAD.out] at this; exact this
                      have HUN5 : Hid (unk F (updB kn3 k) + (if true then 1 else 0) ≤ gk - 1) := by
                        have h1 := unk_upd (F := F) (kn := kn3) hlt (cond_iff.1 HCB.out).1
                        have h2 := HUN3.out
                        unfold Hid; simp; omega
                      go_wp2_with fail
                      go_roundw
                      case rel => exact ⟨m + 1, updB kn3 k, updC cs3 k (cx, cy), true, by omega, by go_num, rfl, HSN, HIN, HUN5, fun h => by simp at h⟩
                      case measure => simp [intOf]; omega
              · obtain rfl : m = 4 := by omega
                have HQ4 : Hid (ag3 = false → QuietTo a b ls kn3 (k + 1) 0) := fun h => (HQ3.out h).next
                go_wp2_with fail
                go_roundw
                case rel => exact ⟨k + 1, _, _, _, by omega, by go_num, rfl, HS3, HI3, HUN3, HQ4⟩
                case measure => simp [intOf]; omega
          · have ht : decide ((k : Int) < (F : Int)) = false := by simp only [decide_eq_false_iff_not]; omega
            obtain rfl : k = F := by omega
            go_wp2_with fail
            go_roundg (gk - 1)
            case measure => exact hgk
            case rel => exact ⟨_, _, _, rfl, HS2, HI2, HUN2.out, HQ2⟩
end Go.Proofs.Ytehnbalbpfmijaa

namespace Go.Proofs.Ytehnbalbpfmijaa
open Go.RowKit
set_option linter.unusedVariables false

/-- The domino of post k. -/
def postL (w : Nat) (j k : Nat) : Lk := overL (2 * ((k % w : Nat) : Int)) (2 * ((k / w : Nat) : Int)) (((k % w : Nat) : Int) + ((j % w : Nat) : Int)) (((k / w : Nat) : Int) + ((j / w : Nat) : Int))
def postTo (w : Nat) (zs : List Int) : Nat → List Lk
  | 0 => []
  | k + 1 => if k = 0 then postTo w zs k else postTo w zs k ++ [postL w (el zs k).toNat k]
def faceTo (w : Nat) (cs : Nat → Int × Int) : Nat → List Lk
  | 0 => []
  | k + 1 => faceTo w cs k ++ [overL (cellF w k).1 (cellF w k).2 (cs k).1 (cs k).2]
theorem postTo_len (w : Nat) (zs : List Int) : ∀ k, (postTo w zs k).length ≤ k
  | 0 => Nat.le_refl _
  | k + 1 => by have := postTo_len w zs k; rw [postTo]; split <;> simp <;> omega
theorem faceTo_len (w : Nat) (cs : Nat → Int × Int) : ∀ k, (faceTo w cs k).length = k
  | 0 => rfl
  | k + 1 => by rw [faceTo, List.length_append, faceTo_len w cs k]; rfl
theorem postTo_mem {w : Nat} {zs : List Int} {x : Lk} : ∀ {n : Nat}, x ∈ postTo w zs n ↔ ∃ k, 0 < k ∧ k < n ∧ x = postL w (el zs k).toNat k
  | 0 => by simp [postTo]
  | n + 1 => by
    rw [postTo]
    by_cases h0 : n = 0
    · subst h0
      rw [if_pos rfl]
      constructor
      · intro h; simp [postTo] at h
      · rintro ⟨k, h1, h2, _⟩; omega
    · rw [if_neg h0, List.mem_append, postTo_mem, List.mem_singleton]
      constructor
      · rintro (⟨k, h1, h2, h3⟩ | h)
        · exact ⟨k, h1, by omega, h3⟩
        · exact ⟨n, by omega, by omega, h⟩
      · rintro ⟨k, h1, h2, h3⟩
        rcases Nat.lt_succ_iff_lt_or_eq.1 h2 with h2 | rfl
        · exact .inl ⟨k, h1, h2, h3⟩
        · exact .inr h3
theorem faceTo_mem {w : Nat} {cs : Nat → Int × Int} {x : Lk} : ∀ {n : Nat}, x ∈ faceTo w cs n ↔ ∃ k, k < n ∧ x = overL (cellF w k).1 (cellF w k).2 (cs k).1 (cs k).2
  | 0 => by simp [faceTo]
  | n + 1 => by
    rw [faceTo, List.mem_append, faceTo_mem, List.mem_singleton]
    constructor
    · rintro (⟨k, h1, h3⟩ | h)
      · exact ⟨k, by omega, h3⟩
      · exact ⟨n, by omega, h⟩
    · rintro ⟨k, h2, h3⟩
      rcases Nat.lt_succ_iff_lt_or_eq.1 h2 with h2 | rfl
      · exact .inl ⟨k, h2, h3⟩
      · exact .inr h3
theorem next_of {v d : Int × Int} (hd : d ∈ dirs4) {W H : Int} (hv : inW W H v) (hW : W ≤ 8) (hH : H ≤ 8) (hp : inW W H (pad v d)) : nextB v.1 v.2 (pad v d).1 (pad v d).2 := by
  obtain ⟨x, y⟩ := v
  obtain ⟨⟨a1, a2⟩, a3, a4⟩ := hv
  obtain ⟨⟨b1, b2⟩, b3, b4⟩ := hp
  unfold nextB
  rcases (dirs4_iff d).1 hd with rfl | rfl | rfl | rfl <;> simp [pad] at a1 a2 a3 a4 b1 b2 b3 b4 ⊢ <;> omega
/-- What the walk needs of a tree. -/
structure ITil (gw gh : Nat) (ls : List Lk) (zs : List Int) (kn : Nat → Bool) (cs : Nat → Int × Int) : Prop where
  fin : sortI (postTo gw zs (gw * gh) ++ faceTo gw cs ((gw - 1) * (gh - 1))) (postTo gw zs (gw * gh) ++ faceTo gw cs ((gw - 1) * (gh - 1))).length = tilZ gw gh ls
  fc : ∀ k, k < (gw - 1) * (gh - 1) → nextB (cellF gw k).1 (cellF gw k).2 (cs k).1 (cs k).2
theorem post_ok {gw gh : Nat} {ls : List Lk} (hg : gridB gw gh = true) (hok : TreeOk gw gh ls) {zs : List Int} (hc : ∀ i, i < gw * gh → (0 ≤ el zs i ↔ Con (ls.map (lkN gw)) 0 i)) (hz : WayZ (gw * gh) (ls.map (lkN gw)) zs) :
    ∀ k, 0 < k → k < gw * gh → ∃ j : Nat, el zs k = (j : Int) ∧ j < gw * gh ∧ nextB (2 * ((k % gw : Nat) : Int)) (2 * ((k / gw : Nat) : Int)) (((k % gw : Nat) : Int) + ((j % gw : Nat) : Int)) (((k / gw : Nat) : Int) + ((j / gw : Nat) : Int)) := by
  have hb := (gridB_iff _ _).1 hg
  have hf := floor_ok hg
  have hw : 0 < gw * gh := Nat.mul_pos (by omega) (by omega)
  obtain ⟨d, rk, r0, hd⟩ := root_reach hf hw hok hc hz
  intro k h0 hk
  obtain ⟨j, j1, j2, j3⟩ := hd k h0 hk
  have hm : cellP gw k ∈ nodes0 gw gh := List.mem_map.2 ⟨k - 1, by simp; omega, by rw [Nat.sub_add_cancel (by omega)]⟩
  have h1 := r0.dir _ hm
  have h2 := r0.edg _ hm
  have h3 := (r0.rng _ hm).1
  have h4 : inW (2 * gw - 1) (2 * gh - 1) (pad (cellP gw k) (d (cellP gw k))) := by
    obtain ⟨l, hl, e⟩ := List.mem_map.1 h2
    rw [← e]
    exact ((hf.me _).1 (List.mem_map.2 ⟨l, hok.sb l hl, rfl⟩)).1
  have := next_of h1 h3 (by omega) (by omega) h4
  rw [j3] at this
  exact ⟨j, j1, j2, this⟩
theorem i_til {gw gh : Nat} {ls : List Lk} (ht : treeB gw gh ls = true) {zs : List Int} (hc : ∀ i, i < gw * gh → (0 ≤ el zs i ↔ Con (ls.map (lkN gw)) 0 i)) (hz : WayZ (gw * gh) (ls.map (lkN gw)) zs) {kn : Nat → Bool} {cs : Nat → Int × Int}
    (hi : OInv (gw - 1) (gh - 1) ls kn cs) (hq : QuietTo (gw - 1) (gh - 1) ls kn ((gw - 1) * (gh - 1)) 0) : ITil gw gh ls zs kn cs := by
  obtain ⟨hg, hok⟩ := tree_ok ht
  have hb := (gridB_iff _ _).1 hg
  have hf := floor_ok hg
  have hw : 0 < gw * gh := Nat.mul_pos (by omega) (by omega)
  obtain ⟨d0, k0, r0, m0⟩ := root_reach hf hw hok hc hz
  obtain ⟨d1, k1, r1, m1⟩ := out_reach hg hi hq
  have hall : ∀ f, f < (gw - 1) * (gh - 1) → kn f = true := by
    intro f hfl
    obtain ⟨g, hg1, hg2, hg3⟩ := Reach.full1 hf hok r0 (fun v hv => hv) r1 (cellF gw f) (List.mem_map.2 ⟨f, by simpa using hfl, rfl⟩)
    have hn := hf.n1
    unfold nodes1 at hn
    have : f = g := by
      rcases Nat.lt_trichotomy f g with q | q | q
      · exact absurd (by rw [List.getElem_map, List.getElem_map, List.getElem_range, List.getElem_range]; exact hg2) (List.pairwise_iff_getElem.1 hn f g (by simpa using hfl) (by simpa using hg1) q)
      · exact q
      · exact absurd (by rw [List.getElem_map, List.getElem_map, List.getElem_range, List.getElem_range]; exact hg2.symm) (List.pairwise_iff_getElem.1 hn g f (by simpa using hg1) (by simpa using hfl) q)
    rw [this]; exact hg3
  refine ⟨tilZ_eq ht ⟨_, d0, k0, _, d1, k1, _, r0, r1, fun x => ?_, rfl⟩, fun k hk => ?_⟩
  · rw [List.mem_append, postTo_mem, faceTo_mem]
    constructor
    · rintro (⟨k, h0, h1, rfl⟩ | ⟨k, h1, rfl⟩)
      · left
        obtain ⟨j, j1, j2, j3⟩ := m0 k h0 h1
        refine ⟨cellP gw k, List.mem_map.2 ⟨k - 1, by simp; omega, by rw [Nat.sub_add_cancel (by omega)]⟩, ?_⟩
        unfold wayD postL
        rw [j3, j1, Int.toNat_natCast, over_comm]
        rfl
      · right
        refine ⟨cellF gw k, ⟨k, h1, rfl, hall k h1⟩, ?_⟩
        unfold wayD
        rw [← m1 k h1 (hall k h1), over_comm]
    · rintro (⟨v, hv, rfl⟩ | ⟨v, ⟨k, h1, rfl, _⟩, rfl⟩)
      · left
        obtain ⟨i, hi, rfl⟩ := List.mem_map.1 hv
        simp only [List.mem_range] at hi
        obtain ⟨j, j1, j2, j3⟩ := m0 (i + 1) (by omega) (by omega)
        refine ⟨i + 1, by omega, by omega, ?_⟩
        unfold wayD postL
        rw [j3, j1, Int.toNat_natCast, over_comm]
        rfl
      · right
        refine ⟨k, h1, ?_⟩
        unfold wayD
        rw [← m1 k h1 (hall k h1), over_comm]
  · have hm : ∃ f, f < (gw - 1) * (gh - 1) ∧ cellF gw k = cellF gw f ∧ kn f = true := ⟨k, hk, rfl, hall k hk⟩
    have h1 := r1.dir _ hm
    have h2 := (r1.edg _ hm).1
    have h3 := (r1.rng _ hm).1
    have := next_of h1 h3 (by omega) (by omega) h2
    rw [← m1 k hk (hall k hk)] at this
    exact this

theorem cell_blk {w w1 : World} {p : Addr} (h : w1.heap[p.block]? = w.heap[p.block]?) : w1.cell? p = w.cell? p := by
  unfold World.cell?
  rw [h]
/-- A slice of integers that stays readable while another one grows. -/
structure KeepI (wr : World) (g n c : Nat) (zs : List Int) (v : Value) : Prop where
  rd : RdI wr wr.heap.size (.slice (some ⟨g, 0, none⟩) n c) zs
  lt : g < wr.heap.size
  ne : v.ownBlock ≠ some g
theorem KeepI.below {wr w1 : World} {g n c : Nat} {zs : List Int} {v : Value} (h : KeepI wr g n c zs v) (hb : Below wr.heap.size wr w1) : KeepI w1 g n c zs v :=
  ⟨(h.rd.below hb).more hb.size, Nat.lt_of_lt_of_le h.lt hb.size, h.ne⟩
theorem KeepI.grew {wr w1 : World} {g n c : Nat} {zs : List Int} {v v' : Value} (h : KeepI wr g n c zs v) (hG : Grew wr w1 v v') : KeepI w1 g n c zs v' := by
  obtain ⟨g1, q, g2, g3, g4⟩ := hG
  have hsz := g1.size
  have hbk := g1.block g h.lt (fun e => h.ne e.symm)
  refine ⟨?_, Nat.lt_of_lt_of_le h.lt hsz, fun e => ?_⟩
  · obtain ⟨A, c', he, l1, l2, hrd⟩ := h.rd
    refine ⟨A, c', he, l1, l2, fun hne => ?_⟩
    obtain ⟨ad, ea, hb, hc⟩ := hrd hne
    refine ⟨ad, ea, by omega, fun j u hu => (cell_blk ?_).trans (hc j u hu)⟩
    rw [addBlock]
    simp only [Value.slice.injEq] at he
    rw [ea] at he
    have := he.1
    simp only [Option.some.injEq] at this
    rw [← this]; exact hbk
  · rw [g2] at e
    obtain rfl := Option.some.inj e
    rcases g3 with g3 | g3
    · exact h.ne g3
    · have := h.lt; omega
/-- The same for cells. -/
structure KeepF (wr : World) (g n c : Nat) (xs : List (Int × Int)) (v : Value) : Prop where
  rd : RdF elCell wr wr.heap.size (.slice (some ⟨g, 0, none⟩) n c) xs
  lt : xs ≠ [] → g < wr.heap.size
  ne : xs ≠ [] → v.ownBlock ≠ some g
theorem KeepF.below {wr w1 : World} {g n c : Nat} {xs : List (Int × Int)} {v : Value} (h : KeepF wr g n c xs v) (hb : Below wr.heap.size wr w1) : KeepF w1 g n c xs v :=
  ⟨(h.rd.below hb).more hb.size, fun hx => Nat.lt_of_lt_of_le (h.lt hx) hb.size, h.ne⟩
theorem KeepF.grew {wr w1 : World} {g n c : Nat} {xs : List (Int × Int)} {v v' : Value} (h : KeepF wr g n c xs v) (hG : Grew wr w1 v v') : KeepF w1 g n c xs v' := by
  obtain ⟨g1, q, g2, g3, g4⟩ := hG
  have hsz := g1.size
  refine ⟨?_, fun hx => Nat.lt_of_lt_of_le (h.lt hx) hsz, fun hx e => ?_⟩
  · obtain ⟨A, c', he, l1, l2, hrd⟩ := h.rd
    refine ⟨A, c', he, l1, l2, fun j x hx => ?_⟩
    have hxs : xs ≠ [] := fun e => by rw [e] at hx; simp at hx
    have hbk := g1.block g (h.lt hxs) (fun e => h.ne hxs e.symm)
    obtain ⟨ad, ea, hb, hc⟩ := hrd j x hx
    refine ⟨ad, ea, by omega, fun i u hu => (cell_blk ?_).trans (hc i u hu)⟩
    rw [addBlock]
    simp only [Value.slice.injEq] at he
    rw [ea] at he
    have := he.1
    simp only [Option.some.injEq] at this
    rw [← this]; exact hbk
  · rw [g2] at e
    obtain rfl := Option.some.inj e
    rcases g3 with g3 | g3
    · exact h.ne hx g3
    · have := h.lt hx; omega

theorem KeepF.cell {wr : World} {g n c : Nat} {xs : List (Int × Int)} {v : Value} (h : KeepF wr g n c xs v) {k : Nat} (hk : k < xs.length) : wr.cell? ⟨g, k * 2, none⟩ = some (.int .i64 (dx xs k)) ∧ wr.cell? ⟨g, k * 2 + 1, none⟩ = some (.int .i64 (dy xs k)) := by
  obtain ⟨A, c', he, _, _, hrd⟩ := h.rd
  simp only [Value.slice.injEq] at he
  obtain ⟨rfl, _, _⟩ := he
  obtain ⟨ad, ea, _, hc⟩ := hrd k _ (duo_get xs k hk)
  simp only [Option.some.injEq] at ea
  subst ea
  have e9 : ∀ m, (⟨g, 0, none⟩ : Addr).add m = ⟨g, m, none⟩ := fun m => by unfold Addr.add; split <;> simp_all
  have h1 := hc 0 (.int .i64 (dx xs k)) rfl
  have h2 := hc 1 (.int .i64 (dy xs k)) rfl
  rw [e9] at h1 h2
  exact ⟨h1, h2⟩
theorem dxy_map {F f : Nat} {cs : Nat → Int × Int} (hf : f < F) : dx ((List.range F).map cs) f = (cs f).1 ∧ dy ((List.range F).map cs) f = (cs f).2 := by simp [dx, dy, hf]
theorem keepN {w w' : World} {n : Nat} {u v : Value} (hb : n < w.heap.size) (h1 : w.cell? ⟨n, 0, none⟩ = some u) (h2 : w.cell? ⟨n, 1, none⟩ = some v) (h : Below w.heap.size w w') : Below w.heap.size w w' ∧ w'.cell? ⟨n, 0, none⟩ = some u ∧ w'.cell? ⟨n, 1, none⟩ = some v :=
  ⟨h, (h.cell (p := ⟨n, 0, none⟩) hb).trans h1, (h.cell (p := ⟨n, 1, none⟩) hb).trans h2⟩

set_option maxRecDepth 100000 in
set_option maxHeartbeats 8000000 in
theorem Til_any (p q : Int) (u : Value) (ls : List Lk) (B : Nat) (w : World) (hu : RdF elLink w B u ls) (hB : B ≤ w.heap.size) :
    Calls Try.prog 36 #[.int .i64 p, .int .i64 q, u] w (RetTil w (treeB p q ls) (tilQ p q ls)) := by
  have HU := Lib.hid hu
  obtain ⟨A, c, rfl, g1, g2, _⟩ := hu
  unfold maxLen at g2
  have HIT := Lib.hid (IsTree_any p q _ ls B w HU.out hB)
  cases ht : treeB p q ls
  · have HQ : Hid (tilQ p q ls = []) := by unfold Hid tilQ; rw [ht]; simp
    rw [HQ.out]
    rw [ht] at HIT
    go_enter Try.func36, Try.ntmps36
    go_wp2_with fail
    refine HIT.out.mono ?_
    rintro e w1 ⟨rfl, hb1⟩
    have HB1 := Lib.hid hb1
    clear hb1
    go_wp2_with fail
    refine bodyPost_ret (v := .tuple #[.slice none 0 0, .bool false]) (by simp [results, Try.results36, go_sem]) rfl ⟨_, rfl, OwnF.nil, HB1.out⟩
  · rw [ht] at HIT
    have hg : gridB p q = true := by
      unfold treeB at ht; simp only [Bool.and_eq_true] at ht; exact ht.1
    have hb := (gridB_iff _ _).1 hg
    obtain ⟨gw, rfl⟩ := Int.eq_ofNat_of_zero_le (show 0 ≤ p by omega)
    obtain ⟨gh, rfl⟩ := Int.eq_ofNat_of_zero_le (show 0 ≤ q by omega)
    obtain ⟨hg, hok⟩ := tree_ok ht
    have hlin : ∀ l ∈ ls, lkIn gw (gw * gh) l = true := fun l hl => (tree_facts gw gh hg).1 l (hok.sb l hl)
    have HROOT := Lib.hid (fun (V : World) (hV : Below w.heap.size w V) => rooted_any gw gh (gw * gh) (.slice A ls.length c) ls B V (HU.out.below (hV.mono hB)) (Nat.le_trans hB hV.size) (by omega) (by omega) rfl hlin)
    have HOUT := Lib.hid (fun (V : World) (hV : Below w.heap.size w V) => outward_any gw gh (gw - 1) (gh - 1) (.slice A ls.length c) ls B V (HU.out.below (hV.mono hB)) (Nat.le_trans hB hV.size) (by omega) (by omega) (by omega) (by omega))
    have HPOST := Lib.hid (fun (zs : List Int) h1 h2 => post_ok (zs := zs) hg hok h1 h2)
    have HFIN := Lib.hid (fun (zs : List Int) h1 h2 kn cs h3 h4 => i_til (zs := zs) (kn := kn) (cs := cs) ht h1 h2 h3 h4)
    have HTQ : Hid (tilZ gw gh ls = tilQ gw gh ls) := by
      unfold Hid tilQ
      rw [ht, if_pos rfl, Int.toNat_natCast, Int.toNat_natCast]
    have hw1 : 1 ≤ gw ∧ gw ≤ 4 := by omega
    have hh1 : 1 ≤ gh ∧ gh ≤ 4 := by omega
    obtain ⟨n, hn⟩ : ∃ n, gw * gh = n := ⟨_, rfl⟩
    have hn16 : n ≤ 16 := by rw [← hn]; exact Nat.mul_le_mul hw1.2 hh1.2
    obtain ⟨F, hF⟩ : ∃ F, (gw - 1) * (gh - 1) = F := ⟨_, rfl⟩
    have hF9 : F ≤ 9 := by rw [← hF]; exact Nat.mul_le_mul (show gw - 1 ≤ 3 by omega) (show gh - 1 ≤ 3 by omega)
    rw [hn] at HROOT HPOST HFIN
    rw [hF] at HOUT HFIN
    have HN := Lib.hid hn
    have HFF := Lib.hid hF
    obtain ⟨hw1, hw4⟩ := hw1
    obtain ⟨hh1, hh4⟩ := hh1
    clear hok hg hlin ht hb hn hF
    go_enter Try.func36, Try.ntmps36
    go_wp2_with fail
    refine HIT.out.mono ?_
    rintro e w1 ⟨rfl, hb1⟩
    have HB1 := Lib.hid hb1
    clear hb1
    have HA1 : Hid (Acc elDomino w w.heap.size (w1.alloc (.cells #[] 46)) (.slice (some ⟨w1.heap.size, 0, none⟩) 0 0) []) := Acc.startAt HB1.out (Nat.le_refl _) HB1.out.size
    have hn1 : w1.heap.size < (w1.alloc (.cells #[] 46)).heap.size := by simp
    have HN1 := Lib.hid hn1
    clear hn1
    go_wp2_with fail
    generalize w1.alloc (.cells #[] 46) = W1 at *
    generalize w1.heap.size = n1 at *
    refine (HROOT.out W1 HA1.out.2.1).mono ?_
    rintro e w2 ⟨v2, zs, rfl, hr2, hz1, hz2, hz3, hb2, hz4, gz, mz, cz, rfl, hgz⟩
    have HA2 := Lib.hid (HA1.out.below hb2)
    have HP2 := Lib.hid (HPOST.out zs hz3 hz4)
    have HF2 := Lib.hid (HFIN.out zs hz3 hz4)
    have hnpos : 0 < n := by rw [← HN.out]; exact Nat.mul_pos (by omega) (by omega)
    obtain ⟨A2, c2, he2, q1, q2, hrd2⟩ := id hr2
    simp only [Value.slice.injEq] at he2
    obtain ⟨rfl, rfl, rfl⟩ := he2
    unfold maxLen at q2
    have HZL := Lib.hid hz1
    have HK2 : Hid (KeepI w2 gz zs.length cz zs (.slice (some ⟨n1, 0, none⟩) 0 0)) := by
      refine ⟨hr2, ?_, ?_⟩
      · obtain ⟨ad, ea, hb, _⟩ := hrd2 (by intro e; have := congrArg List.length e; simp at this; rw [this] at hz1; simp at hz1; omega)
        simp only [Option.some.injEq] at ea
        rw [← ea] at hb; exact hb
      · simp only [Value.ownBlock, ne_eq, Option.some.injEq]
        have := HN1.out; omega
    have HPZ : Hid (postTo gw zs 0 = []) := rfl
    have HPS : Hid (∀ k, postTo gw zs (k + 1) = if k = 0 then postTo gw zs k else postTo gw zs k ++ [postL gw (el zs k).toNat k]) := fun k => rfl
    have HPL := Lib.hid (postTo_len gw zs)
    rw [hz1] at q1 HK2
    clear hz1 hz2 hz3 hz4 hb2 HA1 HPOST HFIN HROOT HB1 hr2 hrd2 hgz hnpos
    go_wp2_with fail
    rw [HZL.out]
    go_loopw [8, 32] (fun o i wr => ∃ (k : Nat) (v : Value), v = o ∧ k ≤ n ∧ i = .int .i64 (k : Int) ∧ Hid (KeepI wr gz n cz zs v) ∧ Hid (Acc elDomino w w.heap.size wr v (postTo gw zs k))) (fun _ i _ => n - (intOf i).toNat)
    case atStart => exact ⟨0, _, rfl, Nat.zero_le _, rfl, HK2, by rw [HPZ.out]; exact HA2⟩
    case round =>
      obtain ⟨k, vv, rfl, hk, rfl, HB, HA⟩ := hrel
      by_cases hlt : k < n
      · have ht : decide ((k : Int) < (n : Int)) = true := by simp only [decide_eq_true_eq]; omega
        obtain ⟨A', c', he, _, _, hrd⟩ := HB.out.rd
        simp only [Value.slice.injEq] at he
        obtain ⟨rfl, hq9, rfl⟩ := he
        clear hq9
        obtain ⟨ad, ead, hbl, hcell⟩ := hrd.int (k := k) (by rw [HZL.out]; omega)
        rw [← el_get zs k (by rw [HZL.out]; omega)] at hcell
        simp only [Option.some.injEq] at ead
        subst ead
        have hcell' : wr.cell? ⟨gz, k, none⟩ = some (.int .i64 (el zs k)) := by
          have e9 : (⟨gz, 0, none⟩ : Addr).add k = ⟨gz, k, none⟩ := by unfold Addr.add; split <;> simp_all
          rw [← e9]; exact hcell
        have hk0 : (0 : Int) ≤ (k : Int) := by omega
        have hk1 : (k : Int) < (n : Int) := by omega
        have HPK := Lib.hid (HPS.out k)
        clear hcell hrd
        by_cases h0 : k = 0
        · have HE : Hid (postTo gw zs (k + 1) = postTo gw zs k) := by unfold Hid; rw [HPK.out, if_pos h0]
          have t0 : ((k : Int) == 0) = true := by rw [beq_iff_eq]; omega
          have H0 := Lib.hid h0
          clear h0
          go_wp2_with fail
          go_roundw
          case rel => exact ⟨k + 1, _, rfl, by omega, by go_num, HB, by rw [HE.out]; exact HA⟩
          case measure => simp [intOf]; omega
        · obtain ⟨j, hj1, hj2, hnx⟩ := HP2.out k (by omega) hlt
          have HE : Hid (postTo gw zs (k + 1) = postTo gw zs k ++ [postL gw j k]) := by unfold Hid; rw [HPK.out, if_neg h0, hj1, Int.toNat_natCast]
          rw [hj1] at hcell'
          have t0 : ((k : Int) == 0) = false := by rw [beq_eq_false_iff_ne]; omega
          have hq1 : (k : Int) / (gw : Int) = ((k / gw : Nat) : Int) := by rw [Int.natCast_ediv]
          have hr1 : (k : Int) % (gw : Int) = ((k % gw : Nat) : Int) := by rw [Int.natCast_emod]
          have hq2 : Int.tdiv (k : Int) (gw : Int) = ((k / gw : Nat) : Int) := by rw [Int.tdiv_eq_ediv_of_nonneg (by omega)]; exact hq1
          have hr2 : Int.tmod (k : Int) (gw : Int) = ((k % gw : Nat) : Int) := by rw [Int.tmod_eq_emod_of_nonneg (by omega)]; exact hr1
          have hq3 : (j : Int) / (gw : Int) = ((j / gw : Nat) : Int) := by rw [Int.natCast_ediv]
          have hr3 : (j : Int) % (gw : Int) = ((j % gw : Nat) : Int) := by rw [Int.natCast_emod]
          have hq4 : Int.tdiv (j : Int) (gw : Int) = ((j / gw : Nat) : Int) := by rw [Int.tdiv_eq_ediv_of_nonneg (by omega)]; exact hq3
          have hr4 : Int.tmod (j : Int) (gw : Int) = ((j % gw : Nat) : Int) := by rw [Int.tmod_eq_emod_of_nonneg (by omega)]; exact hr3
          have hgw0 : (0 : Int) < (gw : Int) := by omega
          have hz : ((gw : Int) == 0) = false := by rw [beq_eq_false_iff_ne]; omega
          obtain ⟨ox, oy, od, HOX⟩ : ∃ ox oy od, Hid (postL gw j k = (ox, oy, od)) := ⟨_, _, _, rfl⟩
          have HOX2 := Lib.hid HOX.out
          unfold postL at HOX2
          generalize k / gw = y1 at *
          generalize k % gw = x1 at *
          generalize j / gw = y2 at *
          generalize j % gw = x2 at *
          have hj0 : (0 : Int) ≤ (j : Int) := by omega
          have hj16 : (j : Int) < 16 := by omega
          have hnb := hnx
          obtain ⟨⟨e1, e2⟩, ⟨e3, e4⟩, ⟨e5, e6⟩, ⟨e7, e8⟩, _⟩ := hnx
          have HNX := Lib.hid hnb
          have hlen := HPL.out k
          have hl1 : (postTo gw zs k).length + 1 ≤ 1073741824 := by omega
          clear hnb hj1
          go_wp2_with fail
          go_quiet (fail)
          go_upto_region 9 with (fail)
          generalize hV : World.drewN wr _ = V
          have HA3 : Hid (Acc elDomino w w.heap.size V vv (postTo gw zs k)) := by unfold Hid; rw [← hV]; exact HA.out.below (Drawn.below ⟨_, rfl⟩ _)
          have HB3 : Hid (KeepI V gz n cz zs vv) := by unfold Hid; rw [← hV]; exact HB.out.below (Drawn.below ⟨_, rfl⟩ _)
          clear hV hcell' hq1 hq2 hq3 hq4 hr1 hr2 hr3 hr4 hz
          go_wp2_with fail
          refine (DominoOver_yes _ _ _ _ HNX.out _).mono ?_
          rintro e w4 ⟨rfl, hb4⟩
          rw [HOX2.out]
          have HA4 := Lib.hid (HA3.out.below hb4)
          have HB4 := Lib.hid (HB3.out.below hb4)
          clear hb4 HA3 HB3
          go_upto_region 10 with (fail)
          obtain ⟨V9, hV9, kV9, bV9⟩ := one_alloc w4 (triO ox oy od 46)
          rw [← hV9]
          obtain ⟨n9, hn9⟩ : ∃ n9, w4.heap.size = n9 := ⟨_, rfl⟩
          rw [hn9] at kV9 ⊢
          have HA5 := Lib.hid (HA4.out.below bV9)
          have HB5 := Lib.hid (HB4.out.below bV9)
          obtain ⟨f0, f1, f2⟩ := tri_cells kV9
          clear hV9 kV9 bV9 hn9
          go_wp2_with (at_builtin; refine wpList_push okDomino rfl _ _ rfl HA5.out rfl (ox, oy, od) _ rfl _ rfl rfl hl1 ?_; intro v6 w6 HA6 HG6)
          have HB6 := Lib.hid (HB5.out.grew HG6.out)
          go_roundw
          case rel => exact ⟨k + 1, _, rfl, by omega, by go_num, HB6, by rw [HE.out, HOX.out]; exact HA6⟩
          case measure => simp [intOf]; omega
      · obtain rfl : k = n := by omega
        have ht : decide ((k : Int) < (k : Int)) = false := by simp
        obtain ⟨XS, HXS⟩ : ∃ XS, Hid (postTo gw zs k = XS) := ⟨_, rfl⟩
        have hxl := HPL.out k
        rw [HXS.out] at HA hxl
        clear HB HPZ HPS HPL HP2
        go_wp2_with fail
        refine (HOUT.out wr HA.out.2.1).mono ?_
        rintro e w5 ⟨v5, kn, cs, rfl, hr5, hi5, hq5, hb5, gc, rfl, hgc⟩
        have HI5 := Lib.hid (HF2.out kn cs hi5 hq5)
        have HA5 := Lib.hid (HA.out.below hb5)
        have HK5 : Hid (KeepF w5 gc F F ((List.range F).map cs) vv) := by
          refine ⟨hr5, fun hx => ?_, fun hx e => ?_⟩
          · obtain ⟨A', c', he, _, _, hrd⟩ := hr5
            simp only [Value.slice.injEq] at he
            obtain ⟨rfl, _, _⟩ := he
            have hpos : 0 < ((List.range F).map cs).length := List.length_pos_iff.2 hx
            obtain ⟨ad, ea, hb, _⟩ := hrd 0 _ (List.getElem?_eq_getElem hpos)
            simp only [Option.some.injEq] at ea
            rw [← ea] at hb; exact hb
          · have := (HA.out.1.lt _ e).2; omega
        have HFZ : Hid (faceTo gw cs 0 = []) := rfl
        have HFS : Hid (∀ k, faceTo gw cs (k + 1) = faceTo gw cs k ++ [overL (cellF gw k).1 (cellF gw k).2 (cs k).1 (cs k).2]) := fun k => rfl
        have HFL := Lib.hid (faceTo_len gw cs)
        clear hr5 hi5 hq5 hb5 hgc HF2 HA HOUT
        go_wp2_with fail
        go_loopw [8, 77] (fun o i wr => ∃ (f : Nat) (v : Value), v = o ∧ f ≤ F ∧ i = .int .i64 (f : Int) ∧ Hid (KeepF wr gc F F ((List.range F).map cs) v) ∧ Hid (Acc elDomino w w.heap.size wr v (XS ++ faceTo gw cs f))) (fun _ i _ => F - (intOf i).toNat)
        case atStart => exact ⟨0, _, rfl, Nat.zero_le _, rfl, HK5, by rw [HFZ.out, List.append_nil]; exact HA5⟩
        case round =>
          obtain ⟨f, v6, rfl, hf, rfl, HK6, HA6⟩ := hrel
          clear HK5 HA5
          by_cases hlf : f < F
          · have htf : decide ((f : Int) < (F : Int)) = true := by simp only [decide_eq_true_eq]; omega
            obtain ⟨m1, m2⟩ := HK6.out.cell (k := f) (by simpa using hlf)
            rw [(dxy_map hlf).1] at m1
            rw [(dxy_map hlf).2] at m2
            have HNF := Lib.hid (HI5.out.fc f (by rw [HFF.out]; exact hlf))
            have HFK := Lib.hid (HFS.out f)
            have HCF : Hid (cellF gw f = (2 * ((f % (gw - 1) : Nat) : Int) + 1, 2 * ((f / (gw - 1) : Nat) : Int) + 1)) := rfl
            rw [HCF.out] at HNF HFK
            have ha0 : 0 < gw - 1 := Nat.pos_of_ne_zero fun e => by have := HFF.out; rw [e] at this; simp at this; omega
            obtain ⟨a, ha⟩ : ∃ a, gw - 1 = a := ⟨_, rfl⟩
            have hga : (gw : Int) - 1 = (a : Int) := by omega
            rw [ha] at HNF HFK ha0
            have hgaw : IntKind.i64.wrap ((gw : Int) - 1) = (a : Int) := by rw [hga]; exact IntWalk.i64_in _ (by omega)
            have hgaw2 : IntKind.i64.wrap (a : Int) = (a : Int) := IntWalk.i64_in _ (by omega)
            have hza2 : ¬ a = 0 := by omega
            have hq1 : (f : Int) / (a : Int) = ((f / a : Nat) : Int) := by rw [Int.natCast_ediv]
            have hr1 : (f : Int) % (a : Int) = ((f % a : Nat) : Int) := by rw [Int.natCast_emod]
            have hq2 : Int.tdiv (f : Int) (a : Int) = ((f / a : Nat) : Int) := by rw [Int.tdiv_eq_ediv_of_nonneg (by omega)]; exact hq1
            have hr2 : Int.tmod (f : Int) (a : Int) = ((f % a : Nat) : Int) := by rw [Int.tmod_eq_emod_of_nonneg (by omega)]; exact hr1
            have hza : ((a : Int) == 0) = false := by rw [beq_eq_false_iff_ne]; omega
            have ha1 : (0 : Int) < (a : Int) := by omega
            generalize f / a = y1 at *
            generalize f % a = x1 at *
            generalize (cs f).1 = X at *
            generalize (cs f).2 = Y at *
            obtain ⟨ox, oy, od, HOX⟩ : ∃ ox oy od, Hid (overL (2 * (x1 : Int) + 1) (2 * (y1 : Int) + 1) X Y = (ox, oy, od)) := ⟨_, _, _, rfl⟩
            have HE : Hid (XS ++ faceTo gw cs (f + 1) = (XS ++ faceTo gw cs f) ++ [(ox, oy, od)]) := by
              unfold Hid
              rw [HFK.out, List.append_assoc]
              show XS ++ (faceTo gw cs f ++ [overL (2 * (x1 : Int) + 1) (2 * (y1 : Int) + 1) X Y]) = _
              rw [HOX.out]
            have HNF2 : Hid (nextB (2 * (x1 : Int) + 1) (2 * (y1 : Int) + 1) X Y) := HNF.out
            have hnf : nextB (2 * (x1 : Int) + 1) (2 * (y1 : Int) + 1) X Y := HNF.out
            obtain ⟨⟨e1, e2⟩, ⟨e3, e4⟩, ⟨e5, e6⟩, ⟨e7, e8⟩, _⟩ := hnf
            have w1 : IntKind.i64.wrap (2 * (x1 : Int)) = 2 * (x1 : Int) := IntWalk.i64_in _ (by omega)
            have w2' : IntKind.i64.wrap (2 * (x1 : Int) + 1) = 2 * (x1 : Int) + 1 := IntWalk.i64_in _ (by omega)
            have w3 : IntKind.i64.wrap (2 * (y1 : Int)) = 2 * (y1 : Int) := IntWalk.i64_in _ (by omega)
            have w4' : IntKind.i64.wrap (2 * (y1 : Int) + 1) = 2 * (y1 : Int) + 1 := IntWalk.i64_in _ (by omega)
            have wy : IntKind.i64.wrap (y1 : Int) = (y1 : Int) := IntWalk.i64_in _ (by omega)
            have hf0 : (0 : Int) ≤ (f : Int) := by omega
            have hf1 : (f : Int) < (F : Int) := by omega
            have hfl := HFL.out f
            have hl1 : (XS ++ faceTo gw cs f).length + 1 ≤ 1073741824 := by rw [List.length_append]; omega
            clear HNF HFK HCF ha
            go_upto_region 15 with (fail)
            obtain ⟨V, hV, kV, bV⟩ := one_alloc wr (.cells #[.int .i64 X, .int .i64 Y] 44)
            rw [← hV]
            obtain ⟨n18, hn18⟩ : ∃ n18, wr.heap.size = n18 := ⟨_, rfl⟩
            have HK7 := Lib.hid (HK6.out.below bV)
            have HA7 := Lib.hid (HA6.out.below bV)
            rw [hn18] at kV ⊢
            have z0 : V.cell? ⟨n18, 0, none⟩ = some (.int .i64 X) := by rw [blk_cell kV]; rfl
            have z1 : V.cell? ⟨n18, 1, none⟩ = some (.int .i64 Y) := by rw [blk_cell kV]; rfl
            have HL18 := Lib.hid (lt_of_block kV)
            obtain ⟨n19, hn19⟩ : ∃ n19, V.heap.size = n19 := ⟨_, rfl⟩
            have HN19 := Lib.hid hn19
            clear hV kV bV hn18 m1 m2 hn19
            go_cut [19] (fun s wx => ∃ nn, s = .pointer (some ⟨nn, 0, none⟩) ∧ Hid (KeepF wx gc F F ((List.range F).map cs) v6) ∧ Hid (Acc elDomino w w.heap.size wx v6 (XS ++ faceTo gw cs f)) ∧ Hid (wx.heap[nn]? = some (triO ox oy od 46)))
            case first =>
              go_wp2_with fail
              refine wp_region_held_drew (S := fun w' => Below V.heap.size V w' ∧ w'.cell? ⟨n18, 0, none⟩ = some (.int .i64 X) ∧ w'.cell? ⟨n18, 1, none⟩ = some (.int .i64 Y)) (by kernel_rfl) (by exact ⟨(Below.refl _ _).drew, z0, z1⟩) (fun hHeld => ?_)
              refine wpAnyH_take (i := 0) (oi := ⟨_, _, _, _, _, _⟩) (v := ?vap22141q1n0) rfl (by kernel_rfl) (by kernel_rfl) (by kernel_rfl) (fun _ _ _ h => h) (Or.inl ⟨by rfl, ?hap22141q1n0⟩) (by assumption) ?_
              case hap22141q1n0 => (intro w hSw; (try dsimp only at hSw); go_simp; try with_reducible rfl)
              try simp only [Act.put, List.setIfInBounds_toArray, List.set_cons_zero, List.set_cons_succ]
              refine wpAnyH_take (i := 1) (oi := ⟨_, _, _, _, _, _⟩) (v := ?vap22141q2n1) rfl (by kernel_rfl) (by kernel_rfl) (by kernel_rfl) (fun _ _ _ h => h) (Or.inl ⟨by rfl, ?hap22141q2n1⟩) (by assumption) ?_
              case hap22141q2n1 => (intro w hSw; (try dsimp only at hSw); go_simp; try with_reducible rfl)
              try simp only [Act.put, List.setIfInBounds_toArray, List.set_cons_zero, List.set_cons_succ]
              refine wpAnyH_take (i := 2) (oi := ⟨_, _, _, _, _, _⟩) (v := ?vap22141q3n2) rfl (by kernel_rfl) (by kernel_rfl) (by kernel_rfl) (fun _ _ _ h => h) (Or.inl ⟨by rfl, ?hap22141q3n2⟩) (by assumption) ?_
              case hap22141q3n2 => (intro w hSw; (try dsimp only at hSw); go_simp; try with_reducible rfl)
              try simp only [Act.put, List.setIfInBounds_toArray, List.set_cons_zero, List.set_cons_succ]
              refine wpAnyH_take (i := 3) (oi := ⟨_, _, _, _, _, _⟩) (v := ?vap22141q4n3) rfl (by kernel_rfl) (by kernel_rfl) (by kernel_rfl) (fun _ _ _ h => h) (Or.inl ⟨by rfl, ?hap22141q4n3⟩) (by assumption) ?_
              case hap22141q4n3 => (intro w hSw; (try dsimp only at hSw); go_simp; try with_reducible rfl)
              try simp only [Act.put, List.setIfInBounds_toArray, List.set_cons_zero, List.set_cons_succ]
              refine wpAnyH_take (i := 4) (oi := ⟨_, _, _, _, _, _⟩) (v := ?vap22141q5n4) rfl (by kernel_rfl) (by kernel_rfl) (by kernel_rfl) (fun _ _ _ h => h) (Or.inl ⟨by rfl, ?hap22141q5n4⟩) (by assumption) ?_
              case hap22141q5n4 => (intro w hSw; (try dsimp only at hSw); go_simp; try with_reducible rfl)
              try simp only [Act.put, List.setIfInBounds_toArray, List.set_cons_zero, List.set_cons_succ]
              refine wpAnyH_take (i := 5) (oi := ⟨_, _, _, _, _, _⟩) (v := ?vap22141q6n5) rfl (by kernel_rfl) (by kernel_rfl) (by kernel_rfl) (fun _ _ _ h => h) (Or.inl ⟨by rfl, ?hap22141q6n5⟩) (by assumption) ?_
              case hap22141q6n5 => (intro w hSw; (try dsimp only at hSw); go_simp; try with_reducible rfl)
              try simp only [Act.put, List.setIfInBounds_toArray, List.set_cons_zero, List.set_cons_succ]
              refine wpAnyH_take (i := 6) (oi := ⟨_, _, _, _, _, _⟩) (v := ?vap22141q7n6) rfl (by kernel_rfl) (by kernel_rfl) (by kernel_rfl) (fun _ _ _ h => h) (Or.inl ⟨by rfl, ?hap22141q7n6⟩) (by assumption) ?_
              case hap22141q7n6 => (intro w hSw; (try dsimp only at hSw); go_simp; try with_reducible rfl)
              try simp only [Act.put, List.setIfInBounds_toArray, List.set_cons_zero, List.set_cons_succ]
              refine wpAnyH_take (i := 7) (oi := ⟨_, _, _, _, _, _⟩) (v := ?vap22141q8n7) rfl (by kernel_rfl) (by kernel_rfl) (by kernel_rfl) (fun _ _ _ h => h) (Or.inl ⟨by rfl, ?hap22141q8n7⟩) (by assumption) ?_
              case hap22141q8n7 => (intro w hSw; (try dsimp only at hSw); go_simp; try with_reducible rfl)
              try simp only [Act.put, List.setIfInBounds_toArray, List.set_cons_zero, List.set_cons_succ]
              refine wpAnyH_take (i := 8) (oi := ⟨_, _, _, _, _, _⟩) (v := ?vap22141q9n8) rfl (by kernel_rfl) (by kernel_rfl) (by kernel_rfl) (fun _ _ _ h => h) (Or.inl ⟨by rfl, ?hap22141q9n8⟩) (by assumption) ?_
              case hap22141q9n8 => (intro w hSw; (try dsimp only at hSw); go_simp; try with_reducible rfl)
              try simp only [Act.put, List.setIfInBounds_toArray, List.set_cons_zero, List.set_cons_succ]
              refine wpAnyH_take (i := 9) (oi := ⟨_, _, _, _, _, _⟩) (v := ?vap22141q10n9) rfl (by kernel_rfl) (by kernel_rfl) (by kernel_rfl) (fun _ _ _ h => h) (Or.inl ⟨by rfl, ?hap22141q10n9⟩) (by assumption) ?_
              case hap22141q10n9 => (intro w hSw; (try dsimp only at hSw); go_simp; try with_reducible rfl)
              try simp only [Act.put, List.setIfInBounds_toArray, List.set_cons_zero, List.set_cons_succ]
              refine wpAnyH_take (i := 10) (oi := ⟨_, _, _, _, _, _⟩) (v := ?vap22141q11n10) rfl (by kernel_rfl) (by kernel_rfl) (by kernel_rfl) (fun _ _ _ h => h) (Or.inl ⟨by rfl, ?hap22141q11n10⟩) (by assumption) ?_
              case hap22141q11n10 => (intro w hSw; (try dsimp only at hSw); go_simp; try with_reducible rfl)
              try simp only [Act.put, List.setIfInBounds_toArray, List.set_cons_zero, List.set_cons_succ]
              refine wpAnyH_take (i := 11) (oi := ⟨_, _, _, _, _, _⟩) (v := ?vap22141q12n11) rfl (by kernel_rfl) (by kernel_rfl) (by kernel_rfl) (fun _ _ _ h => h) (Or.inl ⟨by rfl, ?hap22141q12n11⟩) (by assumption) ?_
              case hap22141q12n11 => (intro w hSw; (try dsimp only at hSw); go_simp; try with_reducible rfl)
              try simp only [Act.put, List.setIfInBounds_toArray, List.set_cons_zero, List.set_cons_succ]
              refine wpAnyH_take (i := 12) (oi := ⟨_, _, _, _, _, _⟩) (v := ?vap22141q13n12) rfl (by kernel_rfl) (by kernel_rfl) (by kernel_rfl) (fun _ _ _ h => h) (Or.inl ⟨by rfl, ?hap22141q13n12⟩) (by assumption) ?_
              case hap22141q13n12 => (intro w hSw; (try dsimp only at hSw); go_simp; try with_reducible rfl)
              try simp only [Act.put, List.setIfInBounds_toArray, List.set_cons_zero, List.set_cons_succ]
              refine wpAnyH_take (i := 13) (oi := ⟨_, _, _, _, _, _⟩) (v := ?vap22141q14n13) rfl (by kernel_rfl) (by kernel_rfl) (by kernel_rfl) (fun _ _ _ h => h) (Or.inl ⟨by rfl, ?hap22141q14n13⟩) (by assumption) ?_
              case hap22141q14n13 => (intro w hSw; (try dsimp only at hSw); go_simp; try with_reducible rfl)
              try simp only [Act.put, List.setIfInBounds_toArray, List.set_cons_zero, List.set_cons_succ]
              refine wpAnyH_ready (rs := [14, 18]) (by kernel_rfl) (by simp) ?_
              refine AllReadyH.cons (o := ⟨_, _, _, _, _, _⟩) rfl (fun K hK => ?cp22141q15n14) (AllReadyH.cons (o := ⟨_, _, _, _, _, _⟩) rfl (fun K hK => ?cp22141q15n18) AllReadyH.nil)
              case cp22141q15n14 =>
                clear hga hgaw hgaw2 hza hza2 hq1 hq2 hr1 hr2 w1 w2' w3 w4' wy htf ht
                go_simp
                go_at_call 101
                refine (DominoOver_yes _ _ _ _ HNF2.out _).mono ?_
                rintro e w4 ⟨rfl, hb4⟩
                rw [HOX.out]
                have hb4b := hHeld.1.trans (hb4.mono hHeld.1.size)
                try (obtain ⟨y0, y1', y2⟩ := tri_cells (show w4.heap[V.heap.size]? = some (triO 0 0 false 46) from blk_below (by exact heap_alloc_new V _) hb4); have yz : ∀ o, w4.frozen? ⟨V.heap.size, o, none⟩ = false := fun o => blk_free (show w4.heap[V.heap.size]? = some (triO 0 0 false 46) from blk_below (by exact heap_alloc_new V _) hb4))
                refine hK.out _ _ (by refine keepN HL18.out z0 z1 ?_; first | exact hHeld.1.alloc hHeld.1.size _ | exact (hHeld.1.alloc hHeld.1.size _).drew | exact hb4b | exact hb4b.alloc hb4b.size _ | exact (hb4b.alloc hb4b.size _).drew | exact ((hb4b.setCell (p := ⟨V.heap.size, _, none⟩) (Nat.le_refl _) _).setCell (p := ⟨V.heap.size, _, none⟩) (Nat.le_refl _) _).setCell (p := ⟨V.heap.size, _, none⟩) (Nat.le_refl _) _) (fun hHeld => ?_)
                clear hK K
                refine wpAnyH_take (i := 15) (oi := ⟨_, _, _, _, _, _⟩) (v := ?vap22141q16n15) rfl (by kernel_rfl) (by kernel_rfl) (by kernel_rfl) (fun _ _ _ h => h) (Or.inl ⟨by rfl, ?hap22141q16n15⟩) (by assumption) ?_
                case hap22141q16n15 => (intro w hSw; (try dsimp only at hSw); go_simp; try with_reducible rfl)
                try simp only [Act.put, List.setIfInBounds_toArray, List.set_cons_zero, List.set_cons_succ]
                refine wpAnyH_take (i := 16) (oi := ⟨_, _, _, _, _, _⟩) (v := ?vap22141q17n16) rfl (by kernel_rfl) (by kernel_rfl) (by kernel_rfl) (fun _ _ _ h => h) (Or.inl ⟨by rfl, ?hap22141q17n16⟩) (by assumption) ?_
                case hap22141q17n16 => (intro w hSw; (try dsimp only at hSw); go_simp; try with_reducible rfl)
                try simp only [Act.put, List.setIfInBounds_toArray, List.set_cons_zero, List.set_cons_succ]
                refine wpAnyH_take (i := 17) (oi := ⟨_, _, _, _, _, _⟩) (v := ?vap22141q18n17) rfl (by kernel_rfl) (by kernel_rfl) (by kernel_rfl) (fun _ _ _ h => h) (Or.inl ⟨by rfl, ?hap22141q18n17⟩) (by assumption) ?_
                case hap22141q18n17 => (intro w hSw; (try dsimp only at hSw); go_simp; try with_reducible rfl)
                try simp only [Act.put, List.setIfInBounds_toArray, List.set_cons_zero, List.set_cons_succ]
                refine wpAnyH_ready (rs := [18]) (by kernel_rfl) (by simp) ?_
                refine AllReadyH.cons (o := ⟨_, _, _, _, _, _⟩) rfl (fun K hK => ?_) AllReadyH.nil
                go_simp
                refine hK.out _ _ (by refine keepN HL18.out z0 z1 ?_; first | exact hHeld.1.alloc hHeld.1.size _ | exact (hHeld.1.alloc hHeld.1.size _).drew | exact hb4b | exact hb4b.alloc hb4b.size _ | exact (hb4b.alloc hb4b.size _).drew | exact ((hb4b.setCell (p := ⟨V.heap.size, _, none⟩) (Nat.le_refl _) _).setCell (p := ⟨V.heap.size, _, none⟩) (Nat.le_refl _) _).setCell (p := ⟨V.heap.size, _, none⟩) (Nat.le_refl _) _) (fun hHeld => ?_)
                clear hK K
                try simp only [Act.put, List.setIfInBounds_toArray, List.set_cons_zero, List.set_cons_succ]
                refine wpAnyH_ready (rs := [19]) (by kernel_rfl) (by simp) ?_
                refine AllReadyH.cons (o := ⟨_, _, _, _, _, _⟩) rfl (fun K hK => ?_) AllReadyH.nil
                go_simp
                refine hK.out _ _ (by refine keepN HL18.out z0 z1 ?_; first | exact hHeld.1.alloc hHeld.1.size _ | exact (hHeld.1.alloc hHeld.1.size _).drew | exact hb4b | exact hb4b.alloc hb4b.size _ | exact (hb4b.alloc hb4b.size _).drew | exact ((hb4b.setCell (p := ⟨V.heap.size, _, none⟩) (Nat.le_refl _) _).setCell (p := ⟨V.heap.size, _, none⟩) (Nat.le_refl _) _).setCell (p := ⟨V.heap.size, _, none⟩) (Nat.le_refl _) _) (fun hHeld => ?_)
                clear hK K
                try simp only [Act.put, List.setIfInBounds_toArray, List.set_cons_zero, List.set_cons_succ]
                refine wpAnyH_take (i := 20) (oi := ⟨_, _, _, _, _, _⟩) (v := ?vap22141q19n20) rfl (by kernel_rfl) (by kernel_rfl) (by kernel_rfl) (fun _ _ _ h => h) (Or.inl ⟨by rfl, ?hap22141q19n20⟩) (by assumption) ?_
                case hap22141q19n20 => (intro w hSw; (try dsimp only at hSw); go_simp; try with_reducible rfl)
                try simp only [Act.put, List.setIfInBounds_toArray, List.set_cons_zero, List.set_cons_succ]
                refine wpAnyH_done (by kernel_rfl) ?_ _
                go_wp2_with fail
                go_meet
                first
                  | exact ⟨_, rfl, HK7.out.below (hb4b.alloc hb4b.size _), HA7.out.below (hb4b.alloc hb4b.size _), heap_alloc_new w4 _⟩
                  | (have hk0 : w4.heap[V.heap.size]? = some (triO 0 0 false 46) := blk_below (by exact heap_alloc_new V _) hb4; have hb9 := ((hb4b.setCell (p := ⟨V.heap.size, 0, none⟩) (Nat.le_refl _) (.int .i64 ox)).setCell (p := ⟨V.heap.size, 1, none⟩) (Nat.le_refl _) (.int .i64 oy)).setCell (p := ⟨V.heap.size, 2, none⟩) (Nat.le_refl _) (.bool od); exact ⟨_, rfl, HK7.out.below hb9, HA7.out.below hb9, (blk_setCell (blk_setCell (blk_setCell hk0 _) _) _).trans rfl⟩)
              case cp22141q15n18 =>
                go_simp
                refine hK.out _ _ (by refine keepN HL18.out z0 z1 ?_; first | exact hHeld.1.alloc hHeld.1.size _ | exact (hHeld.1.alloc hHeld.1.size _).drew | exact hb4b | exact hb4b.alloc hb4b.size _ | exact (hb4b.alloc hb4b.size _).drew | exact ((hb4b.setCell (p := ⟨V.heap.size, _, none⟩) (Nat.le_refl _) _).setCell (p := ⟨V.heap.size, _, none⟩) (Nat.le_refl _) _).setCell (p := ⟨V.heap.size, _, none⟩) (Nat.le_refl _) _) (fun hHeld => ?_)
                clear hK K
                try simp only [Act.put, List.setIfInBounds_toArray, List.set_cons_zero, List.set_cons_succ]
                refine wpAnyH_ready (rs := [14]) (by kernel_rfl) (by simp) ?_
                refine AllReadyH.cons (o := ⟨_, _, _, _, _, _⟩) rfl (fun K hK => ?_) AllReadyH.nil
                clear hga hgaw hgaw2 hza hza2 hq1 hq2 hr1 hr2 w1 w2' w3 w4' wy htf ht
                go_simp
                go_at_call 101
                refine (DominoOver_yes _ _ _ _ HNF2.out _).mono ?_
                rintro e w4 ⟨rfl, hb4⟩
                rw [HOX.out]
                have hb4b := hHeld.1.trans (hb4.mono hHeld.1.size)
                try (obtain ⟨y0, y1', y2⟩ := tri_cells (show w4.heap[V.heap.size]? = some (triO 0 0 false 46) from blk_below (by exact heap_alloc_new V _) hb4); have yz : ∀ o, w4.frozen? ⟨V.heap.size, o, none⟩ = false := fun o => blk_free (show w4.heap[V.heap.size]? = some (triO 0 0 false 46) from blk_below (by exact heap_alloc_new V _) hb4))
                refine hK.out _ _ (by refine keepN HL18.out z0 z1 ?_; first | exact hHeld.1.alloc hHeld.1.size _ | exact (hHeld.1.alloc hHeld.1.size _).drew | exact hb4b | exact hb4b.alloc hb4b.size _ | exact (hb4b.alloc hb4b.size _).drew | exact ((hb4b.setCell (p := ⟨V.heap.size, _, none⟩) (Nat.le_refl _) _).setCell (p := ⟨V.heap.size, _, none⟩) (Nat.le_refl _) _).setCell (p := ⟨V.heap.size, _, none⟩) (Nat.le_refl _) _) (fun hHeld => ?_)
                clear hK K
                refine wpAnyH_take (i := 15) (oi := ⟨_, _, _, _, _, _⟩) (v := ?vap22141q20n15) rfl (by kernel_rfl) (by kernel_rfl) (by kernel_rfl) (fun _ _ _ h => h) (Or.inl ⟨by rfl, ?hap22141q20n15⟩) (by assumption) ?_
                case hap22141q20n15 => (intro w hSw; (try dsimp only at hSw); go_simp; try with_reducible rfl)
                try simp only [Act.put, List.setIfInBounds_toArray, List.set_cons_zero, List.set_cons_succ]
                refine wpAnyH_take (i := 16) (oi := ⟨_, _, _, _, _, _⟩) (v := ?vap22141q21n16) rfl (by kernel_rfl) (by kernel_rfl) (by kernel_rfl) (fun _ _ _ h => h) (Or.inl ⟨by rfl, ?hap22141q21n16⟩) (by assumption) ?_
                case hap22141q21n16 => (intro w hSw; (try dsimp only at hSw); go_simp; try with_reducible rfl)
                try simp only [Act.put, List.setIfInBounds_toArray, List.set_cons_zero, List.set_cons_succ]
                refine wpAnyH_take (i := 17) (oi := ⟨_, _, _, _, _, _⟩) (v := ?vap22141q22n17) rfl (by kernel_rfl) (by kernel_rfl) (by kernel_rfl) (fun _ _ _ h => h) (Or.inl ⟨by rfl, ?hap22141q22n17⟩) (by assumption) ?_
                case hap22141q22n17 => (intro w hSw; (try dsimp only at hSw); go_simp; try with_reducible rfl)
                try simp only [Act.put, List.setIfInBounds_toArray, List.set_cons_zero, List.set_cons_succ]
                refine wpAnyH_ready (rs := [19]) (by kernel_rfl) (by simp) ?_
                refine AllReadyH.cons (o := ⟨_, _, _, _, _, _⟩) rfl (fun K hK => ?_) AllReadyH.nil
                go_simp
                refine hK.out _ _ (by refine keepN HL18.out z0 z1 ?_; first | exact hHeld.1.alloc hHeld.1.size _ | exact (hHeld.1.alloc hHeld.1.size _).drew | exact hb4b | exact hb4b.alloc hb4b.size _ | exact (hb4b.alloc hb4b.size _).drew | exact ((hb4b.setCell (p := ⟨V.heap.size, _, none⟩) (Nat.le_refl _) _).setCell (p := ⟨V.heap.size, _, none⟩) (Nat.le_refl _) _).setCell (p := ⟨V.heap.size, _, none⟩) (Nat.le_refl _) _) (fun hHeld => ?_)
                clear hK K
                try simp only [Act.put, List.setIfInBounds_toArray, List.set_cons_zero, List.set_cons_succ]
                refine wpAnyH_take (i := 20) (oi := ⟨_, _, _, _, _, _⟩) (v := ?vap22141q23n20) rfl (by kernel_rfl) (by kernel_rfl) (by kernel_rfl) (fun _ _ _ h => h) (Or.inl ⟨by rfl, ?hap22141q23n20⟩) (by assumption) ?_
                case hap22141q23n20 => (intro w hSw; (try dsimp only at hSw); go_simp; try with_reducible rfl)
                try simp only [Act.put, List.setIfInBounds_toArray, List.set_cons_zero, List.set_cons_succ]
                refine wpAnyH_done (by kernel_rfl) ?_ _
                go_wp2_with fail
                go_meet
                first
                  | exact ⟨_, rfl, HK7.out.below (hb4b.alloc hb4b.size _), HA7.out.below (hb4b.alloc hb4b.size _), heap_alloc_new w4 _⟩
                  | (have hk0 : w4.heap[V.heap.size]? = some (triO 0 0 false 46) := blk_below (by exact heap_alloc_new V _) hb4; have hb9 := ((hb4b.setCell (p := ⟨V.heap.size, 0, none⟩) (Nat.le_refl _) (.int .i64 ox)).setCell (p := ⟨V.heap.size, 1, none⟩) (Nat.le_refl _) (.int .i64 oy)).setCell (p := ⟨V.heap.size, 2, none⟩) (Nat.le_refl _) (.bool od); exact ⟨_, rfl, HK7.out.below hb9, HA7.out.below hb9, (blk_setCell (blk_setCell (blk_setCell hk0 _) _) _).trans rfl⟩)
            case rest =>
              obtain ⟨nn, rfl, HK8, HA8, HT8⟩ := hcut
              clear HK7 HA7 z0 z1 w1 w2' w3 w4' hq1 hq2 hr1 hr2 hza hgaw hgaw2 hza2
              obtain ⟨f0, f1, f2⟩ := tri_cells HT8.out
              go_wp2_with (at_builtin; refine wpList_push okDomino rfl _ _ rfl HA8.out rfl (ox, oy, od) _ rfl _ rfl rfl hl1 ?_; intro v10 w10 HA10 HG10)
              have HK10 := Lib.hid (HK8.out.grew HG10.out)
              go_roundw
              case rel => exact ⟨f + 1, _, rfl, by omega, by go_num, HK10, by rw [HE.out]; exact HA10⟩
              case measure => simp [intOf]; omega
          · obtain rfl : f = F := by omega
            have htf : decide ((f : Int) < (f : Int)) = false := by simp
            have HRD := Lib.hid (HA6.out.1.rd okDomino)
            have HBB := Lib.hid HA6.out.2.1
            have HE : Hid (sortI (XS ++ faceTo gw cs f) (XS ++ faceTo gw cs f).length = tilQ gw gh ls) := by
              unfold Hid
              rw [← HTQ.out]
              have := HI5.out.fin
              rw [HN.out, HFF.out, HXS.out] at this
              exact this
            generalize XS ++ faceTo gw cs f = LL at *
            go_wp2_with fail
            refine (SortDominoes_any _ LL _ _ HRD.out (Nat.le_refl _)).mono ?_
            rintro e w9 ⟨u9, rfl, ho9, hb9⟩
            rw [HE.out] at ho9
            have HO9 := Lib.hid (ho9.mono HBB.out.size)
            have HB9 := Lib.hid (HBB.out.trans (hb9.mono HBB.out.size))
            clear ho9 hb9
            go_wp2_with fail
            refine bodyPost_ret (v := .tuple #[u9, .bool true]) (by simp [results, Try.results36, go_sem]) rfl ⟨_, rfl, HO9.out, HB9.out⟩
end Go.Proofs.Ytehnbalbpfmijaa

namespace Go.Proofs.Ytehnbalbpfmijaa
open Go.RowKit

def triFill (ls : List Lk) (k : Nat) : List Lk := (List.range ls.length).map fun i => if i < k then ls.getD i (0, 0, false) else (0, 0, false)
theorem triFill_length (ls : List Lk) (k : Nat) : (triFill ls k).length = ls.length := by simp [triFill]
theorem triFill_all (ls : List Lk) (k : Nat) (h : ls.length ≤ k) : triFill ls k = ls := by
  apply List.ext_getElem
  · exact triFill_length _ _
  · intro i h1 h2; simp [triFill, h2, show i < k by omega]
theorem triFill_set (ls : List Lk) (k : Nat) (_h : k < ls.length) : (triFill ls k).set k (lx ls k, ly ls k, ld ls k) = triFill ls (k + 1) := by
  apply List.ext_getElem
  · simp [triFill]
  · intro i h1 h2
    rw [List.getElem_set]
    by_cases e : k = i
    · subst e; simp [triFill, lx, ly, ld]
    · by_cases e2 : i < k
      · simp [triFill, e, e2, show i < k + 1 by omega]
      · simp [triFill, e, e2, show ¬ i < k + 1 by omega]
/-- make of such a slice, at every world. -/
theorem mk_tri {P : Program} (t e : TypeId) (bytes : Nat) (ht : P.underlying t = some (.slice e)) (hinfo : (P.info? e).map (fun i => (i.zero, i.size, i.bytes)) = some (some (.agg #[.int .i64 0, .int .i64 0, .bool false]), 3, bytes))
    (n : Nat) (hb : bytes * n ≤ 281474976710656) (h63 : n ≤ 9223372036854775807) (w : World) :
    (Instr.makeSlice t (.int .i64 (n : Int)) (.int .i64 (n : Int))).run P w = .ok (.slice (some ⟨w.heap.size, 0, none⟩) n n) (w.alloc (.cells (madeCells #[.int .i64 0, .int .i64 0, .bool false] (n * 3)) e)) := by
  obtain ⟨i, hi, hzz⟩ := Option.map_eq_some_iff.1 hinfo
  simp only [Prod.mk.injEq] at hzz
  obtain ⟨hz, hs, hby⟩ := hzz
  have hb' : (i.bytes : Int) * (n : Int) ≤ 281474976710656 := by
    have h : ((i.bytes * n : Nat) : Int) ≤ 281474976710656 := by rw [hby]; omega
    rwa [Int.natCast_mul] at h
  have hr := run_make (P := P) w t e i _ ht hi hz .i64 .i64 n n (by omega) (Int.le_refl _) hb' (by omega)
  simp only [Int.toNat_natCast, hs] at hr
  exact hr
theorem triMade {P : Program} {E : El Lk} (hE : E.Ok P) (hs : E.s = 3) (hf : ∀ l, E.f l = triC l) (w : World) (ls : List Lk) (hl : ls.length ≤ 9223372036854775807) :
    OwnF E (w.alloc (.cells (madeCells #[.int .i64 0, .int .i64 0, .bool false] (ls.length * 3)) E.e)) w.heap.size (.slice (some ⟨w.heap.size, 0, none⟩) ls.length ls.length) (triFill ls 0) := by
  have hlit := World.ownsRow_lit (base := w.heap.size) (e := E.e) (size := E.s) w (madeCells #[.int .i64 0, .int .i64 0, .bool false] (ls.length * 3)) ls.length (Nat.le_refl _) (by simp [maxLen]; omega) (by rw [size_madeCells, hs])
  unfold OwnF
  rw [triFill_length]
  have e : (madeCells #[.int .i64 0, .int .i64 0, .bool false] (ls.length * 3)).toList = (triFill ls 0).flatMap E.f := by
    apply List.ext_getElem?
    intro j
    have hlen := flat_length hE.len (triFill ls 0)
    rw [triFill_length, hs] at hlen
    by_cases hj : j < ls.length * 3
    · have h3 : j / 3 < ls.length := by omega
      have ej : j = j / 3 * 3 + j % 3 := by omega
      have hg := flat_get hE.len (triFill ls 0) (j / 3) (j % 3) (0, 0, false) (by simp [triFill, h3]) (by rw [hs]; omega)
      rw [hs, ← ej, hf] at hg
      rw [hg, Array.getElem?_toList]
      have h2 : j % 3 = 0 ∨ j % 3 = 1 ∨ j % 3 = 2 := by omega
      rcases h2 with h2 | h2 | h2 <;> simp [madeCells, hj, h2, triC]
    · rw [List.getElem?_eq_none (by rw [Array.length_toList, size_madeCells]; omega), List.getElem?_eq_none (by omega)]
  rw [← e]
  exact hlit
end Go.Proofs.Ytehnbalbpfmijaa

namespace Go.Proofs.Ytehnbalbpfmijaa
open Go.RowKit
set_option linter.unusedVariables false

theorem toLink_any (x y : Int) (d : Bool) (w : World) :
    Calls Try.prog 98 #[triV x y d] w fun e w' => e = .returned (triV x y d) ∧ Below w.heap.size w w' := by
  go_enter Try.func98, Try.ntmps98
  go_wp2
  refine bodyPost_ret (v := triV x y d) (by simp [results, Try.results98, go_sem]) rfl ⟨rfl, ?_⟩
  repeat (first | exact Below.refl _ _ | refine Below.setCell ?_ (by simp <;> omega) _ | refine Below.alloc ?_ (by simp <;> omega) _)
theorem szLinkS_any (v : Value) (ls : List Lk) (left : Int) (B : Nat) (w : World) (h : RdF elLink w B v ls) (h1 : 0 ≤ left) (h2 : left ≤ 1099511627776) :
    Calls Try.prog 33 #[v, .int .i64 left] w fun e w' => e = .returned (.int .i64 (szZ ls.length left)) ∧ w = w' := by
  obtain ⟨A, c, rfl, g1, g2, g3⟩ := h
  unfold maxLen at g2
  clear g3
  have hz : szZ ls.length left = if left - (ls.length : Int) < 0 then -1 else left - (ls.length : Int) := rfl
  by_cases hlt : left - (ls.length : Int) < 0
  · rw [if_pos hlt] at hz
    rw [hz]; clear hz
    go_enter Try.func33, Try.ntmps33
    go_wp2
    go_ret
    exact ⟨rfl, rfl⟩
  · rw [if_neg hlt] at hz
    rw [hz]; clear hz
    go_enter Try.func33, Try.ntmps33
    go_wp2
    go_ret
    exact ⟨rfl, rfl⟩

def RetOwnLink (w : World) (ls : List Lk) (e : Ending) (w' : World) : Prop := ∃ v, e = .returned v ∧ OwnF elLink w' w.heap.size v ls ∧ Below w.heap.size w w'
set_option maxRecDepth 100000 in
set_option maxHeartbeats 2000000 in
theorem toLinkS_any (v : Value) (ls : List Lk) (B : Nat) (w : World) (h : RdF elLink w B v ls) (hB : B ≤ w.heap.size) (hl : ls.length ≤ 1048576) :
    Calls Try.prog 35 #[v] w (RetOwnLink w ls) := by
  obtain ⟨A, c, rfl, h1, h2, H3⟩ := RdT.of (E := elLink) rfl (fun _ => rfl) h
  unfold maxLen at h2
  clear h
  have hmk := mk_tri (P := Try.prog) 53 68 24 Try.underlying53 okLink.info ls.length (by omega) (by omega)
  have HF0 : Hid (OwnF elLink (w.alloc (.cells (madeCells #[.int .i64 0, .int .i64 0, .bool false] (ls.length * 3)) 68)) w.heap.size (.slice (some ⟨w.heap.size, 0, none⟩) ls.length ls.length) (triFill ls 0)) := triMade okLink rfl (fun _ => rfl) w ls (by omega)
  go_enter Try.func35, Try.ntmps35
  go_wp2_with fail
  clear hmk
  go_loopw [4] (fun i wr => ∃ k : Nat, k ≤ ls.length ∧ i = .int .i64 k ∧ Hid (Below w.heap.size w wr) ∧ Hid (OwnF elLink wr w.heap.size (.slice (some ⟨w.heap.size, 0, none⟩) ls.length ls.length) (triFill ls k))) (fun i _ => ls.length - (intOf i).toNat)
  case atStart => exact ⟨0, Nat.zero_le _, rfl, (Below.refl _ _).alloc (Nat.le_refl _) _, HF0⟩
  case round =>
    obtain ⟨k, hk, rfl, HB, HO⟩ := hrel
    by_cases hlt : k < ls.length
    · have ht : decide ((k : Int) < (ls.length : Int)) = true := by simp only [decide_eq_true_eq]; omega
      obtain ⟨ad, rfl, hbl, hx, hy, hz⟩ := H3.out k hlt
      have hx' := (HB.out.cell (p := ad.add (k * 3)) (by rw [addBlock]; omega)).trans hx
      have hy' := (HB.out.cell (p := ⟨(ad.add (k * 3)).block, (ad.add (k * 3)).off + 1, none⟩) (by show (ad.add (k * 3)).block < w.heap.size; rw [addBlock]; omega)).trans hy
      have hz' := (HB.out.cell (p := ⟨(ad.add (k * 3)).block, (ad.add (k * 3)).off + 2, none⟩) (by show (ad.add (k * 3)).block < w.heap.size; rw [addBlock]; omega)).trans hz
      have hk0 : (0 : Int) ≤ (k : Int) := by omega
      have hk1 : (k : Int) < (ls.length : Int) := by omega
      have hsz := HB.out.size
      clear hx hy hz
      go_wp2_with fail
      refine (toLink_any _ _ _ _).mono ?_
      rintro e w1 ⟨rfl, hb1⟩
      have HO1 := Lib.hid (HO.out.below hb1)
      have HB1 := Lib.hid (HB.out.trans (hb1.mono hsz))
      have hfl : (triFill ls k).length = ls.length := triFill_length ls k
      have ho := HO1.out
      rw [← hfl] at ho
      obtain ⟨c0, c1, c2, hfr, ht3⟩ := triStore okLink rfl (fun _ => rfl) (cap := ls.length) (by rw [hfl] at ho ⊢; exact ho) (j := k) (by rw [hfl]; exact hlt)
      obtain ⟨hst, hgr⟩ := ht3 (lx ls k) (ly ls k) (ld ls k)
      rw [triFill_set ls k hlt, triFill_length] at hst
      have HN := Lib.hid hst
      have HBN := Lib.hid (HB1.out.grown hgr HB1.out.size (fun j hj => by obtain rfl := Option.some.inj hj; exact Nat.le_refl _))
      clear hst hgr ht3 ho hb1 hfl hsz
      go_wp2_with fail
      go_roundw
      case rel => exact ⟨k + 1, by omega, by go_num, HBN, HN⟩
      case measure => simp [intOf]; omega
    · have ht : decide ((k : Int) < (ls.length : Int)) = false := by simp only [decide_eq_false_iff_not]; omega
      go_wp2_with fail
      go_ret
      refine ⟨_, rfl, ?_, HB.out⟩
      have ho := HO.out
      rw [triFill_all ls k (by omega)] at ho
      exact ho
end Go.Proofs.Ytehnbalbpfmijaa
