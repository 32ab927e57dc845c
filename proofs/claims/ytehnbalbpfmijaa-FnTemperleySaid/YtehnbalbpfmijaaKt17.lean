/- What the claim's walk rests on: parts TilI, HasS, SameD. -/
import Derived.Test.YtehnbalbpfmijaaKt15
import Derived.Test.YtehnbalbpfmijaaKt13
import Derived.Test.YtehnbalbpfmijaaKt10
import Derived.Test.YtehnbalbpfmijaaKt16
import Derived.Test.YtehnbalbpfmijaaKt8
import Derived.Test.YtehnbalbpfmijaaKt2
import Derived.Test.YtehnbalbpfmijaaKt14
import Derived.Test.YtehnbalbpfmijaaKt9
import Derived.Deep.QuietTactic
import Derived.BigQuiet
namespace Go.Proofs.Ytehnbalbpfmijaa
open Go.RowKit
set_option linter.unusedVariables false

/-- The domino of post k. -/
def postL (w : Nat) (j k : Nat) : Lk := overL (2 * ((k % w : Nat) : Int)) (2 * ((k / w : Nat) : Int)) (((k % w : Nat) : Int) + ((j % w : Nat) : Int)) (((k / w : Nat) : Int) + ((j / w : Nat) : Int))
def postTo (w : Nat) (zs : List Int) : Nat → List Lk
  | 0 => []
  | k + 1 => if k = 0 then postTo w zs k else postTo w zs k ++ [postL w (el zs k).toNat k]
def faceTo (w : Nat) (cs : Nat → Int × Int) : Nat → List Lk
  | 0 => []
  | k + 1 => faceTo w cs k ++ [overL (cellF w k).1 (cellF w k).2 (cs k).1 (cs k).2]
theorem postTo_len (w : Nat) (zs : List Int) : ∀ k, (postTo w zs k).length ≤ k
  | 0 => Nat.le_refl _
  | k + 1 => by have := postTo_len w zs k; rw [postTo]; split <;> simp <;> omega
theorem faceTo_len (w : Nat) (cs : Nat → Int × Int) : ∀ k, (faceTo w cs k).length = k
  | 0 => rfl
  | k + 1 => by rw [faceTo, List.length_append, faceTo_len w cs k]; rfl
theorem postTo_mem {w : Nat} {zs : List Int} {x : Lk} : ∀ {n : Nat}, x ∈ postTo w zs n ↔ ∃ k, 0 < k ∧ k < n ∧ x = postL w (el zs k).toNat k
  | 0 => by simp [postTo]
  | n + 1 => by
    rw [postTo]
    by_cases h0 : n = 0
    · subst h0
      rw [if_pos rfl]
      constructor
      · intro h; simp [postTo] at h
      · rintro ⟨k, h1, h2, _⟩; omega
    · rw [if_neg h0, List.mem_append, postTo_mem, List.mem_singleton]
      constructor
      · rintro (⟨k, h1, h2, h3⟩ | h)
        · exact ⟨k, h1, by omega, h3⟩
        · exact ⟨n, by omega, by omega, h⟩
      · rintro ⟨k, h1, h2, h3⟩
        rcases Nat.lt_succ_iff_lt_or_eq.1 h2 with h2 | rfl
        · exact .inl ⟨k, h1, h2, h3⟩
        · exact .inr h3
theorem faceTo_mem {w : Nat} {cs : Nat → Int × Int} {x : Lk} : ∀ {n : Nat}, x ∈ faceTo w cs n ↔ ∃ k, k < n ∧ x = overL (cellF w k).1 (cellF w k).2 (cs k).1 (cs k).2
  | 0 => by simp [faceTo]
  | n + 1 => by
    rw [faceTo, List.mem_append, faceTo_mem, List.mem_singleton]
    constructor
    · rintro (⟨k, h1, h3⟩ | h)
      · exact ⟨k, by omega, h3⟩
      · exact ⟨n, by omega, h⟩
    · rintro ⟨k, h2, h3⟩
      rcases Nat.lt_succ_iff_lt_or_eq.1 h2 with h2 | rfl
      · exact .inl ⟨k, h2, h3⟩
      · exact .inr h3
theorem next_of {v d : Int × Int} (hd : d ∈ dirs4) {W H : Int} (hv : inW W H v) (hW : W ≤ 8) (hH : H ≤ 8) (hp : inW W H (pad v d)) : nextB v.1 v.2 (pad v d).1 (pad v d).2 := by
  obtain ⟨x, y⟩ := v
  obtain ⟨⟨a1, a2⟩, a3, a4⟩ := hv
  obtain ⟨⟨b1, b2⟩, b3, b4⟩ := hp
  unfold nextB
  rcases (dirs4_iff d).1 hd with rfl | rfl | rfl | rfl <;> simp [pad] at a1 a2 a3 a4 b1 b2 b3 b4 ⊢ <;> omega
/-- What the walk needs of a tree. -/
structure ITil (gw gh : Nat) (ls : List Lk) (zs : List Int) (kn : Nat → Bool) (cs : Nat → Int × Int) : Prop where
  fin : sortI (postTo gw zs (gw * gh) ++ faceTo gw cs ((gw - 1) * (gh - 1))) (postTo gw zs (gw * gh) ++ faceTo gw cs ((gw - 1) * (gh - 1))).length = tilZ gw gh ls
  fc : ∀ k, k < (gw - 1) * (gh - 1) → nextB (cellF gw k).1 (cellF gw k).2 (cs k).1 (cs k).2
theorem post_ok {gw gh : Nat} {ls : List Lk} (hg : gridB gw gh = true) (hok : TreeOk gw gh ls) {zs : List Int} (hc : ∀ i, i < gw * gh → (0 ≤ el zs i ↔ Con (ls.map (lkN gw)) 0 i)) (hz : WayZ (gw * gh) (ls.map (lkN gw)) zs) :
    ∀ k, 0 < k → k < gw * gh → ∃ j : Nat, el zs k = (j : Int) ∧ j < gw * gh ∧ nextB (2 * ((k % gw : Nat) : Int)) (2 * ((k / gw : Nat) : Int)) (((k % gw : Nat) : Int) + ((j % gw : Nat) : Int)) (((k / gw : Nat) : Int) + ((j / gw : Nat) : Int)) := by
  have hb := (gridB_iff _ _).1 hg
  have hf := floor_ok hg
  have hw : 0 < gw * gh := Nat.mul_pos (by omega) (by omega)
  obtain ⟨d, rk, r0, hd⟩ := root_reach hf hw hok hc hz
  intro k h0 hk
  obtain ⟨j, j1, j2, j3⟩ := hd k h0 hk
  have hm : cellP gw k ∈ nodes0 gw gh := List.mem_map.2 ⟨k - 1, by simp; omega, by rw [Nat.sub_add_cancel (by omega)]⟩
  have h1 := r0.dir _ hm
  have h2 := r0.edg _ hm
  have h3 := (r0.rng _ hm).1
  have h4 : inW (2 * gw - 1) (2 * gh - 1) (pad (cellP gw k) (d (cellP gw k))) := by
    obtain ⟨l, hl, e⟩ := List.mem_map.1 h2
    rw [← e]
    exact ((hf.me _).1 (List.mem_map.2 ⟨l, hok.sb l hl, rfl⟩)).1
  have := next_of h1 h3 (by omega) (by omega) h4
  rw [j3] at this
  exact ⟨j, j1, j2, this⟩
theorem i_til {gw gh : Nat} {ls : List Lk} (ht : treeB gw gh ls = true) {zs : List Int} (hc : ∀ i, i < gw * gh → (0 ≤ el zs i ↔ Con (ls.map (lkN gw)) 0 i)) (hz : WayZ (gw * gh) (ls.map (lkN gw)) zs) {kn : Nat → Bool} {cs : Nat → Int × Int}
    (hi : OInv (gw - 1) (gh - 1) ls kn cs) (hq : QuietTo (gw - 1) (gh - 1) ls kn ((gw - 1) * (gh - 1)) 0) : ITil gw gh ls zs kn cs := by
  obtain ⟨hg, hok⟩ := tree_ok ht
  have hb := (gridB_iff _ _).1 hg
  have hf := floor_ok hg
  have hw : 0 < gw * gh := Nat.mul_pos (by omega) (by omega)
  obtain ⟨d0, k0, r0, m0⟩ := root_reach hf hw hok hc hz
  obtain ⟨d1, k1, r1, m1⟩ := out_reach hg hi hq
  have hall : ∀ f, f < (gw - 1) * (gh - 1) → kn f = true := by
    intro f hfl
    obtain ⟨g, hg1, hg2, hg3⟩ := Reach.full1 hf hok r0 (fun v hv => hv) r1 (cellF gw f) (List.mem_map.2 ⟨f, by simpa using hfl, rfl⟩)
    have hn := hf.n1
    unfold nodes1 at hn
    have : f = g := by
      rcases Nat.lt_trichotomy f g with q | q | q
      · exact absurd (by rw [List.getElem_map, List.getElem_map, List.getElem_range, List.getElem_range]; exact hg2) (List.pairwise_iff_getElem.1 hn f g (by simpa using hfl) (by simpa using hg1) q)
      · exact q
      · exact absurd (by rw [List.getElem_map, List.getElem_map, List.getElem_range, List.getElem_range]; exact hg2.symm) (List.pairwise_iff_getElem.1 hn g f (by simpa using hg1) (by simpa using hfl) q)
    rw [this]; exact hg3
  refine ⟨tilZ_eq ht ⟨_, d0, k0, _, d1, k1, _, r0, r1, fun x => ?_, rfl⟩, fun k hk => ?_⟩
  · rw [List.mem_append, postTo_mem, faceTo_mem]
    constructor
    · rintro (⟨k, h0, h1, rfl⟩ | ⟨k, h1, rfl⟩)
      · left
        obtain ⟨j, j1, j2, j3⟩ := m0 k h0 h1
        refine ⟨cellP gw k, List.mem_map.2 ⟨k - 1, by simp; omega, by rw [Nat.sub_add_cancel (by omega)]⟩, ?_⟩
        unfold wayD postL
        rw [j3, j1, Int.toNat_natCast, over_comm]
        rfl
      · right
        refine ⟨cellF gw k, ⟨k, h1, rfl, hall k h1⟩, ?_⟩
        unfold wayD
        rw [← m1 k h1 (hall k h1), over_comm]
    · rintro (⟨v, hv, rfl⟩ | ⟨v, ⟨k, h1, rfl, _⟩, rfl⟩)
      · left
        obtain ⟨i, hi, rfl⟩ := List.mem_map.1 hv
        simp only [List.mem_range] at hi
        obtain ⟨j, j1, j2, j3⟩ := m0 (i + 1) (by omega) (by omega)
        refine ⟨i + 1, by omega, by omega, ?_⟩
        unfold wayD postL
        rw [j3, j1, Int.toNat_natCast, over_comm]
        rfl
      · right
        refine ⟨k, h1, ?_⟩
        unfold wayD
        rw [← m1 k h1 (hall k h1), over_comm]
  · have hm : ∃ f, f < (gw - 1) * (gh - 1) ∧ cellF gw k = cellF gw f ∧ kn f = true := ⟨k, hk, rfl, hall k hk⟩
    have h1 := r1.dir _ hm
    have h2 := (r1.edg _ hm).1
    have h3 := (r1.rng _ hm).1
    have := next_of h1 h3 (by omega) (by omega) h2
    rw [← m1 k hk (hall k hk)] at this
    exact this

theorem cell_blk {w w1 : World} {p : Addr} (h : w1.heap[p.block]? = w.heap[p.block]?) : w1.cell? p = w.cell? p := by
  unfold World.cell?
  rw [h]
/-- A slice of integers that stays readable while another one grows. -/
structure KeepI (wr : World) (g n c : Nat) (zs : List Int) (v : Value) : Prop where
  rd : RdI wr wr.heap.size (.slice (some ⟨g, 0, none⟩) n c) zs
  lt : g < wr.heap.size
  ne : v.ownBlock ≠ some g
theorem KeepI.below {wr w1 : World} {g n c : Nat} {zs : List Int} {v : Value} (h : KeepI wr g n c zs v) (hb : Below wr.heap.size wr w1) : KeepI w1 g n c zs v :=
  ⟨(h.rd.below hb).more hb.size, Nat.lt_of_lt_of_le h.lt hb.size, h.ne⟩
theorem KeepI.grew {wr w1 : World} {g n c : Nat} {zs : List Int} {v v' : Value} (h : KeepI wr g n c zs v) (hG : Grew wr w1 v v') : KeepI w1 g n c zs v' := by
  obtain ⟨g1, q, g2, g3, g4⟩ := hG
  have hsz := g1.size
  have hbk := g1.block g h.lt (fun e => h.ne e.symm)
  refine ⟨?_, Nat.lt_of_lt_of_le h.lt hsz, fun e => ?_⟩
  · obtain ⟨A, c', he, l1, l2, hrd⟩ := h.rd
    refine ⟨A, c', he, l1, l2, fun hne => ?_⟩
    obtain ⟨ad, ea, hb, hc⟩ := hrd hne
    refine ⟨ad, ea, by omega, fun j u hu => (cell_blk ?_).trans (hc j u hu)⟩
    rw [addBlock]
    simp only [Value.slice.injEq] at he
    rw [ea] at he
    have := he.1
    simp only [Option.some.injEq] at this
    rw [← this]; exact hbk
  · rw [g2] at e
    obtain rfl := Option.some.inj e
    rcases g3 with g3 | g3
    · exact h.ne g3
    · have := h.lt; omega
/-- The same for cells. -/
structure KeepF (wr : World) (g n c : Nat) (xs : List (Int × Int)) (v : Value) : Prop where
  rd : RdF elCell wr wr.heap.size (.slice (some ⟨g, 0, none⟩) n c) xs
  lt : xs ≠ [] → g < wr.heap.size
  ne : xs ≠ [] → v.ownBlock ≠ some g
theorem KeepF.below {wr w1 : World} {g n c : Nat} {xs : List (Int × Int)} {v : Value} (h : KeepF wr g n c xs v) (hb : Below wr.heap.size wr w1) : KeepF w1 g n c xs v :=
  ⟨(h.rd.below hb).more hb.size, fun hx => Nat.lt_of_lt_of_le (h.lt hx) hb.size, h.ne⟩
theorem KeepF.grew {wr w1 : World} {g n c : Nat} {xs : List (Int × Int)} {v v' : Value} (h : KeepF wr g n c xs v) (hG : Grew wr w1 v v') : KeepF w1 g n c xs v' := by
  obtain ⟨g1, q, g2, g3, g4⟩ := hG
  have hsz := g1.size
  refine ⟨?_, fun hx => Nat.lt_of_lt_of_le (h.lt hx) hsz, fun hx e => ?_⟩
  · obtain ⟨A, c', he, l1, l2, hrd⟩ := h.rd
    refine ⟨A, c', he, l1, l2, fun j x hx => ?_⟩
    have hxs : xs ≠ [] := fun e => by rw [e] at hx; simp at hx
    have hbk := g1.block g (h.lt hxs) (fun e => h.ne hxs e.symm)
    obtain ⟨ad, ea, hb, hc⟩ := hrd j x hx
    refine ⟨ad, ea, by omega, fun i u hu => (cell_blk ?_).trans (hc i u hu)⟩
    rw [addBlock]
    simp only [Value.slice.injEq] at he
    rw [ea] at he
    have := he.1
    simp only [Option.some.injEq] at this
    rw [← this]; exact hbk
  · rw [g2] at e
    obtain rfl := Option.some.inj e
    rcases g3 with g3 | g3
    · exact h.ne hx g3
    · have := h.lt hx; omega

theorem KeepF.cell {wr : World} {g n c : Nat} {xs : List (Int × Int)} {v : Value} (h : KeepF wr g n c xs v) {k : Nat} (hk : k < xs.length) : wr.cell? ⟨g, k * 2, none⟩ = some (.int .i64 (dx xs k)) ∧ wr.cell? ⟨g, k * 2 + 1, none⟩ = some (.int .i64 (dy xs k)) := by
  obtain ⟨A, c', he, _, _, hrd⟩ := h.rd
  simp only [Value.slice.injEq] at he
  obtain ⟨rfl, _, _⟩ := he
  obtain ⟨ad, ea, _, hc⟩ := hrd k _ (duo_get xs k hk)
  simp only [Option.some.injEq] at ea
  subst ea
  have e9 : ∀ m, (⟨g, 0, none⟩ : Addr).add m = ⟨g, m, none⟩ := fun m => by unfold Addr.add; split <;> simp_all
  have h1 := hc 0 (.int .i64 (dx xs k)) rfl
  have h2 := hc 1 (.int .i64 (dy xs k)) rfl
  rw [e9] at h1 h2
  exact ⟨h1, h2⟩
theorem dxy_map {F f : Nat} {cs : Nat → Int × Int} (hf : f < F) : dx ((List.range F).map cs) f = (cs f).1 ∧ dy ((List.range F).map cs) f = (cs f).2 := by simp [dx, dy, hf]
theorem keepN {w w' : World} {n : Nat} {u v : Value} (hb : n < w.heap.size) (h1 : w.cell? ⟨n, 0, none⟩ = some u) (h2 : w.cell? ⟨n, 1, none⟩ = some v) (h : Below w.heap.size w w') : Below w.heap.size w w' ∧ w'.cell? ⟨n, 0, none⟩ = some u ∧ w'.cell? ⟨n, 1, none⟩ = some v :=
  ⟨h, (h.cell (p := ⟨n, 0, none⟩) hb).trans h1, (h.cell (p := ⟨n, 1, none⟩) hb).trans h2⟩

set_option maxRecDepth 100000 in
set_option maxHeartbeats 8000000 in
theorem Til_any (p q : Int) (u : Value) (ls : List Lk) (B : Nat) (w : World) (hu : RdF elLink w B u ls) (hB : B ≤ w.heap.size) :
    Calls Try.prog 36 #[.int .i64 p, .int .i64 q, u] w (RetTil w (treeB p q ls) (tilQ p q ls)) := by
  have HU := Lib.hid hu
  obtain ⟨A, c, rfl, g1, g2, _⟩ := hu
  unfold maxLen at g2
  have HIT := Lib.hid (IsTree_any p q _ ls B w HU.out hB)
  cases ht : treeB p q ls
  · have HQ : Hid (tilQ p q ls = []) := by unfold Hid tilQ; rw [ht]; simp
    rw [HQ.out]
    rw [ht] at HIT
    go_enter Try.func36, Try.ntmps36
    go_wp2_with fail
    refine HIT.out.mono ?_
    rintro e w1 ⟨rfl, hb1⟩
    have HB1 := Lib.hid hb1
    clear hb1
    go_wp2_with fail
    refine bodyPost_ret (v := .tuple #[.slice none 0 0, .bool false]) (by simp [results, Try.results36, go_sem]) rfl ⟨_, rfl, OwnF.nil, HB1.out⟩
  · rw [ht] at HIT
    have hg : gridB p q = true := by
      unfold treeB at ht; simp only [Bool.and_eq_true] at ht; exact ht.1
    have hb := (gridB_iff _ _).1 hg
    obtain ⟨gw, rfl⟩ := Int.eq_ofNat_of_zero_le (show 0 ≤ p by omega)
    obtain ⟨gh, rfl⟩ := Int.eq_ofNat_of_zero_le (show 0 ≤ q by omega)
    obtain ⟨hg, hok⟩ := tree_ok ht
    have hlin : ∀ l ∈ ls, lkIn gw (gw * gh) l = true := fun l hl => (tree_facts gw gh hg).1 l (hok.sb l hl)
    have HROOT := Lib.hid (fun (V : World) (hV : Below w.heap.size w V) => rooted_any gw gh (gw * gh) (.slice A ls.length c) ls B V (HU.out.below (hV.mono hB)) (Nat.le_trans hB hV.size) (by omega) (by omega) rfl hlin)
    have HOUT := Lib.hid (fun (V : World) (hV : Below w.heap.size w V) => outward_any gw gh (gw - 1) (gh - 1) (.slice A ls.length c) ls B V (HU.out.below (hV.mono hB)) (Nat.le_trans hB hV.size) (by omega) (by omega) (by omega) (by omega))
    have HPOST := Lib.hid (fun (zs : List Int) h1 h2 => post_ok (zs := zs) hg hok h1 h2)
    have HFIN := Lib.hid (fun (zs : List Int) h1 h2 kn cs h3 h4 => i_til (zs := zs) (kn := kn) (cs := cs) ht h1 h2 h3 h4)
    have HTQ : Hid (tilZ gw gh ls = tilQ gw gh ls) := by
      unfold Hid tilQ
      rw [ht, if_pos rfl, Int.toNat_natCast, Int.toNat_natCast]
    have hw1 : 1 ≤ gw ∧ gw ≤ 4 := by omega
    have hh1 : 1 ≤ gh ∧ gh ≤ 4 := by omega
    obtain ⟨n, hn⟩ : ∃ n, gw * gh = n := ⟨_, rfl⟩
    have hn16 : n ≤ 16 := by rw [← hn]; exact Nat.mul_le_mul hw1.2 hh1.2
    obtain ⟨F, hF⟩ : ∃ F, (gw - 1) * (gh - 1) = F := ⟨_, rfl⟩
    have hF9 : F ≤ 9 := by rw [← hF]; exact Nat.mul_le_mul (show gw - 1 ≤ 3 by omega) (show gh - 1 ≤ 3 by omega)
    rw [hn] at HROOT HPOST HFIN
    rw [hF] at HOUT HFIN
    have HN := Lib.hid hn
    have HFF := Lib.hid hF
    obtain ⟨hw1, hw4⟩ := hw1
    obtain ⟨hh1, hh4⟩ := hh1
    clear hok hg hlin ht hb hn hF
    go_enter Try.func36, Try.ntmps36
    go_wp2_with fail
    refine HIT.out.mono ?_
    rintro e w1 ⟨rfl, hb1⟩
    have HB1 := Lib.hid hb1
    clear hb1
    have HA1 : Hid (Acc elDomino w w.heap.size (w1.alloc (.cells #[] 46)) (.slice (some ⟨w1.heap.size, 0, none⟩) 0 0) []) := Acc.startAt HB1.out (Nat.le_refl _) HB1.out.size
    have hn1 : w1.heap.size < (w1.alloc (.cells #[] 46)).heap.size := by simp
    have HN1 := Lib.hid hn1
    clear hn1
    go_wp2_with fail
    generalize w1.alloc (.cells #[] 46) = W1 at *
    generalize w1.heap.size = n1 at *
    refine (HROOT.out W1 HA1.out.2.1).mono ?_
    rintro e w2 ⟨v2, zs, rfl, hr2, hz1, hz2, hz3, hb2, hz4, gz, mz, cz, rfl, hgz⟩
    have HA2 := Lib.hid (HA1.out.below hb2)
    have HP2 := Lib.hid (HPOST.out zs hz3 hz4)
    have HF2 := Lib.hid (HFIN.out zs hz3 hz4)
    have hnpos : 0 < n := by rw [← HN.out]; exact Nat.mul_pos (by omega) (by omega)
    obtain ⟨A2, c2, he2, q1, q2, hrd2⟩ := id hr2
    simp only [Value.slice.injEq] at he2
    obtain ⟨rfl, rfl, rfl⟩ := he2
    unfold maxLen at q2
    have HZL := Lib.hid hz1
    have HK2 : Hid (KeepI w2 gz zs.length cz zs (.slice (some ⟨n1, 0, none⟩) 0 0)) := by
      refine ⟨hr2, ?_, ?_⟩
      · obtain ⟨ad, ea, hb, _⟩ := hrd2 (by intro e; have := congrArg List.length e; simp at this; rw [this] at hz1; simp at hz1; omega)
        simp only [Option.some.injEq] at ea
        rw [← ea] at hb; exact hb
      · simp only [Value.ownBlock, ne_eq, Option.some.injEq]
        have := HN1.out; omega
    have HPZ : Hid (postTo gw zs 0 = []) := rfl
    have HPS : Hid (∀ k, postTo gw zs (k + 1) = if k = 0 then postTo gw zs k else postTo gw zs k ++ [postL gw (el zs k).toNat k]) := fun k => rfl
    have HPL := Lib.hid (postTo_len gw zs)
    rw [hz1] at q1 HK2
    clear hz1 hz2 hz3 hz4 hb2 HA1 HPOST HFIN HROOT HB1 hr2 hrd2 hgz hnpos
    go_wp2_with fail
    rw [HZL.out]
    go_loopw [8, 32] (fun o i wr => ∃ (k : Nat) (v : Value), v = o ∧ k ≤ n ∧ i = .int .i64 (k : Int) ∧ Hid (KeepI wr gz n cz zs v) ∧ Hid (Acc elDomino w w.heap.size wr v (postTo gw zs k))) (fun _ i _ => n - (intOf i).toNat)
    case atStart => exact ⟨0, _, rfl, Nat.zero_le _, rfl, HK2, by rw [HPZ.out]; exact HA2⟩
    case round =>
      obtain ⟨k, vv, rfl, hk, rfl, HB, HA⟩ := hrel
      by_cases hlt : k < n
      · have ht : decide ((k : Int) < (n : Int)) = true := by simp only [decide_eq_true_eq]; omega
        obtain ⟨A', c', he, _, _, hrd⟩ := HB.out.rd
        simp only [Value.slice.injEq] at he
        obtain ⟨rfl, hq9, rfl⟩ := he
        clear hq9
        obtain ⟨ad, ead, hbl, hcell⟩ := hrd.int (k := k) (by rw [HZL.out]; omega)
        rw [← el_get zs k (by rw [HZL.out]; omega)] at hcell
        simp only [Option.some.injEq] at ead
        subst ead
        have hcell' : wr.cell? ⟨gz, k, none⟩ = some (.int .i64 (el zs k)) := by
          have e9 : (⟨gz, 0, none⟩ : Addr).add k = ⟨gz, k, none⟩ := by unfold Addr.add; split <;> simp_all
          rw [← e9]; exact hcell
        have hk0 : (0 : Int) ≤ (k : Int) := by omega
        have hk1 : (k : Int) < (n : Int) := by omega
        have HPK := Lib.hid (HPS.out k)
        clear hcell hrd
        by_cases h0 : k = 0
        · have HE : Hid (postTo gw zs (k + 1) = postTo gw zs k) := by unfold Hid; rw [HPK.out, if_pos h0]
          have t0 : ((k : Int) == 0) = true := by rw [beq_iff_eq]; omega
          have H0 := Lib.hid h0
          clear h0
          go_wp2_with fail
          go_roundw
          case rel => exact ⟨k + 1, _, rfl, by omega, by go_num, HB, by rw [HE.out]; exact HA⟩
          case measure => simp [intOf]; omega
        · obtain ⟨j, hj1, hj2, hnx⟩ := HP2.out k (by omega) hlt
          have HE : Hid (postTo gw zs (k + 1) = postTo gw zs k ++ [postL gw j k]) := by unfold Hid; rw [HPK.out, if_neg h0, hj1, Int.toNat_natCast]
          rw [hj1] at hcell'
          have t0 : ((k : Int) == 0) = false := by rw [beq_eq_false_iff_ne]; omega
          have hq1 : (k : Int) / (gw : Int) = ((k / gw : Nat) : Int) := by rw [Int.natCast_ediv]
          have hr1 : (k : Int) % (gw : Int) = ((k % gw : Nat) : Int) := by rw [Int.natCast_emod]
          have hq2 : Int.tdiv (k : Int) (gw : Int) = ((k / gw : Nat) : Int) := by rw [Int.tdiv_eq_ediv_of_nonneg (by omega)]; exact hq1
          have hr2 : Int.tmod (k : Int) (gw : Int) = ((k % gw : Nat) : Int) := by rw [Int.tmod_eq_emod_of_nonneg (by omega)]; exact hr1
          have hq3 : (j : Int) / (gw : Int) = ((j / gw : Nat) : Int) := by rw [Int.natCast_ediv]
          have hr3 : (j : Int) % (gw : Int) = ((j % gw : Nat) : Int) := by rw [Int.natCast_emod]
          have hq4 : Int.tdiv (j : Int) (gw : Int) = ((j / gw : Nat) : Int) := by rw [Int.tdiv_eq_ediv_of_nonneg (by omega)]; exact hq3
          have hr4 : Int.tmod (j : Int) (gw : Int) = ((j % gw : Nat) : Int) := by rw [Int.tmod_eq_emod_of_nonneg (by omega)]; exact hr3
          have hgw0 : (0 : Int) < (gw : Int) := by omega
          have hz : ((gw : Int) == 0) = false := by rw [beq_eq_false_iff_ne]; omega
          obtain ⟨ox, oy, od, HOX⟩ : ∃ ox oy od, Hid (postL gw j k = (ox, oy, od)) := ⟨_, _, _, rfl⟩
          have HOX2 := Lib.hid HOX.out
          unfold postL at HOX2
          generalize k / gw = y1 at *
          generalize k % gw = x1 at *
          generalize j / gw = y2 at *
          generalize j % gw = x2 at *
          have hj0 : (0 : Int) ≤ (j : Int) := by omega
          have hj16 : (j : Int) < 16 := by omega
          have hnb := hnx
          obtain ⟨⟨e1, e2⟩, ⟨e3, e4⟩, ⟨e5, e6⟩, ⟨e7, e8⟩, _⟩ := hnx
          have HNX := Lib.hid hnb
          have hlen := HPL.out k
          have hl1 : (postTo gw zs k).length + 1 ≤ 1073741824 := by omega
          clear hnb hj1
          go_wp2_with fail
          go_quiet (fail)
          go_upto_region 9 with (fail)
          generalize hV : World.drewN wr _ = V
          have HA3 : Hid (Acc elDomino w w.heap.size V vv (postTo gw zs k)) := by unfold Hid; rw [← hV]; exact HA.out.below (Drawn.below ⟨_, rfl⟩ _)
          have HB3 : Hid (KeepI V gz n cz zs vv) := by unfold Hid; rw [← hV]; exact HB.out.below (Drawn.below ⟨_, rfl⟩ _)
          clear hV hcell' hq1 hq2 hq3 hq4 hr1 hr2 hr3 hr4 hz
          go_wp2_with fail
          refine (DominoOver_yes _ _ _ _ HNX.out _).mono ?_
          rintro e w4 ⟨rfl, hb4⟩
          rw [HOX2.out]
          have HA4 := Lib.hid (HA3.out.below hb4)
          have HB4 := Lib.hid (HB3.out.below hb4)
          clear hb4 HA3 HB3
          go_upto_region 10 with (fail)
          obtain ⟨V9, hV9, kV9, bV9⟩ := one_alloc w4 (triO ox oy od 46)
          rw [← hV9]
          obtain ⟨n9, hn9⟩ : ∃ n9, w4.heap.size = n9 := ⟨_, rfl⟩
          rw [hn9] at kV9 ⊢
          have HA5 := Lib.hid (HA4.out.below bV9)
          have HB5 := Lib.hid (HB4.out.below bV9)
          obtain ⟨f0, f1, f2⟩ := tri_cells kV9
          clear hV9 kV9 bV9 hn9
          go_wp2_with (at_builtin; refine wpList_push okDomino rfl _ _ rfl HA5.out rfl (ox, oy, od) _ rfl _ rfl rfl hl1 ?_; intro v6 w6 HA6 HG6)
          have HB6 := Lib.hid (HB5.out.grew HG6.out)
          go_roundw
          case rel => exact ⟨k + 1, _, rfl, by omega, by go_num, HB6, by rw [HE.out, HOX.out]; exact HA6⟩
          case measure => simp [intOf]; omega
      · obtain rfl : k = n := by omega
        have ht : decide ((k : Int) < (k : Int)) = false := by simp
        obtain ⟨XS, HXS⟩ : ∃ XS, Hid (postTo gw zs k = XS) := ⟨_, rfl⟩
        have hxl := HPL.out k
        rw [HXS.out] at HA hxl
        clear HB HPZ HPS HPL HP2
        go_wp2_with fail
        refine (HOUT.out wr HA.out.2.1).mono ?_
        rintro e w5 ⟨v5, kn, cs, rfl, hr5, hi5, hq5, hb5, gc, rfl, hgc⟩
        have HI5 := Lib.hid (HF2.out kn cs hi5 hq5)
        have HA5 := Lib.hid (HA.out.below hb5)
        have HK5 : Hid (KeepF w5 gc F F ((List.range F).map cs) vv) := by
          refine ⟨hr5, fun hx => ?_, fun hx e => ?_⟩
          · obtain ⟨A', c', he, _, _, hrd⟩ := hr5
            simp only [Value.slice.injEq] at he
            obtain ⟨rfl, _, _⟩ := he
            have hpos : 0 < ((List.range F).map cs).length := List.length_pos_iff.2 hx
            obtain ⟨ad, ea, hb, _⟩ := hrd 0 _ (List.getElem?_eq_getElem hpos)
            simp only [Option.some.injEq] at ea
            rw [← ea] at hb; exact hb
          · have := (HA.out.1.lt _ e).2; omega
        have HFZ : Hid (faceTo gw cs 0 = []) := rfl
        have HFS : Hid (∀ k, faceTo gw cs (k + 1) = faceTo gw cs k ++ [overL (cellF gw k).1 (cellF gw k).2 (cs k).1 (cs k).2]) := fun k => rfl
        have HFL := Lib.hid (faceTo_len gw cs)
        clear hr5 hi5 hq5 hb5 hgc HF2 HA HOUT
        go_wp2_with fail
        go_loopw [8, 77] (fun o i wr => ∃ (f : Nat) (v : Value), v = o ∧ f ≤ F ∧ i = .int .i64 (f : Int) ∧ Hid (KeepF wr gc F F ((List.range F).map cs) v) ∧ Hid (Acc elDomino w w.heap.size wr v (XS ++ faceTo gw cs f))) (fun _ i _ => F - (intOf i).toNat)
        case atStart => exact ⟨0, _, rfl, Nat.zero_le _, rfl, HK5, by rw [HFZ.out, List.append_nil]; exact HA5⟩
        case round =>
          obtain ⟨f, v6, rfl, hf, rfl, HK6, HA6⟩ := hrel
          clear HK5 HA5
          by_cases hlf : f < F
          · have htf : decide ((f : Int) < (F : Int)) = true := by simp only [decide_eq_true_eq]; omega
            obtain ⟨m1, m2⟩ := HK6.out.cell (k := f) (by simpa using hlf)
            rw [(dxy_map hlf).1] at m1
            rw [(dxy_map hlf).2] at m2
            have HNF := Lib.hid (HI5.out.fc f (by rw [HFF.out]; exact hlf))
            have HFK := Lib.hid (HFS.out f)
            have HCF : Hid (cellF gw f = (2 * ((f % (gw - 1) : Nat) : Int) + 1, 2 * ((f / (gw - 1) : Nat) : Int) + 1)) := rfl
            rw [HCF.out] at HNF HFK
            have ha0 : 0 < gw - 1 := Nat.pos_of_ne_zero fun e => by have := HFF.out; rw [e] at this; simp at this; omega
            obtain ⟨a, ha⟩ : ∃ a, gw - 1 = a := ⟨_, rfl⟩
            have hga : (gw : Int) - 1 = (a : Int) := by omega
            rw [ha] at HNF HFK ha0
            have hgaw : IntKind.i64.wrap ((gw : Int) - 1) = (a : Int) := by rw [hga]; exact IntWalk.i64_in _ (by omega)
            have hgaw2 : IntKind.i64.wrap (a : Int) = (a : Int) := IntWalk.i64_in _ (by omega)
            have hza2 : ¬ a = 0 := by omega
            have hq1 : (f : Int) / (a : Int) = ((f / a : Nat) : Int) := by rw [Int.natCast_ediv]
            have hr1 : (f : Int) % (a : Int) = ((f % a : Nat) : Int) := by rw [Int.natCast_emod]
            have hq2 : Int.tdiv (f : Int) (a : Int) = ((f / a : Nat) : Int) := by rw [Int.tdiv_eq_ediv_of_nonneg (by omega)]; exact hq1
            have hr2 : Int.tmod (f : Int) (a : Int) = ((f % a : Nat) : Int) := by rw [Int.tmod_eq_emod_of_nonneg (by omega)]; exact hr1
            have hza : ((a : Int) == 0) = false := by rw [beq_eq_false_iff_ne]; omega
            have ha1 : (0 : Int) < (a : Int) := by omega
            generalize f / a = y1 at *
            generalize f % a = x1 at *
            generalize (cs f).1 = X at *
            generalize (cs f).2 = Y at *
            obtain ⟨ox, oy, od, HOX⟩ : ∃ ox oy od, Hid (overL (2 * (x1 : Int) + 1) (2 * (y1 : Int) + 1) X Y = (ox, oy, od)) := ⟨_, _, _, rfl⟩
            have HE : Hid (XS ++ faceTo gw cs (f + 1) = (XS ++ faceTo gw cs f) ++ [(ox, oy, od)]) := by
              unfold Hid
              rw [HFK.out, List.append_assoc]
              show XS ++ (faceTo gw cs f ++ [overL (2 * (x1 : Int) + 1) (2 * (y1 : Int) + 1) X Y]) = _
              rw [HOX.out]
            have HNF2 : Hid (nextB (2 * (x1 : Int) + 1) (2 * (y1 : Int) + 1) X Y) := HNF.out
            have hnf : nextB (2 * (x1 : Int) + 1) (2 * (y1 : Int) + 1) X Y := HNF.out
            obtain ⟨⟨e1, e2⟩, ⟨e3, e4⟩, ⟨e5, e6⟩, ⟨e7, e8⟩, _⟩ := hnf
            have w1 : IntKind.i64.wrap (2 * (x1 : Int)) = 2 * (x1 : Int) := IntWalk.i64_in _ (by omega)
            have w2' : IntKind.i64.wrap (2 * (x1 : Int) + 1) = 2 * (x1 : Int) + 1 := IntWalk.i64_in _ (by omega)
            have w3 : IntKind.i64.wrap (2 * (y1 : Int)) = 2 * (y1 : Int) := IntWalk.i64_in _ (by omega)
            have w4' : IntKind.i64.wrap (2 * (y1 : Int) + 1) = 2 * (y1 : Int) + 1 := IntWalk.i64_in _ (by omega)
            have wy : IntKind.i64.wrap (y1 : Int) = (y1 : Int) := IntWalk.i64_in _ (by omega)
            have hf0 : (0 : Int) ≤ (f : Int) := by omega
            have hf1 : (f : Int) < (F : Int) := by omega
            have hfl := HFL.out f
            have hl1 : (XS ++ faceTo gw cs f).length + 1 ≤ 1073741824 := by rw [List.length_append]; omega
            clear HNF HFK HCF ha
            go_upto_region 15 with (fail)
            obtain ⟨V, hV, kV, bV⟩ := one_alloc wr (.cells #[.int .i64 X, .int .i64 Y] 44)
            rw [← hV]
            obtain ⟨n18, hn18⟩ : ∃ n18, wr.heap.size = n18 := ⟨_, rfl⟩
            have HK7 := Lib.hid (HK6.out.below bV)
            have HA7 := Lib.hid (HA6.out.below bV)
            rw [hn18] at kV ⊢
            have z0 : V.cell? ⟨n18, 0, none⟩ = some (.int .i64 X) := by rw [blk_cell kV]; rfl
            have z1 : V.cell? ⟨n18, 1, none⟩ = some (.int .i64 Y) := by rw [blk_cell kV]; rfl
            have HL18 := Lib.hid (lt_of_block kV)
            obtain ⟨n19, hn19⟩ : ∃ n19, V.heap.size = n19 := ⟨_, rfl⟩
            have HN19 := Lib.hid hn19
            clear hV kV bV hn18 m1 m2 hn19
            go_cut [19] (fun s wx => ∃ nn, s = .pointer (some ⟨nn, 0, none⟩) ∧ Hid (KeepF wx gc F F ((List.range F).map cs) v6) ∧ Hid (Acc elDomino w w.heap.size wx v6 (XS ++ faceTo gw cs f)) ∧ Hid (wx.heap[nn]? = some (triO ox oy od 46)))
            case first =>
              go_wp2_with fail
              refine wp_region_held_drew (S := fun w' => Below V.heap.size V w' ∧ w'.cell? ⟨n18, 0, none⟩ = some (.int .i64 X) ∧ w'.cell? ⟨n18, 1, none⟩ = some (.int .i64 Y)) (by kernel_rfl) (by exact ⟨(Below.refl _ _).drew, z0, z1⟩) (fun hHeld => ?_)
              refine wpAnyH_take (i := 0) (oi := ⟨_, _, _, _, _, _⟩) (v := ?vap22141q1n0) rfl (by kernel_rfl) (by kernel_rfl) (by kernel_rfl) (fun _ _ _ h => h) (Or.inl ⟨by rfl, ?hap22141q1n0⟩) (by assumption) ?_
              case hap22141q1n0 => (intro w hSw; (try dsimp only at hSw); go_simp; try with_reducible rfl)
              try simp only [Act.put, List.setIfInBounds_toArray, List.set_cons_zero, List.set_cons_succ]
              refine wpAnyH_take (i := 1) (oi := ⟨_, _, _, _, _, _⟩) (v := ?vap22141q2n1) rfl (by kernel_rfl) (by kernel_rfl) (by kernel_rfl) (fun _ _ _ h => h) (Or.inl ⟨by rfl, ?hap22141q2n1⟩) (by assumption) ?_
              case hap22141q2n1 => (intro w hSw; (try dsimp only at hSw); go_simp; try with_reducible rfl)
              try simp only [Act.put, List.setIfInBounds_toArray, List.set_cons_zero, List.set_cons_succ]
              refine wpAnyH_take (i := 2) (oi := ⟨_, _, _, _, _, _⟩) (v := ?vap22141q3n2) rfl (by kernel_rfl) (by kernel_rfl) (by kernel_rfl) (fun _ _ _ h => h) (Or.inl ⟨by rfl, ?hap22141q3n2⟩) (by assumption) ?_
              case hap22141q3n2 => (intro w hSw; (try dsimp only at hSw); go_simp; try with_reducible rfl)
              try simp only [Act.put, List.setIfInBounds_toArray, List.set_cons_zero, List.set_cons_succ]
              refine wpAnyH_take (i := 3) (oi := ⟨_, _, _, _, _, _⟩) (v := ?vap22141q4n3) rfl (by kernel_rfl) (by kernel_rfl) (by kernel_rfl) (fun _ _ _ h => h) (Or.inl ⟨by rfl, ?hap22141q4n3⟩) (by assumption) ?_
              case hap22141q4n3 => (intro w hSw; (try dsimp only at hSw); go_simp; try with_reducible rfl)
              try simp only [Act.put, List.setIfInBounds_toArray, List.set_cons_zero, List.set_cons_succ]
              refine wpAnyH_take (i := 4) (oi := ⟨_, _, _, _, _, _⟩) (v := ?vap22141q5n4) rfl (by kernel_rfl) (by kernel_rfl) (by kernel_rfl) (fun _ _ _ h => h) (Or.inl ⟨by rfl, ?hap22141q5n4⟩) (by assumption) ?_
              case hap22141q5n4 => (intro w hSw; (try dsimp only at hSw); go_simp; try with_reducible rfl)
              try simp only [Act.put, List.setIfInBounds_toArray, List.set_cons_zero, List.set_cons_succ]
              refine wpAnyH_take (i := 5) (oi := ⟨_, _, _, _, _, _⟩) (v := ?vap22141q6n5) rfl (by kernel_rfl) (by kernel_rfl) (by kernel_rfl) (fun _ _ _ h => h) (Or.inl ⟨by rfl, ?hap22141q6n5⟩) (by assumption) ?_
              case hap22141q6n5 => (intro w hSw; (try dsimp only at hSw); go_simp; try with_reducible rfl)
              try simp only [Act.put, List.setIfInBounds_toArray, List.set_cons_zero, List.set_cons_succ]
              refine wpAnyH_take (i := 6) (oi := ⟨_, _, _, _, _, _⟩) (v := ?vap22141q7n6) rfl (by kernel_rfl) (by kernel_rfl) (by kernel_rfl) (fun _ _ _ h => h) (Or.inl ⟨by rfl, ?hap22141q7n6⟩) (by assumption) ?_
              case hap22141q7n6 => (intro w hSw; (try dsimp only at hSw); go_simp; try with_reducible rfl)
              try simp only [Act.put, List.setIfInBounds_toArray, List.set_cons_zero, List.set_cons_succ]
              refine wpAnyH_take (i := 7) (oi := ⟨_, _, _, _, _, _⟩) (v := ?vap22141q8n7) rfl (by kernel_rfl) (by kernel_rfl) (by kernel_rfl) (fun _ _ _ h => h) (Or.inl ⟨by rfl, ?hap22141q8n7⟩) (by assumption) ?_
              case hap22141q8n7 => (intro w hSw; (try dsimp only at hSw); go_simp; try with_reducible rfl)
              try simp only [Act.put, List.setIfInBounds_toArray, List.set_cons_zero, List.set_cons_succ]
              refine wpAnyH_take (i := 8) (oi := ⟨_, _, _, _, _, _⟩) (v := ?vap22141q9n8) rfl (by kernel_rfl) (by kernel_rfl) (by kernel_rfl) (fun _ _ _ h => h) (Or.inl ⟨by rfl, ?hap22141q9n8⟩) (by assumption) ?_
              case hap22141q9n8 => (intro w hSw; (try dsimp only at hSw); go_simp; try with_reducible rfl)
              try simp only [Act.put, List.setIfInBounds_toArray, List.set_cons_zero, List.set_cons_succ]
              refine wpAnyH_take (i := 9) (oi := ⟨_, _, _, _, _, _⟩) (v := ?vap22141q10n9) rfl (by kernel_rfl) (by kernel_rfl) (by kernel_rfl) (fun _ _ _ h => h) (Or.inl ⟨by rfl, ?hap22141q10n9⟩) (by assumption) ?_
              case hap22141q10n9 => (intro w hSw; (try dsimp only at hSw); go_simp; try with_reducible rfl)
              try simp only [Act.put, List.setIfInBounds_toArray, List.set_cons_zero, List.set_cons_succ]
              refine wpAnyH_take (i := 10) (oi := ⟨_, _, _, _, _, _⟩) (v := ?vap22141q11n10) rfl (by kernel_rfl) (by kernel_rfl) (by kernel_rfl) (fun _ _ _ h => h) (Or.inl ⟨by rfl, ?hap22141q11n10⟩) (by assumption) ?_
              case hap22141q11n10 => (intro w hSw; (try dsimp only at hSw); go_simp; try with_reducible rfl)
              try simp only [Act.put, List.setIfInBounds_toArray, List.set_cons_zero, List.set_cons_succ]
              refine wpAnyH_take (i := 11) (oi := ⟨_, _, _, _, _, _⟩) (v := ?vap22141q12n11) rfl (by kernel_rfl) (by kernel_rfl) (by kernel_rfl) (fun _ _ _ h => h) (Or.inl ⟨by rfl, ?hap22141q12n11⟩) (by assumption) ?_
              case hap22141q12n11 => (intro w hSw; (try dsimp only at hSw); go_simp; try with_reducible rfl)
              try simp only [Act.put, List.setIfInBounds_toArray, List.set_cons_zero, List.set_cons_succ]
              refine wpAnyH_take (i := 12) (oi := ⟨_, _, _, _, _, _⟩) (v := ?vap22141q13n12) rfl (by kernel_rfl) (by kernel_rfl) (by kernel_rfl) (fun _ _ _ h => h) (Or.inl ⟨by rfl, ?hap22141q13n12⟩) (by assumption) ?_
              case hap22141q13n12 => (intro w hSw; (try dsimp only at hSw); go_simp; try with_reducible rfl)
              try simp only [Act.put, List.setIfInBounds_toArray, List.set_cons_zero, List.set_cons_succ]
              refine wpAnyH_take (i := 13) (oi := ⟨_, _, _, _, _, _⟩) (v := ?vap22141q14n13) rfl (by kernel_rfl) (by kernel_rfl) (by kernel_rfl) (fun _ _ _ h => h) (Or.inl ⟨by rfl, ?hap22141q14n13⟩) (by assumption) ?_
              case hap22141q14n13 => (intro w hSw; (try dsimp only at hSw); go_simp; try with_reducible rfl)
              try simp only [Act.put, List.setIfInBounds_toArray, List.set_cons_zero, List.set_cons_succ]
              refine wpAnyH_ready (rs := [14, 18]) (by kernel_rfl) (by simp) ?_
              refine AllReadyH.cons (o := ⟨_, _, _, _, _, _⟩) rfl (fun K hK => ?cp22141q15n14) (AllReadyH.cons (o := ⟨_, _, _, _, _, _⟩) rfl (fun K hK => ?cp22141q15n18) AllReadyH.nil)
              case cp22141q15n14 =>
                clear hga hgaw hgaw2 hza hza2 hq1 hq2 hr1 hr2 w1 w2' w3 w4' wy htf ht
                go_simp
                go_at_call 101
                refine (DominoOver_yes _ _ _ _ HNF2.out _).mono ?_
                rintro e w4 ⟨rfl, hb4⟩
                rw [HOX.out]
                have hb4b := hHeld.1.trans (hb4.mono hHeld.1.size)
                try (obtain ⟨y0, y1', y2⟩ := tri_cells (show w4.heap[V.heap.size]? = some (triO 0 0 false 46) from blk_below (by exact heap_alloc_new V _) hb4); have yz : ∀ o, w4.frozen? ⟨V.heap.size, o, none⟩ = false := fun o => blk_free (show w4.heap[V.heap.size]? = some (triO 0 0 false 46) from blk_below (by exact heap_alloc_new V _) hb4))
                refine hK.out _ _ (by refine keepN HL18.out z0 z1 ?_; first | exact hHeld.1.alloc hHeld.1.size _ | exact (hHeld.1.alloc hHeld.1.size _).drew | exact hb4b | exact hb4b.alloc hb4b.size _ | exact (hb4b.alloc hb4b.size _).drew | exact ((hb4b.setCell (p := ⟨V.heap.size, _, none⟩) (Nat.le_refl _) _).setCell (p := ⟨V.heap.size, _, none⟩) (Nat.le_refl _) _).setCell (p := ⟨V.heap.size, _, none⟩) (Nat.le_refl _) _) (fun hHeld => ?_)
                clear hK K
                refine wpAnyH_take (i := 15) (oi := ⟨_, _, _, _, _, _⟩) (v := ?vap22141q16n15) rfl (by kernel_rfl) (by kernel_rfl) (by kernel_rfl) (fun _ _ _ h => h) (Or.inl ⟨by rfl, ?hap22141q16n15⟩) (by assumption) ?_
                case hap22141q16n15 => (intro w hSw; (try dsimp only at hSw); go_simp; try with_reducible rfl)
                try simp only [Act.put, List.setIfInBounds_toArray, List.set_cons_zero, List.set_cons_succ]
                refine wpAnyH_take (i := 16) (oi := ⟨_, _, _, _, _, _⟩) (v := ?vap22141q17n16) rfl (by kernel_rfl) (by kernel_rfl) (by kernel_rfl) (fun _ _ _ h => h) (Or.inl ⟨by rfl, ?hap22141q17n16⟩) (by assumption) ?_
                case hap22141q17n16 => (intro w hSw; (try dsimp only at hSw); go_simp; try with_reducible rfl)
                try simp only [Act.put, List.setIfInBounds_toArray, List.set_cons_zero, List.set_cons_succ]
                refine wpAnyH_take (i := 17) (oi := ⟨_, _, _, _, _, _⟩) (v := ?vap22141q18n17) rfl (by kernel_rfl) (by kernel_rfl) (by kernel_rfl) (fun _ _ _ h => h) (Or.inl ⟨by rfl, ?hap22141q18n17⟩) (by assumption) ?_
                case hap22141q18n17 => (intro w hSw; (try dsimp only at hSw); go_simp; try with_reducible rfl)
                try simp only [Act.put, List.setIfInBounds_toArray, List.set_cons_zero, List.set_cons_succ]
                refine wpAnyH_ready (rs := [18]) (by kernel_rfl) (by simp) ?_
                refine AllReadyH.cons (o := ⟨_, _, _, _, _, _⟩) rfl (fun K hK => ?_) AllReadyH.nil
                go_simp
                refine hK.out _ _ (by refine keepN HL18.out z0 z1 ?_; first | exact hHeld.1.alloc hHeld.1.size _ | exact (hHeld.1.alloc hHeld.1.size _).drew | exact hb4b | exact hb4b.alloc hb4b.size _ | exact (hb4b.alloc hb4b.size _).drew | exact ((hb4b.setCell (p := ⟨V.heap.size, _, none⟩) (Nat.le_refl _) _).setCell (p := ⟨V.heap.size, _, none⟩) (Nat.le_refl _) _).setCell (p := ⟨V.heap.size, _, none⟩) (Nat.le_refl _) _) (fun hHeld => ?_)
                clear hK K
                try simp only [Act.put, List.setIfInBounds_toArray, List.set_cons_zero, List.set_cons_succ]
                refine wpAnyH_ready (rs := [19]) (by kernel_rfl) (by simp) ?_
                refine AllReadyH.cons (o := ⟨_, _, _, _, _, _⟩) rfl (fun K hK => ?_) AllReadyH.nil
                go_simp
                refine hK.out _ _ (by refine keepN HL18.out z0 z1 ?_; first | exact hHeld.1.alloc hHeld.1.size _ | exact (hHeld.1.alloc hHeld.1.size _).drew | exact hb4b | exact hb4b.alloc hb4b.size _ | exact (hb4b.alloc hb4b.size _).drew | exact ((hb4b.setCell (p := ⟨V.heap.size, _, none⟩) (Nat.le_refl _) _).setCell (p := ⟨V.heap.size, _, none⟩) (Nat.le_refl _) _).setCell (p := ⟨V.heap.size, _, none⟩) (Nat.le_refl _) _) (fun hHeld => ?_)
                clear hK K
                try simp only [Act.put, List.setIfInBounds_toArray, List.set_cons_zero, List.set_cons_succ]
                refine wpAnyH_take (i := 20) (oi := ⟨_, _, _, _, _, _⟩) (v := ?vap22141q19n20) rfl (by kernel_rfl) (by kernel_rfl) (by kernel_rfl) (fun _ _ _ h => h) (Or.inl ⟨by rfl, ?hap22141q19n20⟩) (by assumption) ?_
                case hap22141q19n20 => (intro w hSw; (try dsimp only at hSw); go_simp; try with_reducible rfl)
                try simp only [Act.put, List.setIfInBounds_toArray, List.set_cons_zero, List.set_cons_succ]
                refine wpAnyH_done (by kernel_rfl) ?_ _
                go_wp2_with fail
                go_meet
                first
                  | exact ⟨_, rfl, HK7.out.below (hb4b.alloc hb4b.size _), HA7.out.below (hb4b.alloc hb4b.size _), heap_alloc_new w4 _⟩
                  | (have hk0 : w4.heap[V.heap.size]? = some (triO 0 0 false 46) := blk_below (by exact heap_alloc_new V _) hb4; have hb9 := ((hb4b.setCell (p := ⟨V.heap.size, 0, none⟩) (Nat.le_refl _) (.int .i64 ox)).setCell (p := ⟨V.heap.size, 1, none⟩) (Nat.le_refl _) (.int .i64 oy)).setCell (p := ⟨V.heap.size, 2, none⟩) (Nat.le_refl _) (.bool od); exact ⟨_, rfl, HK7.out.below hb9, HA7.out.below hb9, (blk_setCell (blk_setCell (blk_setCell hk0 _) _) _).trans rfl⟩)
              case cp22141q15n18 =>
                go_simp
                refine hK.out _ _ (by refine keepN HL18.out z0 z1 ?_; first | exact hHeld.1.alloc hHeld.1.size _ | exact (hHeld.1.alloc hHeld.1.size _).drew | exact hb4b | exact hb4b.alloc hb4b.size _ | exact (hb4b.alloc hb4b.size _).drew | exact ((hb4b.setCell (p := ⟨V.heap.size, _, none⟩) (Nat.le_refl _) _).setCell (p := ⟨V.heap.size, _, none⟩) (Nat.le_refl _) _).setCell (p := ⟨V.heap.size, _, none⟩) (Nat.le_refl _) _) (fun hHeld => ?_)
                clear hK K
                try simp only [Act.put, List.setIfInBounds_toArray, List.set_cons_zero, List.set_cons_succ]
                refine wpAnyH_ready (rs := [14]) (by kernel_rfl) (by simp) ?_
                refine AllReadyH.cons (o := ⟨_, _, _, _, _, _⟩) rfl (fun K hK => ?_) AllReadyH.nil
                clear hga hgaw hgaw2 hza hza2 hq1 hq2 hr1 hr2 w1 w2' w3 w4' wy htf ht
                go_simp
                go_at_call 101
                refine (DominoOver_yes _ _ _ _ HNF2.out _).mono ?_
                rintro e w4 ⟨rfl, hb4⟩
                rw [HOX.out]
                have hb4b := hHeld.1.trans (hb4.mono hHeld.1.size)
                try (obtain ⟨y0, y1', y2⟩ := tri_cells (show w4.heap[V.heap.size]? = some (triO 0 0 false 46) from blk_below (by exact heap_alloc_new V _) hb4); have yz : ∀ o, w4.frozen? ⟨V.heap.size, o, none⟩ = false := fun o => blk_free (show w4.heap[V.heap.size]? = some (triO 0 0 false 46) from blk_below (by exact heap_alloc_new V _) hb4))
                refine hK.out _ _ (by refine keepN HL18.out z0 z1 ?_; first | exact hHeld.1.alloc hHeld.1.size _ | exact (hHeld.1.alloc hHeld.1.size _).drew | exact hb4b | exact hb4b.alloc hb4b.size _ | exact (hb4b.alloc hb4b.size _).drew | exact ((hb4b.setCell (p := ⟨V.heap.size, _, none⟩) (Nat.le_refl _) _).setCell (p := ⟨V.heap.size, _, none⟩) (Nat.le_refl _) _).setCell (p := ⟨V.heap.size, _, none⟩) (Nat.le_refl _) _) (fun hHeld => ?_)
                clear hK K
                refine wpAnyH_take (i := 15) (oi := ⟨_, _, _, _, _, _⟩) (v := ?vap22141q20n15) rfl (by kernel_rfl) (by kernel_rfl) (by kernel_rfl) (fun _ _ _ h => h) (Or.inl ⟨by rfl, ?hap22141q20n15⟩) (by assumption) ?_
                case hap22141q20n15 => (intro w hSw; (try dsimp only at hSw); go_simp; try with_reducible rfl)
                try simp only [Act.put, List.setIfInBounds_toArray, List.set_cons_zero, List.set_cons_succ]
                refine wpAnyH_take (i := 16) (oi := ⟨_, _, _, _, _, _⟩) (v := ?vap22141q21n16) rfl (by kernel_rfl) (by kernel_rfl) (by kernel_rfl) (fun _ _ _ h => h) (Or.inl ⟨by rfl, ?hap22141q21n16⟩) (by assumption) ?_
                case hap22141q21n16 => (intro w hSw; (try dsimp only at hSw); go_simp; try with_reducible rfl)
                try simp only [Act.put, List.setIfInBounds_toArray, List.set_cons_zero, List.set_cons_succ]
                refine wpAnyH_take (i := 17) (oi := ⟨_, _, _, _, _, _⟩) (v := ?vap22141q22n17) rfl (by kernel_rfl) (by kernel_rfl) (by kernel_rfl) (fun _ _ _ h => h) (Or.inl ⟨by rfl, ?hap22141q22n17⟩) (by assumption) ?_
                case hap22141q22n17 => (intro w hSw; (try dsimp only at hSw); go_simp; try with_reducible rfl)
                try simp only [Act.put, List.setIfInBounds_toArray, List.set_cons_zero, List.set_cons_succ]
                refine wpAnyH_ready (rs := [19]) (by kernel_rfl) (by simp) ?_
                refine AllReadyH.cons (o := ⟨_, _, _, _, _, _⟩) rfl (fun K hK => ?_) AllReadyH.nil
                go_simp
                refine hK.out _ _ (by refine keepN HL18.out z0 z1 ?_; first | exact hHeld.1.alloc hHeld.1.size _ | exact (hHeld.1.alloc hHeld.1.size _).drew | exact hb4b | exact hb4b.alloc hb4b.size _ | exact (hb4b.alloc hb4b.size _).drew | exact ((hb4b.setCell (p := ⟨V.heap.size, _, none⟩) (Nat.le_refl _) _).setCell (p := ⟨V.heap.size, _, none⟩) (Nat.le_refl _) _).setCell (p := ⟨V.heap.size, _, none⟩) (Nat.le_refl _) _) (fun hHeld => ?_)
                clear hK K
                try simp only [Act.put, List.setIfInBounds_toArray, List.set_cons_zero, List.set_cons_succ]
                refine wpAnyH_take (i := 20) (oi := ⟨_, _, _, _, _, _⟩) (v := ?vap22141q23n20) rfl (by kernel_rfl) (by kernel_rfl) (by kernel_rfl) (fun _ _ _ h => h) (Or.inl ⟨by rfl, ?hap22141q23n20⟩) (by assumption) ?_
                case hap22141q23n20 => (intro w hSw; (try dsimp only at hSw); go_simp; try with_reducible rfl)
                try simp only [Act.put, List.setIfInBounds_toArray, List.set_cons_zero, List.set_cons_succ]
                refine wpAnyH_done (by kernel_rfl) ?_ _
                go_wp2_with fail
                go_meet
                first
                  | exact ⟨_, rfl, HK7.out.below (hb4b.alloc hb4b.size _), HA7.out.below (hb4b.alloc hb4b.size _), heap_alloc_new w4 _⟩
                  | (have hk0 : w4.heap[V.heap.size]? = some (triO 0 0 false 46) := blk_below (by exact heap_alloc_new V _) hb4; have hb9 := ((hb4b.setCell (p := ⟨V.heap.size, 0, none⟩) (Nat.le_refl _) (.int .i64 ox)).setCell (p := ⟨V.heap.size, 1, none⟩) (Nat.le_refl _) (.int .i64 oy)).setCell (p := ⟨V.heap.size, 2, none⟩) (Nat.le_refl _) (.bool od); exact ⟨_, rfl, HK7.out.below hb9, HA7.out.below hb9, (blk_setCell (blk_setCell (blk_setCell hk0 _) _) _).trans rfl⟩)
            case rest =>
              obtain ⟨nn, rfl, HK8, HA8, HT8⟩ := hcut
              clear HK7 HA7 z0 z1 w1 w2' w3 w4' hq1 hq2 hr1 hr2 hza hgaw hgaw2 hza2
              obtain ⟨f0, f1, f2⟩ := tri_cells HT8.out
              go_wp2_with (at_builtin; refine wpList_push okDomino rfl _ _ rfl HA8.out rfl (ox, oy, od) _ rfl _ rfl rfl hl1 ?_; intro v10 w10 HA10 HG10)
              have HK10 := Lib.hid (HK8.out.grew HG10.out)
              go_roundw
              case rel => exact ⟨f + 1, _, rfl, by omega, by go_num, HK10, by rw [HE.out]; exact HA10⟩
              case measure => simp [intOf]; omega
          · obtain rfl : f = F := by omega
            have htf : decide ((f : Int) < (f : Int)) = false := by simp
            have HRD := Lib.hid (HA6.out.1.rd okDomino)
            have HBB := Lib.hid HA6.out.2.1
            have HE : Hid (sortI (XS ++ faceTo gw cs f) (XS ++ faceTo gw cs f).length = tilQ gw gh ls) := by
              unfold Hid
              rw [← HTQ.out]
              have := HI5.out.fin
              rw [HN.out, HFF.out, HXS.out] at this
              exact this
            generalize XS ++ faceTo gw cs f = LL at *
            go_wp2_with fail
            refine (SortDominoes_any _ LL _ _ HRD.out (Nat.le_refl _)).mono ?_
            rintro e w9 ⟨u9, rfl, ho9, hb9⟩
            rw [HE.out] at ho9
            have HO9 := Lib.hid (ho9.mono HBB.out.size)
            have HB9 := Lib.hid (HBB.out.trans (hb9.mono HBB.out.size))
            clear ho9 hb9
            go_wp2_with fail
            refine bodyPost_ret (v := .tuple #[u9, .bool true]) (by simp [results, Try.results36, go_sem]) rfl ⟨_, rfl, HO9.out, HB9.out⟩
end Go.Proofs.Ytehnbalbpfmijaa

namespace Go.Proofs.Ytehnbalbpfmijaa
open Go.RowKit
set_option linter.unusedVariables false

def hasL (ls : List Lk) (l : Lk) : Bool := decide (0 ≤ fstZ (lkEq ls l.1 l.2.1 l.2.2) ls.length 0)
set_option maxRecDepth 100000 in
set_option maxHeartbeats 2000000 in
theorem hasDomino_any (v : Value) (ls : List Lk) (x y : Int) (d : Bool) (B : Nat) (w : World) (h : RdF elDomino w B v ls) (hB : B ≤ w.heap.size) :
    Calls Try.prog 74 #[v, triV x y d] w fun e w' => e = .returned (.bool (hasL ls (x, y, d))) ∧ Below w.heap.size w w' := by
  obtain ⟨A, c, rfl, g1, g2, G3⟩ := RdT.of (E := elDomino) rfl (fun _ => rfl) h
  unfold maxLen at g2
  clear h
  go_enter Try.func74, Try.ntmps74
  go_wp2_with fail
  obtain ⟨W, hW, k0, hb0⟩ := one_alloc w (.cells #[.int .i64 x, .int .i64 y, .bool d] 46)
  rw [← hW]
  have HK := Lib.hid k0
  have HB0 := Lib.hid hb0
  have hs0 : w.heap.size < W.heap.size := lt_of_block k0
  clear hW k0 hb0
  go_loopw [9] (fun s wr => ∃ k : Nat, k ≤ ls.length ∧ s = .int .i64 k ∧ Hid (Below W.heap.size W wr) ∧ Hid (fstZ (lkEq ls x y d) ls.length 0 = fstZ (lkEq ls x y d) (ls.length - k) k)) (fun s _ => ls.length - (intOf s).toNat)
  case atStart => exact ⟨0, Nat.zero_le _, rfl, Below.refl _ _, rfl⟩
  case round =>
    obtain ⟨k, hk, rfl, HB, HF⟩ := hrel
    by_cases hlt : k < ls.length
    · obtain ⟨ad, rfl, had, hx, hy, hz⟩ := G3.out k hlt
      have hbw := HB0.out.trans (HB.out.mono HB0.out.size)
      have hx' := (hbw.cell (p := ad.add (k * 3)) (by rw [addBlock]; omega)).trans hx
      have hy' := (hbw.cell (p := ⟨(ad.add (k * 3)).block, (ad.add (k * 3)).off + 1, none⟩) (by show (ad.add (k * 3)).block < _; rw [addBlock]; omega)).trans hy
      have hz' := (hbw.cell (p := ⟨(ad.add (k * 3)).block, (ad.add (k * 3)).off + 2, none⟩) (by show (ad.add (k * 3)).block < _; rw [addBlock]; omega)).trans hz
      have hblk := (HB.out.block w.heap.size hs0).trans HK.out
      have ht : decide ((k : Int) < (ls.length : Int)) = true := by simp only [decide_eq_true_eq]; omega
      have hk0 : (0 : Int) ≤ (k : Int) := by omega
      have hk1 : (k : Int) < (ls.length : Int) := by omega
      have hal := (Below.refl wr.heap.size wr).alloc (Nat.le_refl _) (.cells #[.int .i64 (lx ls k), .int .i64 (ly ls k), .bool (ld ls k)] 46)
      have hblk2 := (hal.block w.heap.size (lt_of_block hblk)).trans hblk
      have b0 : (wr.alloc (.cells #[.int .i64 (lx ls k), .int .i64 (ly ls k), .bool (ld ls k)] 46)).cell? ⟨w.heap.size, 0, none⟩ = some (.int .i64 x) := by rw [blk_cell hblk2]; rfl
      have b1 : (wr.alloc (.cells #[.int .i64 (lx ls k), .int .i64 (ly ls k), .bool (ld ls k)] 46)).cell? ⟨w.heap.size, 1, none⟩ = some (.int .i64 y) := by rw [blk_cell hblk2]; rfl
      have b2 : (wr.alloc (.cells #[.int .i64 (lx ls k), .int .i64 (ly ls k), .bool (ld ls k)] 46)).cell? ⟨w.heap.size, 2, none⟩ = some (.bool d) := by rw [blk_cell hblk2]; rfl
      have HBN := Lib.hid (HB.out.trans (hal.mono HB.out.size))
      have HQ := Lib.hid (hbw.trans (hal.mono hbw.size))
      clear hbw hx hy hz hblk hblk2 hal
      have HS : Hid (fstZ (lkEq ls x y d) (ls.length - k) k = if lkEq ls x y d k then (k : Int) else fstZ (lkEq ls x y d) (ls.length - (k + 1)) (k + 1)) := by
        unfold Hid; rw [show ls.length - k = (ls.length - (k + 1)) + 1 by omega, fstZ]
      have HE : Hid (lkEq ls x y d k = (lx ls k == x && (ly ls k == y && ld ls k == d))) := rfl
      generalize lkEq ls x y d k = r at *
      generalize lx ls k = p1 at *
      generalize ly ls k = p2 at *
      generalize ld ls k = p3 at *
      cases r
      · have HS2 : Hid (fstZ (lkEq ls x y d) ls.length 0 = fstZ (lkEq ls x y d) (ls.length - (k + 1)) (k + 1)) := HF.out.trans HS.out
        clear HS HF
        go_wp2_with fail
        all_goals subst_vars
        all_goals first
          | (exfalso; have h9 := HE.out; simp at h9; done)
          | (go_roundw
             case rel => exact ⟨k + 1, by omega, by go_num, HBN, HS2⟩
             case measure => simp [intOf]; omega)
      · have he := HE.out.symm
        simp only [Bool.and_eq_true, beq_iff_eq] at he
        obtain ⟨rfl, rfl, rfl⟩ := he
        have HS2 : Hid (true = hasL ls (p1, p2, p3)) := by
          unfold Hid hasL
          rw [show fstZ (lkEq ls p1 p2 p3) ls.length 0 = (k : Int) from HF.out.trans HS.out]
          simp
        clear HS HF
        go_wp2_with fail
        go_ret
        exact ⟨ret_bool HS2.out, HQ.out⟩
    · have HF2 : Hid (false = hasL ls (x, y, d)) := by
        unfold Hid hasL
        rw [HF.out, show ls.length - k = 0 by omega]
        rfl
      have ht : decide ((k : Int) < (ls.length : Int)) = false := by simp only [decide_eq_false_iff_not]; omega
      go_wp2_with fail
      go_ret
      exact ⟨ret_bool HF2.out, HB0.out.trans (HB.out.mono HB0.out.size)⟩

set_option maxRecDepth 100000 in
set_option maxHeartbeats 2000000 in
theorem l11Has_any (v : Value) (ls : List Lk) (x y : Int) (d : Bool) (B : Nat) (w : World) (h : RdF elDomino w B v ls) (hB : B ≤ w.heap.size) :
    Calls Try.prog 154 #[v, triV x y d] w fun e w' => e = .returned (.int .i64 (fstZ (lkEq ls x y d) ls.length 0)) ∧ Below w.heap.size w w' := by
  obtain ⟨A, c, rfl, g1, g2, G3⟩ := RdT.of (E := elDomino) rfl (fun _ => rfl) h
  unfold maxLen at g2
  clear h
  go_enter Try.func154, Try.ntmps154
  go_wp2_with fail
  obtain ⟨W, hW, k0, hb0⟩ := one_alloc w (.cells #[.int .i64 x, .int .i64 y, .bool d] 46)
  rw [← hW]
  have HK := Lib.hid k0
  have HB0 := Lib.hid hb0
  have hs0 : w.heap.size < W.heap.size := lt_of_block k0
  clear hW k0 hb0
  go_loopw [5] (fun s wr => ∃ k : Nat, k ≤ ls.length ∧ s = .int .i64 k ∧ Hid (Below W.heap.size W wr) ∧ Hid (fstZ (lkEq ls x y d) ls.length 0 = fstZ (lkEq ls x y d) (ls.length - k) k)) (fun s _ => ls.length - (intOf s).toNat)
  case atStart => exact ⟨0, Nat.zero_le _, rfl, Below.refl _ _, rfl⟩
  case round =>
    obtain ⟨k, hk, rfl, HB, HF⟩ := hrel
    by_cases hlt : k < ls.length
    · obtain ⟨ad, rfl, had, hx, hy, hz⟩ := G3.out k hlt
      have hbw := HB0.out.trans (HB.out.mono HB0.out.size)
      have hx' := (hbw.cell (p := ad.add (k * 3)) (by rw [addBlock]; omega)).trans hx
      have hy' := (hbw.cell (p := ⟨(ad.add (k * 3)).block, (ad.add (k * 3)).off + 1, none⟩) (by show (ad.add (k * 3)).block < _; rw [addBlock]; omega)).trans hy
      have hz' := (hbw.cell (p := ⟨(ad.add (k * 3)).block, (ad.add (k * 3)).off + 2, none⟩) (by show (ad.add (k * 3)).block < _; rw [addBlock]; omega)).trans hz
      have hblk := (HB.out.block w.heap.size hs0).trans HK.out
      have ht : decide ((k : Int) < (ls.length : Int)) = true := by simp only [decide_eq_true_eq]; omega
      have hk0 : (0 : Int) ≤ (k : Int) := by omega
      have hk1 : (k : Int) < (ls.length : Int) := by omega
      obtain ⟨b0, b1, b2⟩ := tri_cells (t := 46) hblk
      have HQ := Lib.hid hbw
      clear hbw hx hy hz hblk
      have HS : Hid (fstZ (lkEq ls x y d) (ls.length - k) k = if lkEq ls x y d k then (k : Int) else fstZ (lkEq ls x y d) (ls.length - (k + 1)) (k + 1)) := by
        unfold Hid; rw [show ls.length - k = (ls.length - (k + 1)) + 1 by omega, fstZ]
      have HE : Hid (lkEq ls x y d k = (lx ls k == x && (ly ls k == y && ld ls k == d))) := rfl
      generalize lkEq ls x y d k = r at *
      generalize lx ls k = p1 at *
      generalize ly ls k = p2 at *
      generalize ld ls k = p3 at *
      cases r
      · have HS2 : Hid (fstZ (lkEq ls x y d) ls.length 0 = fstZ (lkEq ls x y d) (ls.length - (k + 1)) (k + 1)) := HF.out.trans HS.out
        have hsq : ∀ W : World, Sem.run Try.prog (binOp .eql 46 (.agg #[.int .i64 p1, .int .i64 p2, .bool p3]) (.agg #[.int .i64 x, .int .i64 y, .bool d])) W = .ok (.bool false) W := fun W => by
          have h9 := HE.out
          by_cases h1 : p1 = x
          · by_cases h2 : p2 = y
            · have h3 : ¬ p3 = d := fun h => by rw [h1, h2, h] at h9; simp at h9
              go_simp
            · go_simp
          · go_simp
        clear HS HF HE
        go_wp2_with fail
        go_quiet (fail)
        have HB9 := Lib.hid (HB.out.trans (Drawn.below ⟨nq, rfl⟩ _))
        go_wp2_with fail
        go_roundw
        case rel => exact ⟨k + 1, by omega, by go_num, HB9, HS2⟩
        case measure => simp [intOf]; omega
      · have he := HE.out.symm
        simp only [Bool.and_eq_true, beq_iff_eq] at he
        obtain ⟨rfl, rfl, rfl⟩ := he
        have HS2 : Hid (fstZ (lkEq ls p1 p2 p3) ls.length 0 = (k : Int)) := HF.out.trans HS.out
        clear HS HF
        go_wp2_with fail
        go_quiet (fail)
        have HQ9 := Lib.hid (HQ.out.trans (Drawn.below ⟨nq, rfl⟩ _))
        go_wp2_with fail
        go_ret
        exact ⟨ret_int HS2.out.symm, HQ9.out⟩
    · have HF2 : Hid (fstZ (lkEq ls x y d) ls.length 0 = -1) := by unfold Hid; rw [HF.out, show ls.length - k = 0 by omega]; rfl
      have ht : decide ((k : Int) < (ls.length : Int)) = false := by simp only [decide_eq_false_iff_not]; omega
      go_wp2_with fail
      go_ret
      exact ⟨ret_int HF2.out.symm, HB0.out.trans (HB.out.mono HB0.out.size)⟩

end Go.Proofs.Ytehnbalbpfmijaa

namespace Go.Proofs.Ytehnbalbpfmijaa
open Go.RowKit
set_option linter.unusedVariables false

/-- The first k dominoes are the same. -/
def sameTo (xs ys : List Lk) (k : Nat) : Prop := ∀ i, i < k → dAt xs i = dAt ys i
theorem sameD_all {xs ys : List Lk} (hl : xs.length = ys.length) (h : sameTo xs ys xs.length) : decide (xs = ys) = true := by
  rw [decide_eq_true_eq]
  refine List.ext_getElem hl fun i h1 h2 => ?_
  have := h i h1
  rw [dAt_get xs i h1, dAt_get ys i h2] at this
  exact this
theorem sameD_not {xs ys : List Lk} {i : Nat} (h : dAt xs i ≠ dAt ys i) : decide (xs = ys) = false := by
  rw [decide_eq_false_iff_not]
  intro e; subst e; exact h rfl
theorem sameD_len {xs ys : List Lk} (h : xs.length ≠ ys.length) : decide (xs = ys) = false := by
  rw [decide_eq_false_iff_not]
  intro e; subst e; exact h rfl

set_option maxRecDepth 100000 in
set_option maxHeartbeats 4000000 in
theorem SameD_any (u v : Value) (xs ys : List Lk) (B : Nat) (w : World) (hu : RdF elDomino w B u xs) (hv : RdF elDomino w B v ys) (hB : B ≤ w.heap.size) :
    Calls Try.prog 95 #[u, v] w fun e w' => e = .returned (.bool (decide (xs = ys))) ∧ Drawn w w' := by
  obtain ⟨A, c, rfl, g1, g2, G3⟩ := RdT.of (E := elDomino) rfl (fun _ => rfl) hu
  obtain ⟨A2, c2, rfl, q1, q2, G4⟩ := RdT.of (E := elDomino) rfl (fun _ => rfl) hv
  unfold maxLen at g2 q2
  clear hu hv
  by_cases hl : xs.length = ys.length
  · have hne0 : ((xs.length : Int) != (ys.length : Int)) = false := by rw [hl]; simp
    go_enter Try.func95, Try.ntmps95
    go_wp2_with fail
    go_loopw [13] (fun s wr => ∃ k : Nat, k ≤ xs.length ∧ s = .int .i64 k ∧ Hid (Drawn w wr) ∧ Hid (sameTo xs ys k)) (fun s _ => xs.length - (intOf s).toNat)
    case atStart => exact ⟨0, Nat.zero_le _, rfl, Drawn.refl _, fun i hi => by omega⟩
    case round =>
      obtain ⟨k, hk, rfl, HD, HS⟩ := hrel
      by_cases hlt : k < xs.length
      · have ht : decide ((k : Int) < (xs.length : Int)) = true := by simp only [decide_eq_true_eq]; omega
        obtain ⟨ad, rfl, had, hx, hy, hz⟩ := G3.out k hlt
        obtain ⟨ad2, rfl, had2, hx2, hy2, hz2⟩ := G4.out k (by omega)
        have hb := HD.out.below w.heap.size
        have hx' := (hb.cell (p := ad.add (k * 3)) (by rw [addBlock]; omega)).trans hx
        have hy' := (hb.cell (p := ⟨(ad.add (k * 3)).block, (ad.add (k * 3)).off + 1, none⟩) (by show (ad.add (k * 3)).block < _; rw [addBlock]; omega)).trans hy
        have hz' := (hb.cell (p := ⟨(ad.add (k * 3)).block, (ad.add (k * 3)).off + 2, none⟩) (by show (ad.add (k * 3)).block < _; rw [addBlock]; omega)).trans hz
        have ux := (hb.cell (p := ad2.add (k * 3)) (by rw [addBlock]; omega)).trans hx2
        have uy := (hb.cell (p := ⟨(ad2.add (k * 3)).block, (ad2.add (k * 3)).off + 1, none⟩) (by show (ad2.add (k * 3)).block < _; rw [addBlock]; omega)).trans hy2
        have uz := (hb.cell (p := ⟨(ad2.add (k * 3)).block, (ad2.add (k * 3)).off + 2, none⟩) (by show (ad2.add (k * 3)).block < _; rw [addBlock]; omega)).trans hz2
        have hk0 : (0 : Int) ≤ (k : Int) := by omega
        have hk1 : (k : Int) < (xs.length : Int) := by omega
        have hk2 : (k : Int) < (ys.length : Int) := by omega
        have hk3 : k < ys.length := by omega
        have HEY : Hid (dAt xs k = (lx xs k, ly xs k, ld xs k)) := rfl
        have HEX : Hid (dAt ys k = (lx ys k, ly ys k, ld ys k)) := rfl
        clear hx hy hz hx2 hy2 hz2 hb
        generalize lx xs k = p1 at *
        generalize ly xs k = p2 at *
        generalize ld xs k = p3 at *
        generalize lx ys k = r1 at *
        generalize ly ys k = r2 at *
        generalize ld ys k = r3 at *
        by_cases e1 : p1 = r1
        · subst e1
          by_cases e2 : p2 = r2
          · subst e2
            by_cases e3 : p3 = r3
            · subst e3
              have HS2 : Hid (sameTo xs ys (k + 1)) := fun i hi => by
                by_cases e : i = k
                · subst e; rw [HEY.out, HEX.out]
                · exact HS.out i (by omega)
              go_wp2_with fail
              go_quiet (fail)
              go_wp2_with fail
              go_roundw
              case rel => exact ⟨k + 1, by omega, by go_num, HD.out.trans ⟨_, rfl⟩, HS2⟩
              case measure => simp [intOf]; omega
            · have f3 : (p3 == r3) = false := by rw [beq_eq_false_iff_ne]; exact e3
              have hno := sameD_not (i := k) (xs := xs) (ys := ys) (by rw [HEY.out, HEX.out]; simp [e3])
              go_wp2_with fail
              go_quiet (fail)
              go_wp2_with fail
              go_ret
              exact ⟨ret_bool hno.symm, HD.out.trans ⟨_, rfl⟩⟩
          · have f2 : (p2 == r2) = false := by rw [beq_eq_false_iff_ne]; exact e2
            have hno := sameD_not (i := k) (xs := xs) (ys := ys) (by rw [HEY.out, HEX.out]; simp [e2])
            go_wp2_with fail
            go_quiet (fail)
            go_wp2_with fail
            go_ret
            exact ⟨ret_bool hno.symm, HD.out.trans ⟨_, rfl⟩⟩
        · have f1 : (p1 == r1) = false := by rw [beq_eq_false_iff_ne]; exact e1
          have hno := sameD_not (i := k) (xs := xs) (ys := ys) (by rw [HEY.out, HEX.out]; simp [e1])
          go_wp2_with fail
          go_quiet (fail)
          go_wp2_with fail
          go_ret
          exact ⟨ret_bool hno.symm, HD.out.trans ⟨_, rfl⟩⟩
      · have ht : decide ((k : Int) < (xs.length : Int)) = false := by simp only [decide_eq_false_iff_not]; omega
        obtain rfl : k = xs.length := by omega
        have hyes := sameD_all hl HS.out
        go_wp2_with fail
        go_ret
        exact ⟨ret_bool hyes.symm, HD.out⟩
  · have hne0 : ((xs.length : Int) != (ys.length : Int)) = true := by simp; omega
    have hno := sameD_len hl
    go_enter Try.func95, Try.ntmps95
    go_wp2_with fail
    go_ret
    exact ⟨ret_bool hno.symm, Drawn.refl _⟩

set_option maxRecDepth 100000 in
set_option maxHeartbeats 4000000 in
theorem specSameD_any (u v : Value) (xs ys : List Lk) (B : Nat) (w : World) (hu : RdF elDomino w B u xs) (hv : RdF elDomino w B v ys) (hB : B ≤ w.heap.size) :
    Calls Try.prog 93 #[u, v] w fun e w' => e = .returned (.bool (decide (xs = ys))) ∧ Drawn w w' := by
  obtain ⟨A, c, rfl, g1, g2, G3⟩ := RdT.of (E := elDomino) rfl (fun _ => rfl) hu
  obtain ⟨A2, c2, rfl, q1, q2, G4⟩ := RdT.of (E := elDomino) rfl (fun _ => rfl) hv
  unfold maxLen at g2 q2
  clear hu hv
  by_cases hl : xs.length = ys.length
  · have hne0 : ((xs.length : Int) != (ys.length : Int)) = false := by rw [hl]; simp
    go_enter Try.func93, Try.ntmps93
    go_wp2_with fail
    go_loopw [5] (fun s wr => ∃ k : Nat, k ≤ xs.length ∧ s = .int .i64 k ∧ Hid (Drawn w wr) ∧ Hid (sameTo xs ys k)) (fun s _ => xs.length - (intOf s).toNat)
    case atStart => exact ⟨0, Nat.zero_le _, rfl, Drawn.refl _, fun i hi => by omega⟩
    case round =>
      obtain ⟨k, hk, rfl, HD, HS⟩ := hrel
      by_cases hlt : k < xs.length
      · have ht : decide ((k : Int) < (xs.length : Int)) = true := by simp only [decide_eq_true_eq]; omega
        obtain ⟨ad, rfl, had, hx, hy, hz⟩ := G3.out k hlt
        obtain ⟨ad2, rfl, had2, hx2, hy2, hz2⟩ := G4.out k (by omega)
        have hb := HD.out.below w.heap.size
        have hx' := (hb.cell (p := ad.add (k * 3)) (by rw [addBlock]; omega)).trans hx
        have hy' := (hb.cell (p := ⟨(ad.add (k * 3)).block, (ad.add (k * 3)).off + 1, none⟩) (by show (ad.add (k * 3)).block < _; rw [addBlock]; omega)).trans hy
        have hz' := (hb.cell (p := ⟨(ad.add (k * 3)).block, (ad.add (k * 3)).off + 2, none⟩) (by show (ad.add (k * 3)).block < _; rw [addBlock]; omega)).trans hz
        have ux := (hb.cell (p := ad2.add (k * 3)) (by rw [addBlock]; omega)).trans hx2
        have uy := (hb.cell (p := ⟨(ad2.add (k * 3)).block, (ad2.add (k * 3)).off + 1, none⟩) (by show (ad2.add (k * 3)).block < _; rw [addBlock]; omega)).trans hy2
        have uz := (hb.cell (p := ⟨(ad2.add (k * 3)).block, (ad2.add (k * 3)).off + 2, none⟩) (by show (ad2.add (k * 3)).block < _; rw [addBlock]; omega)).trans hz2
        have hk0 : (0 : Int) ≤ (k : Int) := by omega
        have hk1 : (k : Int) < (xs.length : Int) := by omega
        have hk2 : (k : Int) < (ys.length : Int) := by omega
        have hk3 : k < ys.length := by omega
        have HEY : Hid (dAt xs k = (lx xs k, ly xs k, ld xs k)) := rfl
        have HEX : Hid (dAt ys k = (lx ys k, ly ys k, ld ys k)) := rfl
        clear hx hy hz hx2 hy2 hz2 hb
        generalize lx xs k = p1 at *
        generalize ly xs k = p2 at *
        generalize ld xs k = p3 at *
        generalize lx ys k = r1 at *
        generalize ly ys k = r2 at *
        generalize ld ys k = r3 at *
        by_cases e1 : p1 = r1
        · subst e1
          by_cases e2 : p2 = r2
          · subst e2
            by_cases e3 : p3 = r3
            · subst e3
              have HS2 : Hid (sameTo xs ys (k + 1)) := fun i hi => by
                by_cases e : i = k
                · subst e; rw [HEY.out, HEX.out]
                · exact HS.out i (by omega)
              go_wp2_with fail
              go_quiet (fail)
              go_wp2_with fail
              go_roundw
              case rel => exact ⟨k + 1, by omega, by go_num, HD.out.trans ⟨_, rfl⟩, HS2⟩
              case measure => simp [intOf]; omega
            · have f3 : (p3 == r3) = false := by rw [beq_eq_false_iff_ne]; exact e3
              have hno := sameD_not (i := k) (xs := xs) (ys := ys) (by rw [HEY.out, HEX.out]; simp [e3])
              go_wp2_with fail
              go_quiet (fail)
              go_wp2_with fail
              go_ret
              exact ⟨ret_bool hno.symm, HD.out.trans ⟨_, rfl⟩⟩
          · have f2 : (p2 == r2) = false := by rw [beq_eq_false_iff_ne]; exact e2
            have hno := sameD_not (i := k) (xs := xs) (ys := ys) (by rw [HEY.out, HEX.out]; simp [e2])
            go_wp2_with fail
            go_quiet (fail)
            go_wp2_with fail
            go_ret
            exact ⟨ret_bool hno.symm, HD.out.trans ⟨_, rfl⟩⟩
        · have f1 : (p1 == r1) = false := by rw [beq_eq_false_iff_ne]; exact e1
          have hno := sameD_not (i := k) (xs := xs) (ys := ys) (by rw [HEY.out, HEX.out]; simp [e1])
          go_wp2_with fail
          go_quiet (fail)
          go_wp2_with fail
          go_ret
          exact ⟨ret_bool hno.symm, HD.out.trans ⟨_, rfl⟩⟩
      · have ht : decide ((k : Int) < (xs.length : Int)) = false := by simp only [decide_eq_false_iff_not]; omega
        obtain rfl : k = xs.length := by omega
        have hyes := sameD_all hl HS.out
        go_wp2_with fail
        go_ret
        exact ⟨ret_bool hyes.symm, HD.out⟩
  · have hne0 : ((xs.length : Int) != (ys.length : Int)) = true := by simp; omega
    have hno := sameD_len hl
    go_enter Try.func93, Try.ntmps93
    go_wp2_with fail
    go_ret
    exact ⟨ret_bool hno.symm, Drawn.refl _⟩
end Go.Proofs.Ytehnbalbpfmijaa
