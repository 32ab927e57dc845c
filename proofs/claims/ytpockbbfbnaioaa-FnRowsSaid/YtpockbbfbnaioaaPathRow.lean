/- PathRow: plain facts, and the contracts of the program's and of the reference's. -/
import Derived.Test.YtpockbbfbnaioaaRowPathS
import Derived.Test.YtpockbbfbnaioaaSame
namespace Go.Proofs.Ytpockbbfbnaioaa
open Go.RowKit

/-- The row and the height behind k steps. -/
def prow (c : Int) (st : List Int) : Nat → List Int × Int
  | 0 => ([], c)
  | k + 1 => if el st k == 0 then ((prow c st k).1, wrap64 ((prow c st k).2 - 1)) else ((prow c st k).1 ++ [(prow c st k).2], (prow c st k).2)
def prB (b c : Int) (st : List Int) : Bool := rowB b c (prow c st st.length).1 && (pathL c (prow c st st.length).1 == st)
theorem prow_step0 (c : Int) (st : List Int) (k : Nat) (h : (el st k == 0) = true) : prow c st (k + 1) = ((prow c st k).1, wrap64 ((prow c st k).2 - 1)) := by
  rw [prow, if_pos h]
theorem prow_step1 (c : Int) (st : List Int) (k : Nat) (h : (el st k == 0) = false) : prow c st (k + 1) = ((prow c st k).1 ++ [(prow c st k).2], (prow c st k).2) := by
  rw [prow, if_neg (by rw [h]; decide)]
theorem prow_mono (c : Int) (st : List Int) (k : Nat) : ∀ n, k ≤ n → (prow c st k).1.length ≤ (prow c st n).1.length := by
  intro n
  induction n with
  | zero => intro h; obtain rfl : k = 0 := by omega
            exact Nat.le_refl _
  | succ n ih =>
    intro h
    by_cases e : k = n + 1
    · subst e; exact Nat.le_refl _
    · have := ih (by omega)
      cases hz : el st n == 0
      · rw [prow_step1 c st n hz]; simp; omega
      · rw [prow_step0 c st n hz]; exact this
theorem prB_long (b c : Int) (st : List Int) (k : Nat) (hk : k ≤ st.length) (h : 3 < (prow c st k).1.length) : prB b c st = false := by
  cases hb : prB b c st with
  | false => rfl
  | true =>
    simp only [prB, Bool.and_eq_true] at hb
    obtain ⟨_, hbb, _, hl⟩ := (rowB_iff _ _ _).1 hb.1
    have := prow_mono c st k st.length hk
    omega
theorem outTo_bits (c : Int) (zs : List Int) : ∀ k, ∀ x ∈ outTo c zs k, x = 0 ∨ x = 1
  | 0, x, h => by simp [outTo] at h
  | k + 1, x, h => by
    rw [outTo, List.mem_append, List.mem_append] at h
    rcases h with (h | h) | h
    · exact outTo_bits c zs k x h
    · exact .inl (List.eq_of_mem_replicate h)
    · exact .inr (by simpa using h)
theorem pathL_bits (c : Int) (zs : List Int) : ∀ x ∈ pathL c zs, x = 0 ∨ x = 1 := by
  intro x h
  rw [pathL, List.mem_append] at h
  rcases h with h | h
  · exact outTo_bits c zs _ x h
  · exact .inl (List.eq_of_mem_replicate h)
theorem outTo_len (b c : Int) (zs : List Int) (h : rowB b c zs = true) : ∀ k, k ≤ zs.length → ((outTo c zs k).length : Int) + hgt c zs k = c + k
  | 0, _ => by simp [outTo, hgt]
  | k + 1, hk => by
    have ih := outTo_len b c zs h k (by omega)
    obtain ⟨e1, e2⟩ := el_bd b c zs h k (by omega)
    rw [outTo, hgt_succ, List.length_append, List.length_append, List.length_replicate, List.length_singleton]
    omega
theorem pathL_len (b c : Int) (zs : List Int) (h : rowB b c zs = true) : ((pathL c zs).length : Int) = c + b := by
  have h1 := outTo_len b c zs h zs.length (Nat.le_refl _)
  obtain ⟨h2, h3⟩ := hgt_bd b c zs h zs.length (Nat.le_refl _)
  obtain ⟨_, hb, hc, hl⟩ := (rowB_iff _ _ _).1 h
  rw [pathL, List.length_append, List.length_replicate]
  omega
theorem prB_facts (b c : Int) (st : List Int) (h : prB b c st = true) : st.length ≤ 6 ∧ ∀ k, k < st.length → el st k = 0 ∨ el st k = 1 := by
  simp only [prB, Bool.and_eq_true, beq_iff_eq] at h
  obtain ⟨h1, h2⟩ := h
  have hl := pathL_len b c _ h1
  obtain ⟨_, hb, hc, _⟩ := (rowB_iff _ _ _).1 h1
  rw [h2] at hl
  refine ⟨by omega, fun k hk => ?_⟩
  have := pathL_bits c (prow c st st.length).1 (el st k) (by rw [h2, el_get st k hk]; exact List.getElem_mem hk)
  exact this
theorem prB_bad (b c : Int) (st : List Int) (k : Nat) (hk : k < st.length) (h0 : (el st k == 0) = false) (h1 : (el st k == 1) = false) : prB b c st = false := by
  cases hb : prB b c st with
  | false => rfl
  | true =>
    rcases (prB_facts b c st hb).2 k hk with e | e
    · rw [e] at h0; simp at h0
    · rw [e] at h1; simp at h1
theorem prB_big (b c : Int) (st : List Int) (h : 6 < st.length) : prB b c st = false := by
  cases hb : prB b c st with
  | false => rfl
  | true => have := (prB_facts b c st hb).1; omega

/-- A row and a bool come back; without the bool the row is empty. -/
def RetOwnB (w : World) (zs : List Int) (ok : Bool) (e : Ending) (w' : World) : Prop :=
  ∃ v, e = .returned (.tuple #[v, .bool ok]) ∧ OwnI w' w.heap.size v (if ok then zs else []) ∧ Below w.heap.size w w'
theorem retOwnB_no {w w' : World} {zs : List Int} {v : Value} {ok : Bool} (hok : ok = false) (h : OwnI w' w.heap.size v []) (hb : Below w.heap.size w w') : RetOwnB w zs ok (.returned (.tuple #[v, .bool false])) w' := by
  subst hok; exact ⟨v, rfl, h, hb⟩
theorem retOwnB_yes {w w' : World} {zs : List Int} {v : Value} {ok : Bool} (hok : ok = true) (h : OwnI w' w.heap.size v zs) (hb : Below w.heap.size w w') : RetOwnB w zs ok (.returned (.tuple #[v, .bool true])) w' := by
  subst hok; exact ⟨v, rfl, h, hb⟩

set_option maxRecDepth 100000 in
set_option maxHeartbeats 4000000 in
theorem PathRow_any (b c : Int) (u : Value) (st : List Int) (B : Nat) (w : World) (h : RdI w B u st) (hB : B ≤ w.heap.size) (hl : st.length ≤ 1048576) :
    Calls Try.prog 57 #[.int .i64 b, .int .i64 c, u] w (RetOwnB w (prow c st st.length).1 (prB b c st)) := by
  obtain ⟨i0, hi0, hz0, hz1, hz2⟩ := info_parts infoInt
  have HU := Lib.hid h
  obtain ⟨A, cp, rfl, h1, h2, h3⟩ := h
  unfold maxLen at h2
  have H3 := Lib.hid h3
  clear h3
  generalize hok : prB b c st = ok
  have HOK := Lib.hid hok
  clear hok
  go_enter Try.func57, Try.ntmps57
  go_wp2_with fail
  have HG0 := Lib.hid (GrowRel.start w)
  go_loopw [8, 9, 16] (fun o h s wr => ∃ (k : Nat) (v : Value) (zo : List Int) (h' : Int), k ≤ st.length ∧ s = .int .i64 k ∧ o = v ∧ h = .int .i64 h' ∧ Hid (GrowRel w wr v zo) ∧ Hid ((zo, h') = prow c st k) ∧ zo.length ≤ 4) (fun _ _ s _ => st.length - (intOf s).toNat)
  case atStart => exact ⟨0, _, [], c, by omega, rfl, rfl, rfl, HG0, rfl, by simp⟩
  case round =>
    obtain ⟨k, v, zo, h', hk, rfl, rfl, rfl, HT, HI, hz4⟩ := hrel
    by_cases hlt : k < st.length
    · obtain ⟨ad, rfl, hbl, hck⟩ := H3.out.el (k := k) hlt
      have hckw := (HT.out.2.cell (p := ad.add k) (by rw [addBlock]; omega)).trans hck
      have hk0 : (0 : Int) ≤ (k : Int) := by omega
      have hk1 : (k : Int) < (st.length : Int) := by omega
      clear hck
      cases hz : el st k == 0
      · have HE := Lib.hid (prow_step1 c st k hz)
        obtain ⟨A', c', hv, _⟩ := HT.out.1.rd
        by_cases h3 : (3 : Int) < (zo.length : Int)
        · have HF : Hid (ok = false) := by
            unfold Hid; rw [← HOK.out]; refine prB_long b c st k hk ?_
            rw [← HI.out]; show 3 < zo.length; omega
          rw [hv] at HT ⊢
          clear hv
          go_wp2_with fail
          go_ret2
          exact retOwnB_no HF.out (World.ownsRow_nil _ _ _ _) HT.out.2
        · rw [hv] at HT ⊢
          clear hv
          go_wp2_with (at_builtin; refine wpList_append_lies _ rfl (.tmp 20) (.tmp 22) _ rfl w.heap.size 3 i0 _ 1 8 Try.underlying64 hi0 hz0 hz1 hz2 rfl (by omega) _ zo.length _ rfl (World.ownsRow.alloc HT.out.1 _) ⟨wr.heap.size, 0, none⟩ 1 1 [.int .i64 h'] rfl rfl (World.news_of_block (cs := #[.int .i64 h']) (t := 3) (fr := (0, 0)) (heap_alloc_new wr _)) (by simp [Value.oneCell']) (by omega) (by unfold maxLen; omega) (by omega) (by simp; have := HT.out.2.size; omega) (wr.heap.size + 1) (by simp) ?_; intro gi capi wi hown hg hat hlti; have HS := Lib.hid (GrowRel.step HT.out hown hg); clear hown hg hat hlti)
          go_roundw
          case rel => exact ⟨k + 1, _, zo ++ [h'], h', by omega, by go_num, rfl, rfl, HS, by (unfold Hid; rw [HE.out, ← HI.out]), by simp; omega⟩
          case measure => simp [intOf]; omega
      · have HE := Lib.hid (prow_step0 c st k hz)
        go_wp2_with fail
        go_roundw
        case rel => exact ⟨k + 1, _, zo, wrap64 (h' - 1), by omega, by go_num, rfl, rfl, HT, by (unfold Hid; rw [HE.out, ← HI.out]), hz4⟩
        case measure => simp [intOf]; omega
    · have HK : Hid (zo = (prow c st st.length).1) := by
        unfold Hid
        rw [show st.length = k by omega, ← HI.out]
      go_wp2_with fail
      refine (isRow_any _ _ _ zo _ _ HT.out.1.rd (Nat.le_refl _)).mono ?_
      rintro e w1 ⟨rfl, hb1⟩
      have hT1 := Lib.hid (HT.out.below hb1)
      cases hrow : rowB b c zo
      · have HF : Hid (ok = false) := by unfold Hid; rw [← HOK.out, prB, ← HK.out, hrow]; rfl
        go_wp2_with fail
        go_ret2
        exact retOwnB_no HF.out (World.ownsRow_nil _ _ _ _) hT1.out.2
      · go_wp2_with fail
        refine (RowPath_any _ _ _ zo _ _ hT1.out.1.rd (Nat.le_refl _)).mono ?_
        rintro e w2 ⟨v2, rfl, ho2, hb2⟩
        have hT2 := Lib.hid (hT1.out.below hb2)
        have hp : pathZ b c zo = pathL c zo := by rw [pathZ, hrow]; rfl
        rw [hp] at ho2
        clear hp
        go_wp2_with fail
        refine (sameInts_any _ _ (pathL c zo) st _ _ _ ho2.rd (HU.out.below (hT2.out.2.mono hB))).mono ?_
        rintro e w3 ⟨rfl, hd3⟩
        have hT3 := Lib.hid (hT2.out.below (hd3.below _))
        cases heq : pathL c zo == st
        · have HF : Hid (ok = false) := by unfold Hid; rw [← HOK.out, prB, ← HK.out, heq]; simp
          go_wp2_with fail
          go_ret2
          exact retOwnB_no HF.out (World.ownsRow_nil _ _ _ _) hT3.out.2
        · have HF : Hid (ok = true) := by unfold Hid; rw [← HOK.out, prB, ← HK.out, heq, hrow]; rfl
          go_wp2_with fail
          go_ret2
          exact retOwnB_yes HF.out (by rw [← HK.out]; exact hT3.out.1) hT3.out.2
end Go.Proofs.Ytpockbbfbnaioaa
