/- Contracts of isRow and RowPath of the program. -/
import Derived.Test.YtpockbbfbnaioaaRow
import Derived.Test.YtpockbbfbnaioaaAppend
import Derived.Test.YtpockbbfbnaioaaIntSS
namespace Go.Proofs.Ytpockbbfbnaioaa
open Go.RowKit

/-! ### The path of a row, plain. -/
def hgt (c : Int) (zs : List Int) (k : Nat) : Int := if k = 0 then c else el zs (k - 1)
def outTo (c : Int) (zs : List Int) : Nat → List Int | 0 => [] | k + 1 => outTo c zs k ++ List.replicate (hgt c zs k - el zs k).toNat 0 ++ [1]
def pathL (c : Int) (zs : List Int) : List Int := outTo c zs zs.length ++ List.replicate (hgt c zs zs.length).toNat 0
theorem hgt_succ (c : Int) (zs : List Int) (k : Nat) : hgt c zs (k + 1) = el zs k := by simp [hgt]
theorem hgt_bd (b c : Int) (zs : List Int) (h : rowB b c zs = true) (k : Nat) (hk : k ≤ zs.length) : 0 ≤ hgt c zs k ∧ hgt c zs k ≤ c := by
  obtain ⟨h1, _, hc, _⟩ := (rowB_iff _ _ _).1 h
  unfold hgt
  split
  · omega
  · exact (h1 (k - 1) (by omega)).1
theorem el_bd (b c : Int) (zs : List Int) (h : rowB b c zs = true) (k : Nat) (hk : k < zs.length) : 0 ≤ el zs k ∧ el zs k ≤ hgt c zs k := by
  obtain ⟨h1, _, hc, _⟩ := (rowB_iff _ _ _).1 h
  obtain ⟨⟨g1, g2⟩, g3⟩ := h1 k hk
  unfold hgt
  split
  · omega
  · exact ⟨g1, g3 (by omega)⟩
theorem rep_succ (a h : Int) (h2 : h ≤ a) (p : List Int) : p ++ List.replicate (a - h).toNat 0 ++ [0] = p ++ List.replicate (a - (h - 1)).toNat 0 := by
  rw [show (a - (h - 1)).toNat = (a - h).toNat + 1 by omega, List.replicate_succ', List.append_assoc]

theorem OwnI.cell {w : World} {lo g n cap : Nat} {zs : List Int} (h : OwnI w lo (.slice (some ⟨g, 0, none⟩) n cap) zs) {k : Nat} (hk : k < zs.length) : w.cell? ⟨g, k, none⟩ = some (.int .i64 (el zs k)) := by
  have hadd : (⟨g, 0, none⟩ : Addr).add k = ⟨g, k, none⟩ := by unfold Addr.add; split <;> simp_all
  rw [← hadd]
  refine World.ownsRow.cells h rfl k _ ?_
  rw [List.getElem?_map, List.getElem?_eq_getElem hk, el_get _ _ hk]; rfl
/-- One row that is read, one that grows. -/
def TwoRel (w wr : World) (ev : Value) (ext : List Int) (v : Value) (zs : List Int) : Prop :=
  OwnI wr w.heap.size ev ext ∧ OwnI wr w.heap.size v zs ∧ (∀ a, ev.ownBlock = some a → v.ownBlock ≠ some a) ∧ Below w.heap.size w wr
theorem TwoRel.step {w wr w1 : World} {ev v : Value} {ext zs : List Int} {z : Int} {g cap : Nat} (h : TwoRel w wr ev ext v zs)
    (hown : w1.ownsRow w.heap.size 3 1 (.slice (some ⟨g, 0, none⟩) (zs.length + 1) cap) (zs.length + 1) (zs.map (Value.int .i64) ++ [.int .i64 z]))
    (hg : (wr.alloc (.cells #[.int .i64 z] 3)).grownBy w1 v.ownBlock) (hat : v.ownBlock = some g ∨ g = wr.heap.size + 1) :
    TwoRel w w1 ev ext (.slice (some ⟨g, 0, none⟩) (zs.length + 1) cap) (zs ++ [z]) := by
  obtain ⟨h1, h2, h3, h4⟩ := h
  refine ⟨?_, OwnI.one rfl hown, fun a ha => ?_, (h4.alloc h4.size _).grown hg (by simp; have := h4.size; omega) (fun k hk => (h2.lt k hk).1)⟩
  · refine World.ownsRow.kept (World.ownsRow.alloc h1 _) hg ?_
    cases e : ev.ownBlock
    · exact .inl rfl
    · exact .inr (fun e2 => h3 _ e e2.symm)
  · intro e
    have e' : g = a := by simpa [Value.ownBlock] using e
    subst e'
    rcases hat with e | e
    · exact h3 g ha e
    · have := (h1.lt g ha).2; omega

theorem isRow_any (b c : Int) (v : Value) (zs : List Int) (B : Nat) (w : World) (h : RdI w B v zs) (hB : B ≤ w.heap.size) :
    Calls Try.prog 123 #[.int .i64 b, .int .i64 c, v] w fun e w' => e = .returned (.bool (rowB b c zs)) ∧ Below w.heap.size w w' := by
  rw [← one_heap]
  have hd : ∀ o, RdII (w.alloc (.cells #[v] o)) (w.heap.size + 1) (.slice (some ⟨w.heap.size, 0, none⟩) 1 1) [zs] := fun o => by
    have hb := (Below.refl w.heap.size w).alloc (Nat.le_refl _) (.cells #[v] o)
    refine ⟨_, 1, [v], rfl, by simp, by decide, rfl, rd_new w #[v] o, fun i z hz => ?_⟩
    match i, hz with
    | 0, hz => obtain rfl : v = z := by simpa using hz
               exact (h.below (hb.mono hB)).more (by omega)
    | n + 1, hz => simp at hz
  obtain ⟨A, cp, rfl, h1, h2, h3⟩ := h
  have HD := Lib.hid hd; clear hd
  go_enter Try.func123, Try.ntmps123
  go_wp2_with fail
  refine (IsHeap_any _ _ _ _ [zs] (w.heap.size + 1) _ (HD.out _) (by simp)).mono ?_
  rintro e w1 ⟨rfl, hb1⟩
  go_wp2_with fail
  go_ret
  exact ⟨rfl, ((Below.refl _ _).alloc (Nat.le_refl _) _).trans (hb1.mono (by simp))⟩

theorem TwoRel.start {w w1 w2 w3 : World} {v2 : Value} {zs : List Int} {z : Int} {g cap : Nat} (hb1 : Below w.heap.size w w1) (ho2 : OwnI w2 (w1.heap.size + 1) v2 zs)
    (hb3 : Below (w1.heap.size + 1) (w1.alloc (.cells #[] 3)) w2) (hown3 : w3.ownsRow (w1.heap.size + 1) 3 1 (.slice (some ⟨g, 0, none⟩) (zs.length + 1) cap) (zs.length + 1) (zs.map (Value.int .i64) ++ [.int .i64 z]))
    (hg3 : (w2.alloc (.cells #[.int .i64 z] 3)).grownBy w3 v2.ownBlock) :
    TwoRel w w3 (.slice (some ⟨g, 0, none⟩) (zs.length + 1) cap) (zs ++ [z]) (.slice (some ⟨w1.heap.size, 0, none⟩) 0 0) [] := by
  have hs1 := hb1.size
  have hs2 : w1.heap.size + 1 ≤ w2.heap.size := by simpa using hb3.size
  have a0 := World.ownsRow_lit (base := w.heap.size) (e := 3) (size := 1) w1 #[] 0 hs1 (by simp [maxLen]) (by simp)
  have a1 : w2.ownsRow w.heap.size 3 1 (.slice (some ⟨w1.heap.size, 0, none⟩) 0 0) 0 (#[] : Array Value).toList := ownsRow_below a0 (by simpa using hb3)
  have a2 := World.ownsRow.kept (World.ownsRow.alloc a1 (.cells #[.int .i64 z] 3)) hg3 (.inr (fun e => by
    have := (ho2.lt _ e.symm).1; simp at this; omega))
  refine ⟨OwnI.mono (OwnI.one rfl hown3) (by omega), by simpa [OwnI] using a2, fun a ha hb => ?_, ?_⟩
  · have e3 : g = a := by simpa [Value.ownBlock] using ha
    have e4 : w1.heap.size = a := by simpa [Value.ownBlock] using hb
    have := (World.ownsRow.lt hown3 g rfl).1
    omega
  · exact (((hb1.alloc hs1 _).trans (hb3.mono (by omega))).alloc (by omega) _).grown hg3 (by simp; omega) (fun k hk => by have := (ho2.lt k hk).1; omega)

/-- Behind k rounds of the program. -/
def PathInv (c : Int) (zs : List Int) (k : Nat) (zo : List Int) (h : Int) : Prop :=
  (k ≤ zs.length → zo = outTo c zs k ∧ h = hgt c zs k) ∧ (k = zs.length + 1 → zo = pathL c zs)

set_option maxRecDepth 100000 in
set_option maxHeartbeats 4000000 in
theorem RowPath_yes (b c : Int) (v : Value) (zs : List Int) (B : Nat) (w : World) (h : RdI w B v zs) (hB : B ≤ w.heap.size) (hr : rowB b c zs = true) :
    Calls Try.prog 56 #[.int .i64 b, .int .i64 c, v] w (RetOwnI w (pathL c zs)) := by
  obtain ⟨i0, hi0, hz0, hz1, hz2⟩ := info_parts infoInt
  obtain ⟨hel, hbb, hcc, hlb⟩ := (rowB_iff _ _ _).1 hr
  have HU := Lib.hid h
  have hl3 : zs.length ≤ 3 := by omega
  have HR := Lib.hid hr
  obtain ⟨A, cp, rfl, h1, h2, h3⟩ := h
  clear hel h3 hlb
  go_enter Try.func56, Try.ntmps56
  go_wp2_with fail
  refine (isRow_any _ _ _ zs B _ HU.out hB).mono ?_
  rintro e w1 ⟨rfl, hb1⟩
  go_wp2_with fail
  clear hr
  have hb2 := hb1.alloc hb1.size (.cells #[] 3)
  refine (copyOf_any _ zs B _ (HU.out.below (hb2.mono hB)) (by simp; have := hb1.size; omega) (by omega)).mono ?_
  rintro e w2 ⟨v2, rfl, ho2, hb3⟩
  have hs1 := hb1.size
  have hs2 : w1.heap.size + 1 ≤ w2.heap.size := by simpa using hb3.size
  go_wp2_with (at_builtin; refine wpList_append_lies _ rfl (.tmp 19) (.tmp 20) _ rfl (w1.heap.size + 1) 3 i0 _ 1 8 Try.underlying64 hi0 hz0 hz1 hz2 rfl (by omega) v2 zs.length _ rfl (World.ownsRow.alloc (by simpa [OwnI] using ho2) _) ⟨w2.heap.size, 0, none⟩ 1 1 [.int .i64 (-1)] rfl rfl (World.news_of_block (cs := #[.int .i64 (-1)]) (t := 3) (fr := (0, 0)) (heap_alloc_new w2 _)) (by simp [Value.oneCell']) (by omega) (by unfold maxLen; omega) (by omega) (by simp; omega) (w2.heap.size + 1) (by simp) ?_; intro gg cap w3 hown3 hg3 hat3 hlt3)
  have hrel0 := TwoRel.start hb1 (by simpa [OwnI] using ho2) (by simpa using hb3) hown3 hg3
  have HR0 := Lib.hid hrel0
  clear hb3 hown3 hg3 hat3 ho2 hrel0
  have hI0 : Hid (PathInv c zs 0 [] c) := ⟨fun _ => ⟨rfl, rfl⟩, fun h => absurd h (by omega)⟩
  go_loopw [7, 8, 23] (fun o h s wr => ∃ (k : Nat) (v : Value) (zo : List Int) (h' : Int), k ≤ zs.length + 1 ∧ s = .int .i64 k ∧ o = v ∧ h = .int .i64 h' ∧ Hid (TwoRel w wr (.slice (some ⟨gg, 0, none⟩) (zs.length + 1) cap) (zs ++ [-1]) v zo) ∧ Hid (PathInv c zs k zo h') ∧ 0 ≤ h' ∧ h' ≤ c ∧ (zo.length : Int) + h' ≤ c + k) (fun _ _ s _ => zs.length + 1 - (intOf s).toNat)
  case atStart => exact ⟨0, _, [], c, by omega, rfl, rfl, rfl, HR0, hI0, by omega, by omega, by simp⟩
  case round =>
    obtain ⟨k, v, zo, h', hk, rfl, rfl, rfl, HT, HI, hh0, hhc, hsz⟩ := hrel
    by_cases hlt : k < zs.length + 1
    · have hcell := HT.out.1.cell (k := k) (by simp; omega)
      have hk0 : (0 : Int) ≤ (k : Int) := by omega
      have hk1 : (k : Int) < (zs.length : Int) + 1 := by omega
      by_cases hlast : k = zs.length
      · have hm1 : el (zs ++ [-1]) k = -1 := by simp [el, hlast]
        rw [hm1] at hcell
        have HLA := Lib.hid hlast; clear hlast hm1
        have hnn : 0 ≤ h' := hh0
        have HI1 : Hid (0 ≤ h') := Lib.hid hnn
        go_wp2_with fail
        go_loopw [7, 8] (fun o h wr => ∃ (v : Value) (zi : List Int) (hi : Int), o = v ∧ h = .int .i64 hi ∧ Hid (TwoRel w wr (.slice (some ⟨gg, 0, none⟩) (zs.length + 1) cap) (zs ++ [-1]) v zi) ∧ Hid (zi = zo ++ List.replicate (h' - hi).toNat 0) ∧ 0 ≤ hi ∧ hi ≤ h' ∧ (zi.length : Int) + hi ≤ c + k) (fun _ h _ => (intOf h - 0).toNat)
        case atStart => exact ⟨_, zo, h', rfl, rfl, HT, by (unfold Hid; simp), HI1.out, by omega, hsz⟩
        case round =>
          obtain ⟨vi, zi, hi, rfl, rfl, HTi, HZi, hi1, hi2, hszi⟩ := hrel
          by_cases hgt0 : 0 < hi
          · go_wp2_with (at_builtin; refine wpList_append_lies _ rfl (.tmp 31) (.tmp 32) _ rfl w.heap.size 3 i0 _ 1 8 Try.underlying64 hi0 hz0 hz1 hz2 rfl (by omega) _ zi.length _ rfl (World.ownsRow.alloc HTi.out.2.1 _) ⟨wr.heap.size, 0, none⟩ 1 1 [.int .i64 0] rfl rfl (World.news_of_block (cs := #[.int .i64 0]) (t := 3) (fr := (0, 0)) (heap_alloc_new wr _)) (by simp [Value.oneCell']) (by omega) (by unfold maxLen; omega) (by omega) (by simp; have := HTi.out.2.2.2.size; omega) (wr.heap.size + 1) (by simp) ?_; intro gi capi wi hown hg hat hlti; have HS := Lib.hid (TwoRel.step HTi.out hown hg hat); clear hown hg hat hlti)
            go_roundw
            case rel => exact ⟨_, zi ++ [0], hi - 1, rfl, rfl, HS, by (unfold Hid; rw [HZi.out, rep_succ _ _ (by omega)]), by omega, by omega, by simp; omega⟩
            case measure => simp [intOf]; omega
          · have HE : Hid (hi = 0) := by unfold Hid; omega
            go_wp2_with fail
            go_roundw
            case rel =>
              refine ⟨k + 1, _, zi, hi, by omega, by go_num, rfl, rfl, HTi, ?_, by omega, by omega, by omega⟩
              obtain ⟨z1, z2⟩ := HI.out.1 (by have := HLA.out; omega)
              refine ⟨fun hle => absurd hle (by have := HLA.out; omega), fun _ => ?_⟩
              rw [HZi.out, z1, z2, HE.out, HLA.out, Int.sub_zero]; rfl
            case measure => simp [intOf]; omega
      · have hkl : k < zs.length := by omega
        have hm1 : el (zs ++ [-1]) k = el zs k := by simp [el, List.getElem?_append_left hkl]
        rw [hm1] at hcell
        clear hlast hm1
        obtain ⟨e1, e2⟩ := el_bd b c zs HR.out k hkl
        have hnn : el zs k ≤ h' := by rw [(HI.out.1 (by omega)).2]; exact e2
        clear e2
        have HI1 : Hid (el zs k ≤ h') := Lib.hid hnn
        go_wp2_with fail
        go_loopw [7, 8] (fun o h wr => ∃ (v : Value) (zi : List Int) (hi : Int), o = v ∧ h = .int .i64 hi ∧ Hid (TwoRel w wr (.slice (some ⟨gg, 0, none⟩) (zs.length + 1) cap) (zs ++ [-1]) v zi) ∧ Hid (zi = zo ++ List.replicate (h' - hi).toNat 0) ∧ el zs k ≤ hi ∧ hi ≤ h' ∧ (zi.length : Int) + hi ≤ c + k) (fun _ h _ => (intOf h - el zs k).toNat)
        case atStart => exact ⟨_, zo, h', rfl, rfl, HT, by (unfold Hid; simp), HI1.out, by omega, hsz⟩
        case round =>
          obtain ⟨vi, zi, hi, rfl, rfl, HTi, HZi, hi1, hi2, hszi⟩ := hrel
          by_cases hgt0 : el zs k < hi
          · go_wp2_with (at_builtin; refine wpList_append_lies _ rfl (.tmp 31) (.tmp 32) _ rfl w.heap.size 3 i0 _ 1 8 Try.underlying64 hi0 hz0 hz1 hz2 rfl (by omega) _ zi.length _ rfl (World.ownsRow.alloc HTi.out.2.1 _) ⟨wr.heap.size, 0, none⟩ 1 1 [.int .i64 0] rfl rfl (World.news_of_block (cs := #[.int .i64 0]) (t := 3) (fr := (0, 0)) (heap_alloc_new wr _)) (by simp [Value.oneCell']) (by omega) (by unfold maxLen; omega) (by omega) (by simp; have := HTi.out.2.2.2.size; omega) (wr.heap.size + 1) (by simp) ?_; intro gi capi wi hown hg hat hlti; have HS := Lib.hid (TwoRel.step HTi.out hown hg hat); clear hown hg hat hlti)
            go_roundw
            case rel => exact ⟨_, zi ++ [0], hi - 1, rfl, rfl, HS, by (unfold Hid; rw [HZi.out, rep_succ _ _ (by omega)]), by omega, by omega, by simp; omega⟩
            case measure => simp [intOf]; omega
          · have HE : Hid (hi = el zs k) := by unfold Hid; omega
            go_wp2_with (at_builtin; refine wpList_append_lies _ rfl (.tmp 38) (.tmp 39) _ rfl w.heap.size 3 i0 _ 1 8 Try.underlying64 hi0 hz0 hz1 hz2 rfl (by omega) _ zi.length _ rfl (World.ownsRow.alloc HTi.out.2.1 _) ⟨wr.heap.size, 0, none⟩ 1 1 [.int .i64 1] rfl rfl (World.news_of_block (cs := #[.int .i64 1]) (t := 3) (fr := (0, 0)) (heap_alloc_new wr _)) (by simp [Value.oneCell']) (by omega) (by unfold maxLen; omega) (by omega) (by simp; have := HTi.out.2.2.2.size; omega) (wr.heap.size + 1) (by simp) ?_; intro gi capi wi hown hg hat hlti; have HS := Lib.hid (TwoRel.step HTi.out hown hg hat); clear hown hg hat hlti)
            go_roundw
            case rel =>
              refine ⟨k + 1, _, zi ++ [1], hi, by omega, by go_num, rfl, rfl, HS, ?_, by omega, by omega, by simp; omega⟩
              obtain ⟨z1, z2⟩ := HI.out.1 (by omega)
              refine ⟨fun _ => ⟨?_, by rw [hgt_succ, HE.out]⟩, fun h => absurd h (by omega)⟩
              rw [HZi.out, z1, z2, HE.out]; rfl
            case measure => simp [intOf]; omega
    · have HF : Hid (zo = pathL c zs) := HI.out.2 (by omega)
      go_wp2_with fail
      go_ret
      exact ⟨_, rfl, by rw [← HF.out]; exact HT.out.2.1, HT.out.2.2.2⟩

def pathZ (b c : Int) (zs : List Int) : List Int := if rowB b c zs then pathL c zs else []
theorem RowPath_any (b c : Int) (v : Value) (zs : List Int) (B : Nat) (w : World) (h : RdI w B v zs) (hB : B ≤ w.heap.size) :
    Calls Try.prog 56 #[.int .i64 b, .int .i64 c, v] w (RetOwnI w (pathZ b c zs)) := by
  cases hr : rowB b c zs
  · rw [show pathZ b c zs = [] from by rw [pathZ, hr]; rfl]
    have HU := Lib.hid h
    obtain ⟨A, cp, rfl, h1, h2, h3⟩ := h
    go_enter Try.func56, Try.ntmps56
    go_wp2_with fail
    refine (isRow_any _ _ _ zs B _ HU.out hB).mono ?_
    rintro e w1 ⟨rfl, hb1⟩
    go_wp2_with fail
    go_ret
    exact ⟨_, rfl, World.ownsRow_nil _ _ _ _, hb1⟩
  · rw [show pathZ b c zs = pathL c zs from by rw [pathZ, hr]; rfl]
    exact RowPath_yes b c v zs B w h hB hr
end Go.Proofs.Ytpockbbfbnaioaa
