/- How a drawn tree grows: plain. -/
import Derived.Test.YtiecphhenpapoaaIsTree
namespace Go.Proofs.Ytiecphhenpapoaa
open Go.RowKit
set_option linter.unusedVariables false

theorem gAll_app (g : List Nat) (t : List (Nat × Nat)) (e : Nat × Nat) : gAll g (t ++ [e]) = joinF (gAll g t) e := by simp [gAll, List.foldl_append]
theorem okAll_app : ∀ (t : List (Nat × Nat)) (g : List Nat) (e : Nat × Nat), okAll g t = true → gi (gAll g t) e.1 ≠ gi (gAll g t) e.2 → okAll g (t ++ [e]) = true
  | [], g, e, _, h => by simp [okAll]; exact h
  | x :: t, g, e, h, h2 => by
    rw [okAll] at h
    rw [List.cons_append, okAll]
    split at h
    · simp at h
    · rename_i hne
      rw [if_neg hne]
      exact okAll_app t _ e h h2
theorem con_mono {s t : List (Nat × Nat)} (h : ∀ e ∈ s, e ∈ t) {i j : Nat} (hc : Con s i j) : Con t i j := by
  induction hc with
  | refl a => exact .refl a
  | edge he => exact .edge (h _ he)
  | symm _ ih => exact .symm ih
  | trans _ _ ih1 ih2 => exact .trans ih1 ih2
theorem con_same {gs : List Nat} {es : List (Nat × Nat)} (h : ∀ e ∈ es, gi gs e.1 = gi gs e.2) {i j : Nat} (hc : Con es i j) : gi gs i = gi gs j := by
  induction hc with
  | refl a => rfl
  | edge he => exact h _ he
  | symm _ ih => exact ih.symm
  | trans _ _ ih1 ih2 => exact ih1.trans ih2
theorem grid_tab : ((List.range 5).all fun w => (List.range 5).all fun h => w == 0 || h == 0 || decide (fixed (w * h) (gAll (List.range (w * h)) ((linksZ w h).map (lkN w))) ≤ 1)) = true := by decide +kernel
theorem grid_con (a b : Nat) (hg : gridB a b = true) (i : Nat) (hi : i < a * b) : Con ((linksZ a b).map (lkN a)) 0 i := by
  have hb := (gridB_iff _ _).1 hg
  have h := all2 grid_tab a b (by omega) (by omega)
  have h1 : (a == 0) = false := by simp; omega
  have h2 : (b == 0) = false := by simp; omega
  rw [h1, h2] at h
  have h : fixed (a * b) (gAll (List.range (a * b)) ((linksZ a b).map (lkN a))) ≤ 1 := by simpa using h
  have hbd := ends_lt hg (ls := linksZ a b) (fun l hl => hl)
  have hok := (run_facts ((linksZ a b).map (lkN a)) (List.range (a * b)) (start_ok (a * b)).1 hbd).1
  refine con_all _ _ _ (start_ok (a * b)).1 (fun i j hi hj hs => ?_) (fun e he => ⟨he, hbd e he⟩) 0 i (by omega) hi (fixed_one hok h (by omega) hi)
  rw [(start_ok (a * b)).2.2 i hi, (start_ok (a * b)).2.2 j hj] at hs
  subst hs
  exact .refl _
/-- The links that are used. -/
def outF : List Lk → List Bool → List Lk
  | l :: ls, true :: us => l :: outF ls us
  | _ :: ls, false :: us => outF ls us
  | _, _ => []
theorem outF_len : ∀ (ls : List Lk) (us : List Bool), ls.length = us.length → (outF ls us).length = us.count true
  | [], [], _ => rfl
  | [], _ :: _, h => by simp at h
  | _ :: _, [], h => by simp at h
  | l :: ls, true :: us, h => by simp [outF, outF_len ls us (by simpa using h)]
  | l :: ls, false :: us, h => by simp [outF, outF_len ls us (by simpa using h)]
theorem outF_mem : ∀ (ls : List Lk) (us : List Bool), ∀ l ∈ outF ls us, l ∈ ls
  | [], [], _, h => by simp [outF] at h
  | [], _ :: _, _, h => by simp [outF] at h
  | _ :: _, [], _, h => by simp [outF] at h
  | l :: ls, true :: us, x, h => by
    rw [outF] at h
    rcases List.mem_cons.1 h with rfl | h
    · simp
    · exact List.mem_cons_of_mem _ (outF_mem ls us x h)
  | l :: ls, false :: us, x, h => by
    rw [outF] at h
    exact List.mem_cons_of_mem _ (outF_mem ls us x h)
theorem outF_get : ∀ (ls : List Lk) (us : List Bool) (j : Nat) (h : j < ls.length), us.getD j false = true → ls[j] ∈ outF ls us
  | l :: ls, true :: us, 0, _, _ => by simp [outF]
  | l :: ls, false :: us, 0, _, h => by simp at h
  | l :: ls, true :: us, j + 1, h, hu => by
    rw [outF]
    exact List.mem_cons_of_mem _ (outF_get ls us j (by simpa using h) (by simpa using hu))
  | l :: ls, false :: us, j + 1, h, hu => by
    rw [outF]
    exact outF_get ls us j (by simpa using h) (by simpa using hu)
  | _ :: _, [], _, _, hu => by simp at hu
/-- While it grows. -/
structure TInv (n wd : Nat) (all : List Lk) (us : List Bool) (gs : List Nat) (c : Nat) : Prop where
  ul : us.length = all.length
  gl : gs.length = n
  cnt : us.count true = c
  ex : ∃ t : List (Nat × Nat), gs = gAll (List.range n) t ∧ okAll (List.range n) t = true ∧ t.length = c ∧ (∀ e ∈ t, ∃ j, ∃ h : j < all.length, us.getD j false = true ∧ lkN wd all[j] = e) ∧ (∀ j, (h : j < all.length) → us.getD j false = true → lkN wd all[j] ∈ t)
theorem TInv.start (n wd : Nat) (all : List Lk) : TInv n wd all (List.replicate all.length false) (List.range n) 0 := by
  refine ⟨by simp, by simp, by simp [List.count_replicate], [], rfl, rfl, rfl, fun e he => by simp at he, fun j h hu => ?_⟩
  exfalso
  rw [List.getD_eq_getElem?_getD, List.getElem?_replicate] at hu
  split at hu <;> simp at hu
theorem count_set_true : ∀ (us : List Bool) (j : Nat), j < us.length → us.getD j false = false → (us.set j true).count true = us.count true + 1
  | u :: us, 0, _, h => by have h : u = false := by simpa using h
                           subst h; simp
  | true :: us, j + 1, hj, h => by
    have := count_set_true us j (by simpa using hj) (by simpa using h)
    simp [this]
  | false :: us, j + 1, hj, h => by
    have := count_set_true us j (by simpa using hj) (by simpa using h)
    simp [this]
theorem TInv.step {n wd : Nat} {all : List Lk} {us : List Bool} {gs : List Nat} {c j : Nat} (h : TInv n wd all us gs c) (hj : j < all.length) (hu : us.getD j false = false) (hne : gi gs (lkN wd all[j]).1 ≠ gi gs (lkN wd all[j]).2) :
    TInv n wd all (us.set j true) (joinF gs (lkN wd all[j])) (c + 1) := by
  obtain ⟨t, e1, e2, e3, e4, e5⟩ := h.ex
  have hul := h.ul
  have hget : ∀ i, (us.set j true).getD i false = if i = j then true else us.getD i false := fun i => by
    rw [List.getD_eq_getElem?_getD, List.getD_eq_getElem?_getD, List.getElem?_set]
    by_cases e : j = i
    · subst e; simp [hul, hj]
    · rw [if_neg e, if_neg (Ne.symm e)]
  refine ⟨by simp [hul], by simp [joinF, h.gl], by rw [count_set_true us j (by omega) hu, h.cnt], t ++ [lkN wd all[j]], by rw [gAll_app, ← e1], okAll_app t _ _ e2 (by rw [← e1]; exact hne), by simp [e3], fun e he => ?_, fun i hi hui => ?_⟩
  · rcases List.mem_append.1 he with he | he
    · obtain ⟨i, hi, h1, h2⟩ := e4 e he
      exact ⟨i, hi, by rw [hget]; split <;> simp_all, h2⟩
    · obtain rfl : e = lkN wd all[j] := by simpa using he
      exact ⟨j, hj, by rw [hget, if_pos rfl], rfl⟩
  · rw [hget] at hui
    by_cases e : i = j
    · subst e; simp
    · rw [if_neg e] at hui
      exact List.mem_append_left _ (e5 i hi hui)
/-- There is a link that joins. -/
theorem TInv.more {a b : Nat} (hg : gridB a b = true) {us : List Bool} {gs : List Nat} {c : Nat} (h : TInv (a * b) a (linksZ a b) us gs c) (hc : c + 1 < a * b) :
    ∃ j, ∃ hj : j < (linksZ a b).length, us.getD j false = false ∧ gi gs (lkN a (linksZ a b)[j]).1 ≠ gi gs (lkN a (linksZ a b)[j]).2 := by
  obtain ⟨t, e1, e2, e3, e4, e5⟩ := h.ex
  have hbd := ends_lt hg (ls := linksZ a b) (fun l hl => hl)
  have htb : ∀ e ∈ t, e.1 < a * b ∧ e.2 < a * b := fun e he => by
    obtain ⟨j, hj, _, rfl⟩ := e4 e he
    exact hbd _ (List.mem_map.2 ⟨_, List.getElem_mem hj, rfl⟩)
  obtain ⟨r1, r2⟩ := run_facts t (List.range (a * b)) (start_ok (a * b)).1 htb
  rw [((sucs_le t _).2).1 e2, (start_ok (a * b)).2.1, e3] at r2
  have hno : ¬ ∀ e ∈ (linksZ a b).map (lkN a), gi gs e.1 = gi gs e.2 := fun hall => by
    have := one_fixed r1 (fun i hi => by rw [← e1]; exact con_same hall (grid_con a b hg i hi))
    omega
  have : ∃ e ∈ (linksZ a b).map (lkN a), gi gs e.1 ≠ gi gs e.2 := by
    refine Classical.byContradiction fun hx => hno fun e he => Classical.byContradiction fun h9 => hx ⟨e, he, h9⟩
  obtain ⟨e, he, hne⟩ := this
  obtain ⟨l, hl, rfl⟩ := List.mem_map.1 he
  obtain ⟨j, hj, rfl⟩ := List.getElem_of_mem hl
  refine ⟨j, hj, ?_, hne⟩
  cases hu : us.getD j false
  · rfl
  · exfalso
    have hm := e5 j hj hu
    have := edge_all t (List.range (a * b)) (by simp) htb _ hm
    rw [← e1] at this
    exact hne this
/-- At the end: a tree. -/
theorem TInv.tree {a b : Nat} (hg : gridB a b = true) {us : List Bool} {gs : List Nat} {c : Nat} (h : TInv (a * b) a (linksZ a b) us gs c) (hc : c + 1 = a * b) : treeB a b (outF (linksZ a b) us) = true := by
  obtain ⟨t, e1, e2, e3, e4, e5⟩ := h.ex
  have hbd := ends_lt hg (ls := linksZ a b) (fun l hl => hl)
  have htb : ∀ e ∈ t, e.1 < a * b ∧ e.2 < a * b := fun e he => by
    obtain ⟨j, hj, _, rfl⟩ := e4 e he
    exact hbd _ (List.mem_map.2 ⟨_, List.getElem_mem hj, rfl⟩)
  have hlen : (outF (linksZ a b) us).length = c := by rw [outF_len _ _ h.ul.symm, h.cnt]
  have hmem := outF_mem (linksZ a b) us
  have hob := ends_lt hg (ls := outF (linksZ a b) us) hmem
  have hcon := (tree_iff t (by omega) (by omega) htb).1 e2
  have hok : okAll (List.range (a * b)) ((outF (linksZ a b) us).map (lkN a)) = true := by
    refine (tree_iff _ (by omega) (by rw [List.length_map]; omega) hob).2 fun i hi => con_mono (fun e he => ?_) (hcon i hi)
    obtain ⟨j, hj, hu, rfl⟩ := e4 e he
    exact List.mem_map.2 ⟨_, outF_get _ _ j hj hu, rfl⟩
  unfold treeB
  simp only [Int.toNat_natCast]
  rw [hg, hok, decide_eq_true (show ((outF (linksZ a b) us).length : Int) = (a : Int) * (b : Int) - 1 by rw [hlen, ← Int.natCast_mul]; omega)]
  simp only [Bool.true_and, Bool.and_true, List.all_eq_true, List.contains_iff_mem]
  exact hmem
end Go.Proofs.Ytiecphhenpapoaa
