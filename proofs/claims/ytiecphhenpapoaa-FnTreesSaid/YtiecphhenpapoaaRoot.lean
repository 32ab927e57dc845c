/- The way back to the first post: plain words on a list that is filled from post to post. No function of the program is named here. -/
import Derived.Test.YtiecphhenpapoaaJoin
import Derived.Test.YtiecphhenpapoaaInts
namespace Go.Proofs.Ytiecphhenpapoaa
/-- The other ends of all links at i are reached. -/
def Clo (es : List (Nat × Nat)) (zs : List Int) (i : Nat) : Prop := ∀ e ∈ es, (e.1 = i → 0 ≤ el zs e.2) ∧ (e.2 = i → 0 ≤ el zs e.1)
/-- While the way back is laid: own is looked at, its first k links are done. -/
structure RIn (n : Nat) (es : List (Nat × Nat)) (zs : List Int) (q : List Nat) (own k : Nat) : Prop where
  len : zs.length = n
  low : ∀ i, i < n → -1 ≤ el zs i
  zero : 0 ≤ el zs 0
  con : ∀ i, i < n → 0 ≤ el zs i → Con es 0 i
  que : ∀ x ∈ q, x < n ∧ 0 ≤ el zs x
  clo : ∀ i, i < n → 0 ≤ el zs i → i ∈ q ∨ Clo es zs i ∨ (i = own ∧ Clo (es.take k) zs i)
  own : own < n ∧ 0 ≤ el zs own
/-- Between two of them. -/
structure ROut (n : Nat) (es : List (Nat × Nat)) (zs : List Int) (q : List Nat) : Prop where
  len : zs.length = n
  low : ∀ i, i < n → -1 ≤ el zs i
  zero : 0 ≤ el zs 0
  con : ∀ i, i < n → 0 ≤ el zs i → Con es 0 i
  que : ∀ x ∈ q, x < n ∧ 0 ≤ el zs x
  clo : ∀ i, i < n → 0 ≤ el zs i → i ∈ q ∨ Clo es zs i
theorem el_setI (zs : List Int) (t : Nat) (z : Int) (ht : t < zs.length) (i : Nat) : el (zs.set t z) i = if i = t then z else el zs i := by
  by_cases e : i = t
  · subst e; simp [el, ht]
  · simp [el, List.getElem?_set_ne (Ne.symm e), e]
/-- How many are not reached. -/
def unr (n : Nat) (zs : List Int) : Nat := (List.range n).countP fun i => decide (el zs i < 0)
theorem unr_set {n : Nat} {zs : List Int} (h : zs.length = n) {t : Nat} {z : Int} (ht : t < n) (h1 : el zs t < 0) (h2 : 0 ≤ z) : unr n (zs.set t z) + 1 = unr n zs := by
  unfold unr
  have := count_split (fun i => decide (el zs i < 0)) (fun i => decide (el (zs.set t z) i < 0)) t (fun i => ?_) ?_ n
  · rw [if_pos ht] at this; exact this.symm
  · rw [el_setI zs t z (by omega) i]
    by_cases e : i = t
    · subst e; simp [h1]
    · simp [e]
  · rw [el_setI zs t z (by omega) t, if_pos rfl]; simp; omega
theorem unr_le (n : Nat) (zs : List Int) : unr n zs ≤ n := by
  unfold unr
  have := List.countP_le_length (p := fun i => decide (el zs i < 0)) (l := List.range n)
  simpa using this
theorem ROut.start {n : Nat} (hn : 0 < n) (es : List (Nat × Nat)) : ROut n es ((List.replicate n (-1)).set 0 0) [0] := by
  have hl : (List.replicate n (-1 : Int)).length = n := by simp
  have he : ∀ i, i < n → el ((List.replicate n (-1)).set 0 0) i = if i = 0 then 0 else -1 := fun i hi => by
    rw [el_setI _ _ _ (by omega)]
    simp [el, hi]
  refine ⟨by simp, fun i hi => ?_, ?_, fun i hi h => ?_, fun x hx => ?_, fun i hi h => ?_⟩
  · rw [he i hi]; split <;> omega
  · rw [he 0 hn]; simp
  · rw [he i hi] at h
    have : i = 0 := by
      by_cases e : i = 0
      · exact e
      · rw [if_neg e] at h; omega
    subst this; exact .refl _
  · simp at hx; subst hx; exact ⟨hn, by rw [he 0 hn]; simp⟩
  · rw [he i hi] at h
    have : i = 0 := by
      by_cases e : i = 0
      · exact e
      · rw [if_neg e] at h; omega
    subst this; exact .inl (by simp)
/-- The next one is taken. -/
theorem ROut.pop {n : Nat} {es : List (Nat × Nat)} {zs : List Int} {own : Nat} {q : List Nat} (h : ROut n es zs (own :: q)) : RIn n es zs q own 0 := by
  refine ⟨h.len, h.low, h.zero, h.con, fun x hx => h.que x (by simp [hx]), fun i hi hr => ?_, h.que own (by simp)⟩
  rcases h.clo i hi hr with hm | hm
  · rcases List.mem_cons.1 hm with rfl | hm
    · exact .inr (.inr ⟨rfl, fun e he => by simp at he⟩)
    · exact .inl hm
  · exact .inr (.inl hm)
theorem RIn.done {n : Nat} {es : List (Nat × Nat)} {zs : List Int} {own : Nat} {q : List Nat} {k : Nat} (h : RIn n es zs q own k) (hk : es.length ≤ k) : ROut n es zs q := by
  refine ⟨h.len, h.low, h.zero, h.con, h.que, fun i hi hr => ?_⟩
  rcases h.clo i hi hr with hm | hm | ⟨_, hm⟩
  · exact .inl hm
  · exact .inr hm
  · rw [List.take_of_length_le hk] at hm; exact .inr hm
/-- The end of a link that is not own. -/
def tgt (own : Nat) (e : Nat × Nat) : Nat := if e.2 = own then e.1 else e.2
theorem take_mem {α : Type} {es : List α} {k : Nat} (hk : k < es.length) {e : α} (he : e ∈ es.take (k + 1)) : e ∈ es.take k ∨ e = es[k] := by
  rw [List.take_succ_eq_append_getElem hk, List.mem_append] at he
  rcases he with he | he
  · exact .inl he
  · exact .inr (by simpa only [List.mem_singleton] using he)
/-- A link that changes nothing. -/
theorem RIn.skip {n : Nat} {es : List (Nat × Nat)} {zs : List Int} {own : Nat} {q : List Nat} {k : Nat} (h : RIn n es zs q own k) (hk : k < es.length) (hs : (es[k].1 = own → 0 ≤ el zs es[k].2) ∧ (es[k].2 = own → 0 ≤ el zs es[k].1)) : RIn n es zs q own (k + 1) := by
  refine ⟨h.len, h.low, h.zero, h.con, h.que, fun i hi hr => ?_, h.own⟩
  rcases h.clo i hi hr with hm | hm | ⟨rfl, hm⟩
  · exact .inl hm
  · exact .inr (.inl hm)
  · refine .inr (.inr ⟨rfl, fun e he => ?_⟩)
    rcases take_mem hk he with he | rfl
    · exact hm e he
    · exact hs
/-- A link that reaches a new post. -/
theorem RIn.reach {n : Nat} {es : List (Nat × Nat)} {zs : List Int} {own : Nat} {q : List Nat} {k t : Nat} (h : RIn n es zs q own k) (hk : k < es.length) (ht : t < n) (hne : es[k].1 ≠ es[k].2)
    (hs : (es[k].1 = own ∧ es[k].2 = t) ∨ (es[k].2 = own ∧ es[k].1 = t)) (hlt : el zs t < 0) : RIn n es (zs.set t (own : Int)) (q ++ [t]) own (k + 1) := by
  have hl : t < zs.length := by rw [h.len]; exact ht
  have hup : ∀ i, 0 ≤ el zs i → 0 ≤ el (zs.set t (own : Int)) i := fun i hi => by rw [el_setI _ _ _ hl]; split <;> omega
  have hclo : ∀ es' i, Clo es' zs i → Clo es' (zs.set t (own : Int)) i := fun es' i hc e he => ⟨fun q => hup _ ((hc e he).1 q), fun q => hup _ ((hc e he).2 q)⟩
  have hct : Con es own t := by
    rcases hs with ⟨h1, h2⟩ | ⟨h1, h2⟩
    · exact .edge (by rw [← h1, ← h2]; exact List.getElem_mem hk)
    · exact .symm (.edge (by rw [← h1, ← h2]; exact List.getElem_mem hk))
  have htr : 0 ≤ el (zs.set t (own : Int)) t := by rw [el_setI _ _ _ hl, if_pos rfl]; omega
  refine ⟨by rw [List.length_set]; exact h.len, fun i hi => ?_, hup 0 h.zero, fun i hi hr => ?_, fun x hx => ?_, fun i hi hr => ?_, h.own.1, hup _ h.own.2⟩
  · rw [el_setI _ _ _ hl]
    split
    · omega
    · exact h.low i hi
  · by_cases e : i = t
    · subst e; exact .trans (h.con own h.own.1 h.own.2) hct
    · rw [el_setI _ _ _ hl, if_neg e] at hr; exact h.con i hi hr
  · rcases List.mem_append.1 hx with hx | hx
    · exact ⟨(h.que x hx).1, hup _ (h.que x hx).2⟩
    · simp at hx; subst hx; exact ⟨ht, htr⟩
  · by_cases e : i = t
    · exact .inl (by simp [e])
    · rw [el_setI _ _ _ hl, if_neg e] at hr
      rcases h.clo i hi hr with hm | hm | ⟨rfl, hm⟩
      · exact .inl (by simp [hm])
      · exact .inr (.inl (hclo _ _ hm))
      · refine .inr (.inr ⟨rfl, fun e he => ?_⟩)
        rcases take_mem hk he with he | rfl
        · exact hclo _ _ hm e he
        · rcases hs with ⟨h1, h2⟩ | ⟨h1, h2⟩
          · exact ⟨fun _ => by rw [h2]; exact htr, fun q => absurd (h1.trans q.symm) hne⟩
          · exact ⟨fun q => absurd (q.trans h1.symm) hne, fun _ => by rw [h2]; exact htr⟩
/-- At the end just those are reached that a way joins with the first. -/
theorem ROut.all {n : Nat} {es : List (Nat × Nat)} {zs : List Int} (h : ROut n es zs []) (hn : 0 < n) (hb : ∀ e ∈ es, e.1 < n ∧ e.2 < n) (i : Nat) (hi : i < n) : 0 ≤ el zs i ↔ Con es 0 i := by
  refine ⟨h.con i hi, fun hc => ?_⟩
  have key : ∀ i j, Con es i j → (i < n ↔ j < n) ∧ (i < n → (0 ≤ el zs i ↔ 0 ≤ el zs j)) := by
    intro i j c
    induction c with
    | refl a => exact ⟨Iff.rfl, fun _ => Iff.rfl⟩
    | edge he =>
      have hx := hb _ he
      refine ⟨by simp [hx.1, hx.2], fun _ => ⟨fun hr => ?_, fun hr => ?_⟩⟩
      · rcases h.clo _ hx.1 hr with hm | hm
        · simp at hm
        · exact (hm _ he).1 rfl
      · rcases h.clo _ hx.2 hr with hm | hm
        · simp at hm
        · exact (hm _ he).2 rfl
    | symm _ ih => exact ⟨ih.1.symm, fun hx => (ih.2 (ih.1.2 hx)).symm⟩
    | trans _ _ ih1 ih2 => exact ⟨ih1.1.trans ih2.1, fun hx => (ih1.2 hx).trans (ih2.2 (ih1.1.1 hx))⟩
  exact ((key 0 i hc).2 hn).1 h.zero
end Go.Proofs.Ytiecphhenpapoaa
