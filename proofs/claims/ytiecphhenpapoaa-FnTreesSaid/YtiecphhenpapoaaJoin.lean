/- Groups joined pair by pair, in plain words: n - 1 joins all succeed just where every post is joined with the first. No function of the program is named here. -/
import Derived.Test.YtiecphhenpapoaaRows
namespace Go.Proofs.Ytiecphhenpapoaa
/-! ### Groups -/
def gi (g : List Nat) (i : Nat) : Nat := g.getD i 0
def joinF (g : List Nat) (e : Nat × Nat) : List Nat := g.map fun x => if x = gi g e.2 then gi g e.1 else x
/-- All joins are of posts in two groups. -/
def okAll : List Nat → List (Nat × Nat) → Bool
  | _, [] => true
  | g, e :: t => if gi g e.1 = gi g e.2 then false else okAll (joinF g e) t
def gAll (g : List Nat) (es : List (Nat × Nat)) : List Nat := es.foldl joinF g
def sucs : List Nat → List (Nat × Nat) → Nat
  | _, [] => 0
  | g, e :: t => (if gi g e.1 = gi g e.2 then 0 else 1) + sucs (joinF g e) t
def GOk (n : Nat) (g : List Nat) : Prop := g.length = n ∧ ∀ i, i < n → gi g i < n ∧ gi g (gi g i) = gi g i
def fixed (n : Nat) (g : List Nat) : Nat := (List.range n).countP fun i => gi g i == i
theorem gi_join {n : Nat} {g : List Nat} (h : g.length = n) (e : Nat × Nat) (i : Nat) (hi : i < n) : gi (joinF g e) i = if gi g i = gi g e.2 then gi g e.1 else gi g i := by
  simp [gi, joinF, List.getD_eq_getElem?_getD, show i < g.length by omega]
theorem GOk.join {n : Nat} {g : List Nat} (h : GOk n g) {e : Nat × Nat} (h1 : e.1 < n) (h2 : e.2 < n) : GOk n (joinF g e) := by
  refine ⟨by simp [joinF, h.1], fun i hi => ?_⟩
  have ha := h.2 _ h1
  have hb := h.2 _ h2
  have hc := h.2 _ hi
  rw [gi_join h.1 e i hi]
  by_cases c : gi g i = gi g e.2
  · rw [if_pos c, gi_join h.1 e _ ha.1, ha.2]
    refine ⟨ha.1, ?_⟩
    split <;> rfl
  · rw [if_neg c, gi_join h.1 e _ hc.1, hc.2, if_neg c]
    exact ⟨hc.1, rfl⟩
theorem count_split (p q : Nat → Bool) (v : Nat) (h : ∀ i, p i = (q i || i == v)) (hq : q v = false) : ∀ n, (List.range n).countP p = (List.range n).countP q + if v < n then 1 else 0
  | 0 => by simp
  | n + 1 => by
    rw [List.range_succ, List.countP_append, List.countP_append, count_split p q v h hq n]
    simp only [List.countP_cons, List.countP_nil]
    rw [h n]
    by_cases e : n = v
    · subst e; simp [hq]
    · have : (n == v) = false := by simp [e]
      rw [this, Bool.or_false]
      by_cases c : v < n
      · simp [c, show v < n + 1 by omega]; omega
      · simp [c, show ¬ v < n + 1 by omega]
theorem count_eq (p q : Nat → Bool) : ∀ n, (∀ i, i < n → p i = q i) → (List.range n).countP p = (List.range n).countP q
  | 0, _ => by simp
  | n + 1, h => by
    rw [List.range_succ, List.countP_append, List.countP_append, count_eq p q n fun i hi => h i (by omega)]
    simp [List.countP_cons, h n (by omega)]
theorem fixed_join {n : Nat} {g : List Nat} (h : GOk n g) {e : Nat × Nat} (h1 : e.1 < n) (h2 : e.2 < n) : fixed n (joinF g e) + (if gi g e.1 = gi g e.2 then 0 else 1) = fixed n g := by
  by_cases c : gi g e.1 = gi g e.2
  · rw [if_pos c]
    unfold fixed
    rw [Nat.add_zero]
    refine count_eq _ _ n fun i hi => ?_
    rw [gi_join h.1 e i hi, c]
    split
    · rename_i e2; rw [e2]
    · rfl
  · rw [if_neg c]
    have ha := h.2 _ h1
    have hb := h.2 _ h2
    unfold fixed
    have := count_split (fun i => if i < n then gi g i == i else false) (fun i => if i < n then gi (joinF g e) i == i else false) (gi g e.2) (fun i => ?_) ?_ n
    · rw [if_pos hb.1] at this
      rw [count_eq (fun i => gi (joinF g e) i == i) (fun i => if i < n then gi (joinF g e) i == i else false) n (fun i hi => by simp [hi]),
        count_eq (fun i => gi g i == i) (fun i => if i < n then gi g i == i else false) n (fun i hi => by simp [hi])]
      exact this.symm
    · by_cases hi : i < n
      · simp only [hi, if_true]
        rw [gi_join h.1 e i hi]
        have hc := h.2 _ hi
        by_cases c2 : gi g i = gi g e.2
        · rw [if_pos c2, c2]
          have : (gi g e.1 == i) = false := by
            rw [beq_eq_false_iff_ne]; intro e3
            rw [← e3, ha.2] at c2; exact c c2
          rw [this, Bool.false_or]; exact BEq.comm
        · rw [if_neg c2]
          have : (i == gi g e.2) = false ∨ (gi g i == i) = true := by
            by_cases e3 : i = gi g e.2
            · exact .inr (by rw [e3, hb.2]; simp)
            · exact .inl (by simp [e3])
          rcases this with t | t <;> simp [t]
      · simp only [hi, if_false]
        have : (i == gi g e.2) = false := by rw [beq_eq_false_iff_ne]; omega
        rw [this]; rfl
    · simp only [hb.1, if_true]
      rw [gi_join h.1 e _ hb.1, hb.2, if_pos rfl, beq_eq_false_iff_ne]; exact c
theorem run_facts {n : Nat} : ∀ (es : List (Nat × Nat)) (g : List Nat), GOk n g → (∀ e ∈ es, e.1 < n ∧ e.2 < n) → GOk n (gAll g es) ∧ fixed n (gAll g es) + sucs g es = fixed n g
  | [], g, h, _ => ⟨h, by simp [gAll, sucs]⟩
  | e :: t, g, h, hl => by
    obtain ⟨h1, h2⟩ := hl e (by simp)
    have := run_facts t _ (h.join h1 h2) fun x hx => hl x (by simp [hx])
    refine ⟨this.1, ?_⟩
    have h3 := fixed_join h h1 h2
    have h4 := this.2
    show fixed n (gAll (joinF g e) t) + (_ + sucs (joinF g e) t) = _
    omega
theorem sucs_le : ∀ (es : List (Nat × Nat)) (g : List Nat), sucs g es ≤ es.length ∧ (okAll g es = true ↔ sucs g es = es.length)
  | [], g => by simp [sucs, okAll]
  | e :: t, g => by
    have := sucs_le t (joinF g e)
    rw [sucs, okAll, List.length_cons]
    by_cases c : gi g e.1 = gi g e.2
    · simp only [c, if_true]; refine ⟨by omega, ?_⟩; simp; omega
    · simp only [c, if_false]; refine ⟨by omega, ?_⟩; rw [this.2]; omega
theorem same_join {n : Nat} {g : List Nat} (h : g.length = n) (e : Nat × Nat) {i j : Nat} (hi : i < n) (hj : j < n) (hs : gi g i = gi g j) : gi (joinF g e) i = gi (joinF g e) j := by
  rw [gi_join h e i hi, gi_join h e j hj, hs]
theorem same_all {n : Nat} {i j : Nat} (hi : i < n) (hj : j < n) : ∀ (es : List (Nat × Nat)) (g : List Nat), g.length = n → gi g i = gi g j → gi (gAll g es) i = gi (gAll g es) j
  | [], g, _, hs => hs
  | e :: t, g, h, hs => same_all hi hj t (joinF g e) (by simp [joinF, h]) (same_join h e hi hj hs)
theorem edge_all {n : Nat} : ∀ (es : List (Nat × Nat)) (g : List Nat), g.length = n → (∀ e ∈ es, e.1 < n ∧ e.2 < n) → ∀ e ∈ es, gi (gAll g es) e.1 = gi (gAll g es) e.2
  | [], g, _, _, e, he => by simp at he
  | e :: t, g, h, hl, x, hx => by
    have hlen : (joinF g e).length = n := by simp [joinF, h]
    obtain ⟨h1, h2⟩ := hl e (by simp)
    rcases List.mem_cons.1 hx with rfl | hx
    · refine same_all h1 h2 t _ hlen ?_
      rw [gi_join h x _ h1, gi_join h x _ h2, if_pos rfl]
      split <;> rfl
    · exact edge_all t _ hlen (fun y hy => hl y (by simp [hy])) x hx
/-- Joined by a way. -/
inductive Con (es : List (Nat × Nat)) : Nat → Nat → Prop
  | refl (a : Nat) : Con es a a
  | edge {a b : Nat} : (a, b) ∈ es → Con es a b
  | symm {a b : Nat} : Con es a b → Con es b a
  | trans {a b c : Nat} : Con es a b → Con es b c → Con es a c
theorem con_join {n : Nat} {g : List Nat} {es : List (Nat × Nat)} (h : GOk n g) (hc : ∀ i j, i < n → j < n → gi g i = gi g j → Con es i j) {e : Nat × Nat} (he : e ∈ es) (h1 : e.1 < n) (h2 : e.2 < n) (i j : Nat) (hi : i < n) (hj : j < n)
    (hs : gi (joinF g e) i = gi (joinF g e) j) : Con es i j := by
  rw [gi_join h.1 e i hi, gi_join h.1 e j hj] at hs
  have hE : Con es e.1 e.2 := .edge he
  by_cases c1 : gi g i = gi g e.2 <;> by_cases c2 : gi g j = gi g e.2
  · exact hc i j hi hj (c1.trans c2.symm)
  · rw [if_pos c1, if_neg c2] at hs
    exact (hc i e.2 hi h2 c1).trans (hE.symm.trans (hc e.1 j h1 hj hs))
  · rw [if_neg c1, if_pos c2] at hs
    exact (hc i e.1 hi h1 hs).trans (hE.trans (hc e.2 j h2 hj c2.symm))
  · rw [if_neg c1, if_neg c2] at hs
    exact hc i j hi hj hs
theorem con_all {n : Nat} (es : List (Nat × Nat)) : ∀ (t : List (Nat × Nat)) (g : List Nat), GOk n g → (∀ i j, i < n → j < n → gi g i = gi g j → Con es i j) → (∀ e ∈ t, e ∈ es ∧ e.1 < n ∧ e.2 < n) → ∀ i j, i < n → j < n → gi (gAll g t) i = gi (gAll g t) j → Con es i j
  | [], g, _, hc, _ => hc
  | e :: t, g, h, hc, hl => by
    obtain ⟨h0, h1, h2⟩ := hl e (by simp)
    exact con_all es t _ (h.join h1 h2) (fun i j hi hj => con_join h hc h0 h1 h2 i j hi hj) fun x hx => hl x (by simp [hx])
/-- At the start. -/
theorem start_ok (n : Nat) : GOk n (List.range n) ∧ fixed n (List.range n) = n ∧ ∀ i, i < n → gi (List.range n) i = i := by
  have hg : ∀ i, i < n → gi (List.range n) i = i := fun i hi => by simp [gi, List.getD_eq_getElem?_getD, hi]
  refine ⟨⟨by simp, fun i hi => ?_⟩, ?_, hg⟩
  · rw [hg i hi, hg i hi]; exact ⟨hi, rfl⟩
  · unfold fixed
    rw [count_eq _ (fun _ => true) n fun i hi => by rw [hg i hi]; simp]
    simp
theorem count_two (p : Nat → Bool) (i j : Nat) (hij : i < j) (hi : p i = true) (hj : p j = true) : ∀ n, j < n → 2 ≤ (List.range n).countP p
  | 0, h => by omega
  | n + 1, h => by
    rw [List.range_succ, List.countP_append]
    by_cases e : j = n
    · subst e
      have h1 : 0 < (List.range j).countP p := List.countP_pos_iff.2 ⟨i, by simpa using hij, hi⟩
      have h2 : [j].countP p = 1 := by simp [hj]
      omega
    · have := count_two p i j hij hi hj n (by omega)
      omega
theorem fixed_one {n : Nat} {g : List Nat} (h : GOk n g) (h1 : fixed n g ≤ 1) {i j : Nat} (hi : i < n) (hj : j < n) : gi g i = gi g j := by
  have a := h.2 i hi
  have b := h.2 j hj
  rcases Nat.lt_trichotomy (gi g i) (gi g j) with c | c | c
  · have := count_two (fun i => gi g i == i) _ _ c (by simp [a.2]) (by simp [b.2]) n b.1
    unfold fixed at h1; omega
  · exact c
  · have := count_two (fun i => gi g i == i) _ _ c (by simp [b.2]) (by simp [a.2]) n a.1
    unfold fixed at h1; omega
theorem one_fixed {n : Nat} {g : List Nat} (_ : GOk n g) (hs : ∀ i, i < n → gi g 0 = gi g i) : fixed n g ≤ 1 := by
  unfold fixed
  have : ∀ m, m ≤ n → (List.range m).countP (fun i => gi g i == i) ≤ if gi g 0 < m then 1 else 0 := by
    intro m
    induction m with
    | zero => intro _; simp
    | succ m ih =>
      intro hm
      have := ih (by omega)
      rw [List.range_succ, List.countP_append]
      simp only [List.countP_cons, List.countP_nil]
      have e := hs m (by omega)
      by_cases c : gi g m = m
      · have t : (gi g m == m) = true := by simp [c]
        simp only [t, if_true]
        rw [if_neg (show ¬ gi g 0 < m by omega)] at this
        rw [if_pos (show gi g 0 < m + 1 by omega)]; omega
      · have t : (gi g m == m) = false := by simp [c]
        simp only [t]
        by_cases c2 : gi g 0 < m
        · rw [if_pos c2] at this
          rw [if_pos (show gi g 0 < m + 1 by omega)]; simp; omega
        · rw [if_neg c2] at this
          simp; split <;> omega
  have := this n (Nat.le_refl _)
  split at this <;> omega
/-- n - 1 joins: all succeed just where every post is joined with the first. -/
theorem tree_iff {n : Nat} (es : List (Nat × Nat)) (hn : 0 < n) (hl : es.length = n - 1) (hb : ∀ e ∈ es, e.1 < n ∧ e.2 < n) : okAll (List.range n) es = true ↔ ∀ i, i < n → Con es 0 i := by
  obtain ⟨s1, s2, s3⟩ := start_ok n
  obtain ⟨r1, r2⟩ := run_facts es _ s1 hb
  obtain ⟨q1, q2⟩ := sucs_le es (List.range n)
  rw [q2]
  constructor
  · intro h i hi
    refine con_all es es _ s1 (fun i j hi hj e => ?_) (fun e he => ⟨he, hb e he⟩) 0 i hn hi (fixed_one r1 (by omega) hn hi)
    rw [s3 i hi, s3 j hj] at e; subst e; exact .refl _
  · intro h
    have key : ∀ i j, Con es i j → (i < n ↔ j < n) ∧ (i < n → gi (gAll (List.range n) es) i = gi (gAll (List.range n) es) j) := by
      intro i j c
      induction c with
      | refl a => exact ⟨Iff.rfl, fun _ => rfl⟩
      | edge he => have := hb _ he; exact ⟨by simp [this.1, this.2], fun _ => edge_all es _ s1.1 hb _ he⟩
      | symm _ ih => exact ⟨ih.1.symm, fun hx => (ih.2 (ih.1.2 hx)).symm⟩
      | trans _ _ ih1 ih2 => exact ⟨ih1.1.trans ih2.1, fun hx => (ih1.2 hx).trans (ih2.2 (ih1.1.1 hx))⟩
    have := one_fixed r1 fun i hi => (key 0 i (h i hi)).2 hn
    have : fixed n (gAll (List.range n) es) ≥ 1 := by
      have := r1.2 0 hn
      exact List.countP_pos_iff.2 ⟨gi (gAll (List.range n) es) 0, by simpa using this.1, by simp [this.2]⟩
    omega
theorem ok_pair : ∀ (es : List (Nat × Nat)) (g : List Nat) (n : Nat), g.length = n → (∀ e ∈ es, e.1 < n ∧ e.2 < n) → okAll g es = true → es.Nodup ∧ ∀ e ∈ es, gi g e.1 ≠ gi g e.2
  | [], g, n, _, _, _ => by simp
  | e :: t, g, n, h, hl, ho => by
    obtain ⟨h1, h2⟩ := hl e (by simp)
    rw [okAll] at ho
    by_cases c : gi g e.1 = gi g e.2
    · simp [c] at ho
    · rw [if_neg c] at ho
      obtain ⟨p1, p2⟩ := ok_pair t _ n (by simp [joinF, h]) (fun x hx => hl x (by simp [hx])) ho
      refine ⟨List.nodup_cons.2 ⟨fun hm => p2 e hm ?_, p1⟩, fun x hx => ?_⟩
      · rw [gi_join h e _ h1, gi_join h e _ h2, if_pos rfl]; split <;> rfl
      · rcases List.mem_cons.1 hx with rfl | hx
        · exact c
        · obtain ⟨x1, x2⟩ := hl x (by simp [hx])
          exact fun e2 => p2 x hx (same_join h e x1 x2 e2)
end Go.Proofs.Ytiecphhenpapoaa
