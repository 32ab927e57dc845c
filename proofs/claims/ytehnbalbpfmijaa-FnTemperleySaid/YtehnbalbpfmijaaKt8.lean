/- What the claim's walk rests on: parts Arb, Join, Root, Queue, Rooted, LkIx, Groups. -/
import Derived.Test.YtehnbalbpfmijaaBasic
import Derived.Test.YtehnbalbpfmijaaRows
import Derived.Test.YtehnbalbpfmijaaKt1
import Derived.Test.YtehnbalbpfmijaaKt2
import Derived.Test.YtehnbalbpfmijaaKt7
import Derived.Deep.AppendSrc
import Derived.Deep.LoopGhost
namespace Go.Proofs.Ytehnbalbpfmijaa
set_option linter.unusedVariables false

def pad (v d : Int × Int) : Int × Int := (v.1 + d.1, v.2 + d.2)
def perp (d : Int × Int) : Int × Int := (d.2, d.1)
def neg (d : Int × Int) : Int × Int := (-d.1, -d.2)
def dirs4 : List (Int × Int) := [(1, 0), (0, 1), (-1, 0), (0, -1)]
theorem dirs4_iff (d : Int × Int) : d ∈ dirs4 ↔ d = (1, 0) ∨ d = (0, 1) ∨ d = (-1, 0) ∨ d = (0, -1) := by simp [dirs4]
/-- The sides of the edge from v along d. -/
def sideA (v d : Int × Int) : Int × Int := pad (pad v d) (perp d)
def sideB (v d : Int × Int) : Int × Int := pad (pad v d) (neg (perp d))
/-- The edges at a node with unlike sides are not one alone. -/
theorem even_two (S : Int × Int → Bool) (v d : Int × Int) (hd : d ∈ dirs4) (h : S (sideA v d) ≠ S (sideB v d)) : ∃ e, e ∈ dirs4 ∧ e ≠ d ∧ S (sideA v e) ≠ S (sideB v e) := by
  obtain ⟨x, y⟩ := v
  have e1 : sideA (x, y) (1, 0) = (x + 1, y + 1) := by simp [sideA, pad, perp]
  have e2 : sideB (x, y) (1, 0) = (x + 1, y - 1) := by simp [sideB, pad, perp, neg]; omega
  have e3 : sideA (x, y) (0, 1) = (x + 1, y + 1) := by simp [sideA, pad, perp]
  have e4 : sideB (x, y) (0, 1) = (x - 1, y + 1) := by simp [sideB, pad, perp, neg]; omega
  have e5 : sideA (x, y) (-1, 0) = (x - 1, y - 1) := by simp [sideA, pad, perp]; omega
  have e6 : sideB (x, y) (-1, 0) = (x - 1, y + 1) := by simp [sideB, pad, perp, neg]; omega
  have e7 : sideA (x, y) (0, -1) = (x - 1, y - 1) := by simp [sideA, pad, perp]; omega
  have e8 : sideB (x, y) (0, -1) = (x + 1, y - 1) := by simp [sideB, pad, perp, neg]; omega
  have n12 : ((1, 0) : Int × Int) ≠ (0, 1) := by decide
  have n13 : ((1, 0) : Int × Int) ≠ (-1, 0) := by decide
  have n14 : ((1, 0) : Int × Int) ≠ (0, -1) := by decide
  have n23 : ((0, 1) : Int × Int) ≠ (-1, 0) := by decide
  have n24 : ((0, 1) : Int × Int) ≠ (0, -1) := by decide
  have n34 : ((-1, 0) : Int × Int) ≠ (0, -1) := by decide
  have m1 : ((1, 0) : Int × Int) ∈ dirs4 := by decide
  have m2 : ((0, 1) : Int × Int) ∈ dirs4 := by decide
  have m3 : ((-1, 0) : Int × Int) ∈ dirs4 := by decide
  have m4 : ((0, -1) : Int × Int) ∈ dirs4 := by decide
  generalize ha : S (x + 1, y + 1) = a
  generalize hb : S (x + 1, y - 1) = b
  generalize hc : S (x - 1, y - 1) = c
  generalize hf : S (x - 1, y + 1) = f
  rcases (dirs4_iff d).1 hd with rfl | rfl | rfl | rfl
  · rw [e1, e2, ha, hb] at h
    by_cases q : a = f
    · by_cases q2 : c = f
      · refine ⟨(0, -1), m4, n14.symm, ?_⟩; rw [e7, e8, hc, hb, q2, ← q]; exact h
      · refine ⟨(-1, 0), m3, n13.symm, ?_⟩; rw [e5, e6, hc, hf]; exact q2
    · refine ⟨(0, 1), m2, n12.symm, ?_⟩; rw [e3, e4, ha, hf]; exact q
  · rw [e3, e4, ha, hf] at h
    by_cases q : a = b
    · by_cases q2 : c = f
      · refine ⟨(0, -1), m4, n24.symm, ?_⟩; rw [e7, e8, hc, hb, q2, ← q]; exact h.symm
      · refine ⟨(-1, 0), m3, n23.symm, ?_⟩; rw [e5, e6, hc, hf]; exact q2
    · refine ⟨(1, 0), m1, n12, ?_⟩; rw [e1, e2, ha, hb]; exact q
  · rw [e5, e6, hc, hf] at h
    by_cases q : a = f
    · by_cases q2 : c = b
      · refine ⟨(1, 0), m1, n13, ?_⟩; rw [e1, e2, ha, hb, q, ← q2]; exact h.symm
      · refine ⟨(0, -1), m4, n34.symm, ?_⟩; rw [e7, e8, hc, hb]; exact q2
    · refine ⟨(0, 1), m2, n23, ?_⟩; rw [e3, e4, ha, hf]; exact q
  · rw [e7, e8, hc, hb] at h
    by_cases q : a = b
    · by_cases q2 : c = f
      · refine ⟨(0, 1), m2, n24, ?_⟩; rw [e3, e4, ha, hf, q, ← q2]; exact h.symm
      · refine ⟨(-1, 0), m3, n34, ?_⟩; rw [e5, e6, hc, hf]; exact q2
    · refine ⟨(1, 0), m1, n14, ?_⟩; rw [e1, e2, ha, hb]; exact q
/-- Nodes of one parity that share an edge. -/
theorem two_ends {r : Int} {u v d e : Int × Int} (hu : u.1 % 2 = r ∧ u.2 % 2 = r) (hv : v.1 % 2 = r ∧ v.2 % 2 = r) (hd : d ∈ dirs4) (he : e ∈ dirs4) (h : pad u d = pad v e) : (u = v ∧ d = e) ∨ (u = pad (pad v e) e ∧ d = neg e ∧ v = pad (pad u d) d) := by
  obtain ⟨u1, u2⟩ := u
  obtain ⟨v1, v2⟩ := v
  obtain ⟨h1, h2⟩ := hu
  obtain ⟨h3, h4⟩ := hv
  rcases (dirs4_iff d).1 hd with rfl | rfl | rfl | rfl <;> rcases (dirs4_iff e).1 he with rfl | rfl | rfl | rfl <;>
    simp [pad, neg] at h h1 h2 h3 h4 ⊢ <;> omega
theorem side_neg {v e : Int × Int} : sideA (pad (pad v e) e) (neg e) = sideB v e ∧ sideB (pad (pad v e) e) (neg e) = sideA v e := by
  obtain ⟨x, y⟩ := v
  obtain ⟨a, b⟩ := e
  constructor <;> simp [sideA, sideB, pad, neg, perp] <;> omega
/-- No edge of the rooted nodes has unlike sides, where all edges with unlike sides are owned. -/
theorem peel (V T : Int × Int → Prop) (d : Int × Int → Int × Int) (rk : Int × Int → Nat) (M : Nat) (r : Int)
    (hV : ∀ v, V v → v.1 % 2 = r ∧ v.2 % 2 = r) (hd : ∀ v, V v → d v ∈ dirs4)
    (pre : ∀ u, V u → V (pad (pad u (d u)) (d u)) → T (pad (pad u (d u)) (d u)) → T u)
    (hr : ∀ u, V u → T u → V (pad (pad u (d u)) (d u)) → rk (pad (pad u (d u)) (d u)) < rk u)
    (hM : ∀ u, V u → T u → rk u ≤ M) (S : Int × Int → Bool)
    (own : ∀ v e, v.1 % 2 = r → v.2 % 2 = r → e ∈ dirs4 → S (sideA v e) ≠ S (sideB v e) → ∃ u, V u ∧ pad u (d u) = pad v e) :
    ∀ v, V v → T v → S (sideA v (d v)) = S (sideB v (d v)) := by
  have key : ∀ j v, V v → T v → M < rk v + j → S (sideA v (d v)) = S (sideB v (d v)) := by
    intro j
    induction j with
    | zero => intro v h1 h2 h3; have := hM v h1 h2; omega
    | succ j ih =>
      intro v h1 h2 h3
      refine Decidable.byContradiction fun h => ?_
      obtain ⟨e, he1, he2, he3⟩ := even_two S v (d v) (hd v h1) h
      obtain ⟨u, hu, hue⟩ := own v e (hV v h1).1 (hV v h1).2 he1 he3
      rcases two_ends (hV u hu) (hV v h1) (hd u hu) he1 hue with ⟨rfl, q⟩ | ⟨q1, q2, q3⟩
      · exact he2 q.symm
      · have hvu : V (pad (pad u (d u)) (d u)) := by rw [← q3]; exact h1
        have htu : T u := pre u hu hvu (by rw [← q3]; exact h2)
        have hru := hr u hu htu hvu
        rw [← q3] at hru
        have hS := ih u hu htu (by omega)
        rw [q2, q1, side_neg.1, side_neg.2] at hS
        exact he3 hS.symm
  intro v h1 h2
  exact key (M + 1) v h1 h2 (by omega)

/-! ### Counting -/
theorem sub_len {α : Type} [DecidableEq α] : ∀ (L E : List α), L.Nodup → (∀ x ∈ L, x ∈ E) → L.length ≤ E.length
  | [], _, _, _ => Nat.zero_le _
  | a :: L, E, hn, hs => by
    have h1 := List.nodup_cons.1 hn
    have ha := hs a (by simp)
    have := sub_len L (E.erase a) h1.2 fun x hx => (List.mem_erase_of_ne (fun (e : x = a) => h1.1 (by rw [← e]; exact hx))).2 (hs x (by simp [hx]))
    rw [List.length_erase_of_mem ha] at this
    have := List.length_pos_of_mem ha
    simp; omega
theorem all_hit {α : Type} [DecidableEq α] {L E : List α} (hn : L.Nodup) (hs : ∀ x ∈ L, x ∈ E) (hl : E.length ≤ L.length) {e : α} (he : e ∈ E) : e ∈ L := by
  refine Decidable.byContradiction fun h => ?_
  have := sub_len (e :: L) E (List.nodup_cons.2 ⟨h, hn⟩) fun x hx => by
    rcases List.mem_cons.1 hx with rfl | hx
    · exact he
    · exact hs x hx
  simp at this; omega
theorem map_nodup {α β : Type} {f : α → β} : ∀ {V : List α}, V.Nodup → (∀ u ∈ V, ∀ v ∈ V, f u = f v → u = v) → (V.map f).Nodup
  | [], _, _ => List.nodup_nil
  | a :: V, hn, hi => by
    have h1 := List.nodup_cons.1 hn
    rw [List.map_cons, List.nodup_cons]
    refine ⟨fun hm => ?_, map_nodup h1.2 fun u hu v hv => hi u (by simp [hu]) v (by simp [hv])⟩
    obtain ⟨b, hb, e⟩ := List.mem_map.1 hm
    have := hi b (by simp [hb]) a (by simp) e
    exact h1.1 (this ▸ hb)
/-- Where edges are as many as nodes, there is one rooting at most. -/
theorem one_rooting {α β : Type} [DecidableEq β] (V : List α) (E : List β) (hn : V.Nodup) (hl : E.length ≤ V.length) (e1 e2 : α → β) (h1 : ∀ v ∈ V, e1 v ∈ E) (h2 : ∀ v ∈ V, e2 v ∈ E)
    (i1 : ∀ u ∈ V, ∀ v ∈ V, e1 u = e1 v → u = v) (i2 : ∀ u ∈ V, ∀ v ∈ V, e2 u = e2 v → u = v) (rk : α → Nat) (hd : ∀ v ∈ V, ∀ u ∈ V, u ≠ v → e1 v = e2 u → rk u < rk v) : ∀ v ∈ V, e1 v = e2 v := by
  have key : ∀ n v, v ∈ V → rk v < n → e1 v = e2 v := by
    intro n
    induction n with
    | zero => intro v _ h; omega
    | succ n ih =>
      intro v hv hr
      obtain ⟨u, hu, he⟩ := List.mem_map.1 (all_hit (map_nodup hn i2) (fun x hx => by obtain ⟨w, hw, rfl⟩ := List.mem_map.1 hx; exact h2 w hw) (by rw [List.length_map]; exact hl) (h1 v hv))
      by_cases huv : u = v
      · subst huv; exact he.symm
      · have hlt := hd v hv u hu huv he.symm
        have := ih u hu (by omega)
        exact absurd (i1 u hu v hv (this.trans he)) huv
  intro v hv
  exact key (rk v + 1) v hv (by omega)
end Go.Proofs.Ytehnbalbpfmijaa

namespace Go.Proofs.Ytehnbalbpfmijaa
/-! ### Groups -/
def gi (g : List Nat) (i : Nat) : Nat := g.getD i 0
def joinF (g : List Nat) (e : Nat × Nat) : List Nat := g.map fun x => if x = gi g e.2 then gi g e.1 else x
/-- All joins are of posts in two groups. -/
def okAll : List Nat → List (Nat × Nat) → Bool
  | _, [] => true
  | g, e :: t => if gi g e.1 = gi g e.2 then false else okAll (joinF g e) t
def gAll (g : List Nat) (es : List (Nat × Nat)) : List Nat := es.foldl joinF g
def sucs : List Nat → List (Nat × Nat) → Nat
  | _, [] => 0
  | g, e :: t => (if gi g e.1 = gi g e.2 then 0 else 1) + sucs (joinF g e) t
def GOk (n : Nat) (g : List Nat) : Prop := g.length = n ∧ ∀ i, i < n → gi g i < n ∧ gi g (gi g i) = gi g i
def fixed (n : Nat) (g : List Nat) : Nat := (List.range n).countP fun i => gi g i == i
theorem gi_join {n : Nat} {g : List Nat} (h : g.length = n) (e : Nat × Nat) (i : Nat) (hi : i < n) : gi (joinF g e) i = if gi g i = gi g e.2 then gi g e.1 else gi g i := by
  simp [gi, joinF, List.getD_eq_getElem?_getD, show i < g.length by omega]
theorem GOk.join {n : Nat} {g : List Nat} (h : GOk n g) {e : Nat × Nat} (h1 : e.1 < n) (h2 : e.2 < n) : GOk n (joinF g e) := by
  refine ⟨by simp [joinF, h.1], fun i hi => ?_⟩
  have ha := h.2 _ h1
  have hb := h.2 _ h2
  have hc := h.2 _ hi
  rw [gi_join h.1 e i hi]
  by_cases c : gi g i = gi g e.2
  · rw [if_pos c, gi_join h.1 e _ ha.1, ha.2]
    refine ⟨ha.1, ?_⟩
    split <;> rfl
  · rw [if_neg c, gi_join h.1 e _ hc.1, hc.2, if_neg c]
    exact ⟨hc.1, rfl⟩
theorem count_split (p q : Nat → Bool) (v : Nat) (h : ∀ i, p i = (q i || i == v)) (hq : q v = false) : ∀ n, (List.range n).countP p = (List.range n).countP q + if v < n then 1 else 0
  | 0 => by simp
  | n + 1 => by
    rw [List.range_succ, List.countP_append, List.countP_append, count_split p q v h hq n]
    simp only [List.countP_cons, List.countP_nil]
    rw [h n]
    by_cases e : n = v
    · subst e; simp [hq]
    · have : (n == v) = false := by simp [e]
      rw [this, Bool.or_false]
      by_cases c : v < n
      · simp [c, show v < n + 1 by omega]; omega
      · simp [c, show ¬ v < n + 1 by omega]
theorem count_eq (p q : Nat → Bool) : ∀ n, (∀ i, i < n → p i = q i) → (List.range n).countP p = (List.range n).countP q
  | 0, _ => by simp
  | n + 1, h => by
    rw [List.range_succ, List.countP_append, List.countP_append, count_eq p q n fun i hi => h i (by omega)]
    simp [List.countP_cons, h n (by omega)]
theorem fixed_join {n : Nat} {g : List Nat} (h : GOk n g) {e : Nat × Nat} (h1 : e.1 < n) (h2 : e.2 < n) : fixed n (joinF g e) + (if gi g e.1 = gi g e.2 then 0 else 1) = fixed n g := by
  by_cases c : gi g e.1 = gi g e.2
  · rw [if_pos c]
    unfold fixed
    rw [Nat.add_zero]
    refine count_eq _ _ n fun i hi => ?_
    rw [gi_join h.1 e i hi, c]
    split
    · rename_i e2; rw [e2]
    · rfl
  · rw [if_neg c]
    have ha := h.2 _ h1
    have hb := h.2 _ h2
    unfold fixed
    have := count_split (fun i => if i < n then gi g i == i else false) (fun i => if i < n then gi (joinF g e) i == i else false) (gi g e.2) (fun i => ?_) ?_ n
    · rw [if_pos hb.1] at this
      rw [count_eq (fun i => gi (joinF g e) i == i) (fun i => if i < n then gi (joinF g e) i == i else false) n (fun i hi => by simp [hi]),
        count_eq (fun i => gi g i == i) (fun i => if i < n then gi g i == i else false) n (fun i hi => by simp [hi])]
      exact this.symm
    · by_cases hi : i < n
      · simp only [hi, if_true]
        rw [gi_join h.1 e i hi]
        have hc := h.2 _ hi
        by_cases c2 : gi g i = gi g e.2
        · rw [if_pos c2, c2]
          have : (gi g e.1 == i) = false := by
            rw [beq_eq_false_iff_ne]; intro e3
            rw [← e3, ha.2] at c2; exact c c2
          rw [this, Bool.false_or]; exact BEq.comm
        · rw [if_neg c2]
          have : (i == gi g e.2) = false ∨ (gi g i == i) = true := by
            by_cases e3 : i = gi g e.2
            · exact .inr (by rw [e3, hb.2]; simp)
            · exact .inl (by simp [e3])
          rcases this with t | t <;> simp [t]
      · simp only [hi, if_false]
        have : (i == gi g e.2) = false := by rw [beq_eq_false_iff_ne]; omega
        rw [this]; rfl
    · simp only [hb.1, if_true]
      rw [gi_join h.1 e _ hb.1, hb.2, if_pos rfl, beq_eq_false_iff_ne]; exact c
theorem run_facts {n : Nat} : ∀ (es : List (Nat × Nat)) (g : List Nat), GOk n g → (∀ e ∈ es, e.1 < n ∧ e.2 < n) → GOk n (gAll g es) ∧ fixed n (gAll g es) + sucs g es = fixed n g
  | [], g, h, _ => ⟨h, by simp [gAll, sucs]⟩
  | e :: t, g, h, hl => by
    obtain ⟨h1, h2⟩ := hl e (by simp)
    have := run_facts t _ (h.join h1 h2) fun x hx => hl x (by simp [hx])
    refine ⟨this.1, ?_⟩
    have h3 := fixed_join h h1 h2
    have h4 := this.2
    show fixed n (gAll (joinF g e) t) + (_ + sucs (joinF g e) t) = _
    omega
theorem sucs_le : ∀ (es : List (Nat × Nat)) (g : List Nat), sucs g es ≤ es.length ∧ (okAll g es = true ↔ sucs g es = es.length)
  | [], g => by simp [sucs, okAll]
  | e :: t, g => by
    have := sucs_le t (joinF g e)
    rw [sucs, okAll, List.length_cons]
    by_cases c : gi g e.1 = gi g e.2
    · simp only [c, if_true]; refine ⟨by omega, ?_⟩; simp; omega
    · simp only [c, if_false]; refine ⟨by omega, ?_⟩; rw [this.2]; omega
theorem same_join {n : Nat} {g : List Nat} (h : g.length = n) (e : Nat × Nat) {i j : Nat} (hi : i < n) (hj : j < n) (hs : gi g i = gi g j) : gi (joinF g e) i = gi (joinF g e) j := by
  rw [gi_join h e i hi, gi_join h e j hj, hs]
theorem same_all {n : Nat} {i j : Nat} (hi : i < n) (hj : j < n) : ∀ (es : List (Nat × Nat)) (g : List Nat), g.length = n → gi g i = gi g j → gi (gAll g es) i = gi (gAll g es) j
  | [], g, _, hs => hs
  | e :: t, g, h, hs => same_all hi hj t (joinF g e) (by simp [joinF, h]) (same_join h e hi hj hs)
theorem edge_all {n : Nat} : ∀ (es : List (Nat × Nat)) (g : List Nat), g.length = n → (∀ e ∈ es, e.1 < n ∧ e.2 < n) → ∀ e ∈ es, gi (gAll g es) e.1 = gi (gAll g es) e.2
  | [], g, _, _, e, he => by simp at he
  | e :: t, g, h, hl, x, hx => by
    have hlen : (joinF g e).length = n := by simp [joinF, h]
    obtain ⟨h1, h2⟩ := hl e (by simp)
    rcases List.mem_cons.1 hx with rfl | hx
    · refine same_all h1 h2 t _ hlen ?_
      rw [gi_join h x _ h1, gi_join h x _ h2, if_pos rfl]
      split <;> rfl
    · exact edge_all t _ hlen (fun y hy => hl y (by simp [hy])) x hx
/-- Joined by a way. -/
inductive Con (es : List (Nat × Nat)) : Nat → Nat → Prop
  | refl (a : Nat) : Con es a a
  | edge {a b : Nat} : (a, b) ∈ es → Con es a b
  | symm {a b : Nat} : Con es a b → Con es b a
  | trans {a b c : Nat} : Con es a b → Con es b c → Con es a c
theorem con_join {n : Nat} {g : List Nat} {es : List (Nat × Nat)} (h : GOk n g) (hc : ∀ i j, i < n → j < n → gi g i = gi g j → Con es i j) {e : Nat × Nat} (he : e ∈ es) (h1 : e.1 < n) (h2 : e.2 < n) (i j : Nat) (hi : i < n) (hj : j < n)
    (hs : gi (joinF g e) i = gi (joinF g e) j) : Con es i j := by
  rw [gi_join h.1 e i hi, gi_join h.1 e j hj] at hs
  have hE : Con es e.1 e.2 := .edge he
  by_cases c1 : gi g i = gi g e.2 <;> by_cases c2 : gi g j = gi g e.2
  · exact hc i j hi hj (c1.trans c2.symm)
  · rw [if_pos c1, if_neg c2] at hs
    exact (hc i e.2 hi h2 c1).trans (hE.symm.trans (hc e.1 j h1 hj hs))
  · rw [if_neg c1, if_pos c2] at hs
    exact (hc i e.1 hi h1 hs).trans (hE.trans (hc e.2 j h2 hj c2.symm))
  · rw [if_neg c1, if_neg c2] at hs
    exact hc i j hi hj hs
theorem con_all {n : Nat} (es : List (Nat × Nat)) : ∀ (t : List (Nat × Nat)) (g : List Nat), GOk n g → (∀ i j, i < n → j < n → gi g i = gi g j → Con es i j) → (∀ e ∈ t, e ∈ es ∧ e.1 < n ∧ e.2 < n) → ∀ i j, i < n → j < n → gi (gAll g t) i = gi (gAll g t) j → Con es i j
  | [], g, _, hc, _ => hc
  | e :: t, g, h, hc, hl => by
    obtain ⟨h0, h1, h2⟩ := hl e (by simp)
    exact con_all es t _ (h.join h1 h2) (fun i j hi hj => con_join h hc h0 h1 h2 i j hi hj) fun x hx => hl x (by simp [hx])
/-- At the start. -/
theorem start_ok (n : Nat) : GOk n (List.range n) ∧ fixed n (List.range n) = n ∧ ∀ i, i < n → gi (List.range n) i = i := by
  have hg : ∀ i, i < n → gi (List.range n) i = i := fun i hi => by simp [gi, List.getD_eq_getElem?_getD, hi]
  refine ⟨⟨by simp, fun i hi => ?_⟩, ?_, hg⟩
  · rw [hg i hi, hg i hi]; exact ⟨hi, rfl⟩
  · unfold fixed
    rw [count_eq _ (fun _ => true) n fun i hi => by rw [hg i hi]; simp]
    simp
theorem count_two (p : Nat → Bool) (i j : Nat) (hij : i < j) (hi : p i = true) (hj : p j = true) : ∀ n, j < n → 2 ≤ (List.range n).countP p
  | 0, h => by omega
  | n + 1, h => by
    rw [List.range_succ, List.countP_append]
    by_cases e : j = n
    · subst e
      have h1 : 0 < (List.range j).countP p := List.countP_pos_iff.2 ⟨i, by simpa using hij, hi⟩
      have h2 : [j].countP p = 1 := by simp [hj]
      omega
    · have := count_two p i j hij hi hj n (by omega)
      omega
theorem fixed_one {n : Nat} {g : List Nat} (h : GOk n g) (h1 : fixed n g ≤ 1) {i j : Nat} (hi : i < n) (hj : j < n) : gi g i = gi g j := by
  have a := h.2 i hi
  have b := h.2 j hj
  rcases Nat.lt_trichotomy (gi g i) (gi g j) with c | c | c
  · have := count_two (fun i => gi g i == i) _ _ c (by simp [a.2]) (by simp [b.2]) n b.1
    unfold fixed at h1; omega
  · exact c
  · have := count_two (fun i => gi g i == i) _ _ c (by simp [b.2]) (by simp [a.2]) n a.1
    unfold fixed at h1; omega
theorem one_fixed {n : Nat} {g : List Nat} (_ : GOk n g) (hs : ∀ i, i < n → gi g 0 = gi g i) : fixed n g ≤ 1 := by
  unfold fixed
  have : ∀ m, m ≤ n → (List.range m).countP (fun i => gi g i == i) ≤ if gi g 0 < m then 1 else 0 := by
    intro m
    induction m with
    | zero => intro _; simp
    | succ m ih =>
      intro hm
      have := ih (by omega)
      rw [List.range_succ, List.countP_append]
      simp only [List.countP_cons, List.countP_nil]
      have e := hs m (by omega)
      by_cases c : gi g m = m
      · have t : (gi g m == m) = true := by simp [c]
        simp only [t, if_true]
        rw [if_neg (show ¬ gi g 0 < m by omega)] at this
        rw [if_pos (show gi g 0 < m + 1 by omega)]; omega
      · have t : (gi g m == m) = false := by simp [c]
        simp only [t]
        by_cases c2 : gi g 0 < m
        · rw [if_pos c2] at this
          rw [if_pos (show gi g 0 < m + 1 by omega)]; simp; omega
        · rw [if_neg c2] at this
          simp; split <;> omega
  have := this n (Nat.le_refl _)
  split at this <;> omega
/-- n - 1 joins: all succeed just where every post is joined with the first. -/
theorem tree_iff {n : Nat} (es : List (Nat × Nat)) (hn : 0 < n) (hl : es.length = n - 1) (hb : ∀ e ∈ es, e.1 < n ∧ e.2 < n) : okAll (List.range n) es = true ↔ ∀ i, i < n → Con es 0 i := by
  obtain ⟨s1, s2, s3⟩ := start_ok n
  obtain ⟨r1, r2⟩ := run_facts es _ s1 hb
  obtain ⟨q1, q2⟩ := sucs_le es (List.range n)
  rw [q2]
  constructor
  · intro h i hi
    refine con_all es es _ s1 (fun i j hi hj e => ?_) (fun e he => ⟨he, hb e he⟩) 0 i hn hi (fixed_one r1 (by omega) hn hi)
    rw [s3 i hi, s3 j hj] at e; subst e; exact .refl _
  · intro h
    have key : ∀ i j, Con es i j → (i < n ↔ j < n) ∧ (i < n → gi (gAll (List.range n) es) i = gi (gAll (List.range n) es) j) := by
      intro i j c
      induction c with
      | refl a => exact ⟨Iff.rfl, fun _ => rfl⟩
      | edge he => have := hb _ he; exact ⟨by simp [this.1, this.2], fun _ => edge_all es _ s1.1 hb _ he⟩
      | symm _ ih => exact ⟨ih.1.symm, fun hx => (ih.2 (ih.1.2 hx)).symm⟩
      | trans _ _ ih1 ih2 => exact ⟨ih1.1.trans ih2.1, fun hx => (ih1.2 hx).trans (ih2.2 (ih1.1.1 hx))⟩
    have := one_fixed r1 fun i hi => (key 0 i (h i hi)).2 hn
    have : fixed n (gAll (List.range n) es) ≥ 1 := by
      have := r1.2 0 hn
      exact List.countP_pos_iff.2 ⟨gi (gAll (List.range n) es) 0, by simpa using this.1, by simp [this.2]⟩
    omega
theorem ok_pair : ∀ (es : List (Nat × Nat)) (g : List Nat) (n : Nat), g.length = n → (∀ e ∈ es, e.1 < n ∧ e.2 < n) → okAll g es = true → es.Nodup ∧ ∀ e ∈ es, gi g e.1 ≠ gi g e.2
  | [], g, n, _, _, _ => by simp
  | e :: t, g, n, h, hl, ho => by
    obtain ⟨h1, h2⟩ := hl e (by simp)
    rw [okAll] at ho
    by_cases c : gi g e.1 = gi g e.2
    · simp [c] at ho
    · rw [if_neg c] at ho
      obtain ⟨p1, p2⟩ := ok_pair t _ n (by simp [joinF, h]) (fun x hx => hl x (by simp [hx])) ho
      refine ⟨List.nodup_cons.2 ⟨fun hm => p2 e hm ?_, p1⟩, fun x hx => ?_⟩
      · rw [gi_join h e _ h1, gi_join h e _ h2, if_pos rfl]; split <;> rfl
      · rcases List.mem_cons.1 hx with rfl | hx
        · exact c
        · obtain ⟨x1, x2⟩ := hl x (by simp [hx])
          exact fun e2 => p2 x hx (same_join h e x1 x2 e2)
end Go.Proofs.Ytehnbalbpfmijaa

namespace Go.Proofs.Ytehnbalbpfmijaa
/-- The other ends of all links at i are reached. -/
def Clo (es : List (Nat × Nat)) (zs : List Int) (i : Nat) : Prop := ∀ e ∈ es, (e.1 = i → 0 ≤ el zs e.2) ∧ (e.2 = i → 0 ≤ el zs e.1)
/-- Each post that is reached, but the first, knows a neighbour nearer to the first. -/
def WayZ (n : Nat) (es : List (Nat × Nat)) (zs : List Int) : Prop := ∃ r : Nat → Nat, ∀ i, i < n → i ≠ 0 → 0 ≤ el zs i → ∃ j : Nat, el zs i = (j : Int) ∧ j < n ∧ 0 ≤ el zs j ∧ r j < r i ∧ ((i, j) ∈ es ∨ (j, i) ∈ es)
/-- While the way back is laid: own is looked at, its first k links are done. -/
structure RIn (n : Nat) (es : List (Nat × Nat)) (zs : List Int) (q : List Nat) (own k : Nat) : Prop where
  len : zs.length = n
  low : ∀ i, i < n → -1 ≤ el zs i
  zero : 0 ≤ el zs 0
  con : ∀ i, i < n → 0 ≤ el zs i → Con es 0 i
  que : ∀ x ∈ q, x < n ∧ 0 ≤ el zs x
  clo : ∀ i, i < n → 0 ≤ el zs i → i ∈ q ∨ Clo es zs i ∨ (i = own ∧ Clo (es.take k) zs i)
  own : own < n ∧ 0 ≤ el zs own
  way : WayZ n es zs
/-- Between two of them. -/
structure ROut (n : Nat) (es : List (Nat × Nat)) (zs : List Int) (q : List Nat) : Prop where
  len : zs.length = n
  low : ∀ i, i < n → -1 ≤ el zs i
  zero : 0 ≤ el zs 0
  con : ∀ i, i < n → 0 ≤ el zs i → Con es 0 i
  que : ∀ x ∈ q, x < n ∧ 0 ≤ el zs x
  clo : ∀ i, i < n → 0 ≤ el zs i → i ∈ q ∨ Clo es zs i
  way : WayZ n es zs
theorem el_setI (zs : List Int) (t : Nat) (z : Int) (ht : t < zs.length) (i : Nat) : el (zs.set t z) i = if i = t then z else el zs i := by
  by_cases e : i = t
  · subst e; simp [el, ht]
  · simp [el, List.getElem?_set_ne (Ne.symm e), e]
/-- How many are not reached. -/
def unr (n : Nat) (zs : List Int) : Nat := (List.range n).countP fun i => decide (el zs i < 0)
theorem unr_set {n : Nat} {zs : List Int} (h : zs.length = n) {t : Nat} {z : Int} (ht : t < n) (h1 : el zs t < 0) (h2 : 0 ≤ z) : unr n (zs.set t z) + 1 = unr n zs := by
  unfold unr
  have := count_split (fun i => decide (el zs i < 0)) (fun i => decide (el (zs.set t z) i < 0)) t (fun i => ?_) ?_ n
  · rw [if_pos ht] at this; exact this.symm
  · rw [el_setI zs t z (by omega) i]
    by_cases e : i = t
    · subst e; simp [h1]
    · simp [e]
  · rw [el_setI zs t z (by omega) t, if_pos rfl]; simp; omega
theorem unr_le (n : Nat) (zs : List Int) : unr n zs ≤ n := by
  unfold unr
  have := List.countP_le_length (p := fun i => decide (el zs i < 0)) (l := List.range n)
  simpa using this
theorem ROut.start {n : Nat} (hn : 0 < n) (es : List (Nat × Nat)) : ROut n es ((List.replicate n (-1)).set 0 0) [0] := by
  have hl : (List.replicate n (-1 : Int)).length = n := by simp
  have he : ∀ i, i < n → el ((List.replicate n (-1)).set 0 0) i = if i = 0 then 0 else -1 := fun i hi => by
    rw [el_setI _ _ _ (by omega)]
    simp [el, hi]
  refine ⟨by simp, fun i hi => ?_, ?_, fun i hi h => ?_, fun x hx => ?_, fun i hi h => ?_, ⟨fun _ => 0, fun i hi h0 hr => by rw [he i hi, if_neg h0] at hr; omega⟩⟩
  · rw [he i hi]; split <;> omega
  · rw [he 0 hn]; simp
  · rw [he i hi] at h
    have : i = 0 := by
      by_cases e : i = 0
      · exact e
      · rw [if_neg e] at h; omega
    subst this; exact .refl _
  · simp at hx; subst hx; exact ⟨hn, by rw [he 0 hn]; simp⟩
  · rw [he i hi] at h
    have : i = 0 := by
      by_cases e : i = 0
      · exact e
      · rw [if_neg e] at h; omega
    subst this; exact .inl (by simp)
/-- The next one is taken. -/
theorem ROut.pop {n : Nat} {es : List (Nat × Nat)} {zs : List Int} {own : Nat} {q : List Nat} (h : ROut n es zs (own :: q)) : RIn n es zs q own 0 := by
  refine ⟨h.len, h.low, h.zero, h.con, fun x hx => h.que x (by simp [hx]), fun i hi hr => ?_, h.que own (by simp), h.way⟩
  rcases h.clo i hi hr with hm | hm
  · rcases List.mem_cons.1 hm with rfl | hm
    · exact .inr (.inr ⟨rfl, fun e he => by simp at he⟩)
    · exact .inl hm
  · exact .inr (.inl hm)
theorem RIn.done {n : Nat} {es : List (Nat × Nat)} {zs : List Int} {own : Nat} {q : List Nat} {k : Nat} (h : RIn n es zs q own k) (hk : es.length ≤ k) : ROut n es zs q := by
  refine ⟨h.len, h.low, h.zero, h.con, h.que, fun i hi hr => ?_, h.way⟩
  rcases h.clo i hi hr with hm | hm | ⟨_, hm⟩
  · exact .inl hm
  · exact .inr hm
  · rw [List.take_of_length_le hk] at hm; exact .inr hm
/-- The end of a link that is not own. -/
def tgt (own : Nat) (e : Nat × Nat) : Nat := if e.2 = own then e.1 else e.2
theorem take_mem {α : Type} {es : List α} {k : Nat} (hk : k < es.length) {e : α} (he : e ∈ es.take (k + 1)) : e ∈ es.take k ∨ e = es[k] := by
  rw [List.take_succ_eq_append_getElem hk, List.mem_append] at he
  rcases he with he | he
  · exact .inl he
  · exact .inr (by simpa only [List.mem_singleton] using he)
/-- A link that changes nothing. -/
theorem RIn.skip {n : Nat} {es : List (Nat × Nat)} {zs : List Int} {own : Nat} {q : List Nat} {k : Nat} (h : RIn n es zs q own k) (hk : k < es.length) (hs : (es[k].1 = own → 0 ≤ el zs es[k].2) ∧ (es[k].2 = own → 0 ≤ el zs es[k].1)) : RIn n es zs q own (k + 1) := by
  refine ⟨h.len, h.low, h.zero, h.con, h.que, fun i hi hr => ?_, h.own, h.way⟩
  rcases h.clo i hi hr with hm | hm | ⟨rfl, hm⟩
  · exact .inl hm
  · exact .inr (.inl hm)
  · refine .inr (.inr ⟨rfl, fun e he => ?_⟩)
    rcases take_mem hk he with he | rfl
    · exact hm e he
    · exact hs
/-- A link that reaches a new post. -/
theorem RIn.reach {n : Nat} {es : List (Nat × Nat)} {zs : List Int} {own : Nat} {q : List Nat} {k t : Nat} (h : RIn n es zs q own k) (hk : k < es.length) (ht : t < n) (hne : es[k].1 ≠ es[k].2)
    (hs : (es[k].1 = own ∧ es[k].2 = t) ∨ (es[k].2 = own ∧ es[k].1 = t)) (hlt : el zs t < 0) : RIn n es (zs.set t (own : Int)) (q ++ [t]) own (k + 1) := by
  have hl : t < zs.length := by rw [h.len]; exact ht
  have hup : ∀ i, 0 ≤ el zs i → 0 ≤ el (zs.set t (own : Int)) i := fun i hi => by rw [el_setI _ _ _ hl]; split <;> omega
  have hclo : ∀ es' i, Clo es' zs i → Clo es' (zs.set t (own : Int)) i := fun es' i hc e he => ⟨fun q => hup _ ((hc e he).1 q), fun q => hup _ ((hc e he).2 q)⟩
  have hct : Con es own t := by
    rcases hs with ⟨h1, h2⟩ | ⟨h1, h2⟩
    · exact .edge (by rw [← h1, ← h2]; exact List.getElem_mem hk)
    · exact .symm (.edge (by rw [← h1, ← h2]; exact List.getElem_mem hk))
  have htr : 0 ≤ el (zs.set t (own : Int)) t := by rw [el_setI _ _ _ hl, if_pos rfl]; omega
  refine ⟨by rw [List.length_set]; exact h.len, fun i hi => ?_, hup 0 h.zero, fun i hi hr => ?_, fun x hx => ?_, fun i hi hr => ?_, ⟨h.own.1, hup _ h.own.2⟩, ?_⟩
  · rw [el_setI _ _ _ hl]
    split
    · omega
    · exact h.low i hi
  · by_cases e : i = t
    · subst e; exact .trans (h.con own h.own.1 h.own.2) hct
    · rw [el_setI _ _ _ hl, if_neg e] at hr; exact h.con i hi hr
  · rcases List.mem_append.1 hx with hx | hx
    · exact ⟨(h.que x hx).1, hup _ (h.que x hx).2⟩
    · simp at hx; subst hx; exact ⟨ht, htr⟩
  · by_cases e : i = t
    · exact .inl (by simp [e])
    · rw [el_setI _ _ _ hl, if_neg e] at hr
      rcases h.clo i hi hr with hm | hm | ⟨rfl, hm⟩
      · exact .inl (by simp [hm])
      · exact .inr (.inl (hclo _ _ hm))
      · refine .inr (.inr ⟨rfl, fun e he => ?_⟩)
        rcases take_mem hk he with he | rfl
        · exact hclo _ _ hm e he
        · rcases hs with ⟨h1, h2⟩ | ⟨h1, h2⟩
          · exact ⟨fun _ => by rw [h2]; exact htr, fun q => absurd (h1.trans q.symm) hne⟩
          · exact ⟨fun q => absurd (q.trans h1.symm) hne, fun _ => by rw [h2]; exact htr⟩
  · obtain ⟨r, hr⟩ := h.way
    have hot : own ≠ t := fun e => by have := h.own.2; rw [e] at this; omega
    refine ⟨fun i => if i = t then r own + 1 else r i, fun i hi h0 hp => ?_⟩
    by_cases e : i = t
    · subst e
      refine ⟨own, by rw [el_setI _ _ _ hl, if_pos rfl], h.own.1, hup _ h.own.2, by simp [hot], ?_⟩
      rcases hs with ⟨h1, h2⟩ | ⟨h1, h2⟩
      · exact .inr (by rw [← h1, ← h2]; exact List.getElem_mem hk)
      · exact .inl (by rw [← h1, ← h2]; exact List.getElem_mem hk)
    · rw [el_setI _ _ _ hl, if_neg e] at hp
      obtain ⟨j, j1, j2, j3, j4, j5⟩ := hr i hi h0 hp
      have hjt : j ≠ t := fun e2 => by rw [e2] at j3; omega
      exact ⟨j, by rw [el_setI _ _ _ hl, if_neg e]; exact j1, j2, hup _ j3, by simp only; rw [if_neg hjt, if_neg e]; exact j4, j5⟩
/-- At the end just those are reached that a way joins with the first. -/
theorem ROut.all {n : Nat} {es : List (Nat × Nat)} {zs : List Int} (h : ROut n es zs []) (hn : 0 < n) (hb : ∀ e ∈ es, e.1 < n ∧ e.2 < n) (i : Nat) (hi : i < n) : 0 ≤ el zs i ↔ Con es 0 i := by
  refine ⟨h.con i hi, fun hc => ?_⟩
  have key : ∀ i j, Con es i j → (i < n ↔ j < n) ∧ (i < n → (0 ≤ el zs i ↔ 0 ≤ el zs j)) := by
    intro i j c
    induction c with
    | refl a => exact ⟨Iff.rfl, fun _ => Iff.rfl⟩
    | edge he =>
      have hx := hb _ he
      refine ⟨by simp [hx.1, hx.2], fun _ => ⟨fun hr => ?_, fun hr => ?_⟩⟩
      · rcases h.clo _ hx.1 hr with hm | hm
        · simp at hm
        · exact (hm _ he).1 rfl
      · rcases h.clo _ hx.2 hr with hm | hm
        · simp at hm
        · exact (hm _ he).2 rfl
    | symm _ ih => exact ⟨ih.1.symm, fun hx => (ih.2 (ih.1.2 hx)).symm⟩
    | trans _ _ ih1 ih2 => exact ⟨ih1.1.trans ih2.1, fun hx => (ih1.2 hx).trans (ih2.2 (ih1.1.1 hx))⟩
  exact ((key 0 i hc).2 hn).1 h.zero
end Go.Proofs.Ytehnbalbpfmijaa

namespace Go.Proofs.Ytehnbalbpfmijaa
open Go.RowKit
set_option linter.unusedVariables false

def OwnQ (w : World) (lo : Nat) (v : Value) (q : List Nat) : Prop :=
  ∃ g off cap cur, v = .slice (some ⟨g, off, none⟩) q.length cap ∧ lo ≤ g ∧ w.heap[g]? = some (.cells cur 3 (0, 0)) ∧ q.length ≤ cap ∧ cap ≤ maxLen ∧ off + cap ≤ cur.size ∧ ∀ (j x : Nat), q[j]? = some x → cur[off + j]? = some (.int .i64 (x : Int))
section
variable {w w' : World} {lo : Nat} {v : Value} {q : List Nat}
theorem OwnQ.kept {row : Option Nat} (h : OwnQ w lo v q) (hg : w.grownBy w' row) (hr : ∀ k, row = some k → k < lo) : OwnQ w' lo v q := by
  obtain ⟨g, off, cap, cur, hv, h1, h2, h3⟩ := h
  exact ⟨g, off, cap, cur, hv, h1, (hg.block g (lt_of_block h2) (fun e => by have := hr g e.symm; omega)).trans h2, h3⟩
theorem OwnQ.below (h : OwnQ w lo v q) (hb : Below w.heap.size w w') : OwnQ w' lo v q :=
  h.kept (row := none) ⟨hb.os, hb.tape, hb.output, hb.size, fun k hk _ => hb.block k hk⟩ fun _ e => by simp at e
theorem OwnQ.start (w : World) : OwnQ (w.alloc (.cells #[.int .i64 0] 3)) w.heap.size (.slice (some ⟨w.heap.size, 0, none⟩) 1 1) [0] := by
  refine ⟨_, 0, 1, _, rfl, Nat.le_refl _, heap_alloc_new w _, Nat.le_refl _, by simp [maxLen], by simp, fun j x hx => ?_⟩
  have hj : j = 0 := by have := (List.getElem?_eq_some_iff.1 hx).1; simp at this; exact this
  subst hj
  simp only [List.getElem?_cons_zero, Option.some.injEq] at hx; subst hx; rfl
theorem OwnQ.open_ (h : OwnQ w lo v q) : ∃ g off cap, v = .slice (some ⟨g, off, none⟩) q.length cap ∧ q.length ≤ cap ∧ cap ≤ maxLen ∧ lo ≤ g ∧ g < w.heap.size := by
  obtain ⟨g, off, cap, cur, hv, h1, h2, h3, h4, _⟩ := h
  exact ⟨g, off, cap, hv, h3, h4, h1, lt_of_block h2⟩
theorem OwnQ.head {g off n cap x : Nat} (h : OwnQ w lo (.slice (some ⟨g, off, none⟩) n cap) (x :: q)) : w.cell? ⟨g, off, none⟩ = some (.int .i64 (x : Int)) := by
  obtain ⟨g', off', cap', cur, hv, h1, h2, h3, h4, h5, h6⟩ := h
  simp only [Value.slice.injEq, Option.some.injEq, Addr.mk.injEq, and_true] at hv
  obtain ⟨⟨rfl, rfl⟩, _, rfl⟩ := hv
  rw [blk_cell h2]
  exact h6 0 x rfl
theorem OwnQ.tail {g off n cap x : Nat} (h : OwnQ w lo (.slice (some ⟨g, off, none⟩) n cap) (x :: q)) : OwnQ w lo (.slice (some ⟨g, off + 1, none⟩) q.length (cap - 1)) q := by
  obtain ⟨g', off', cap', cur, hv, h1, h2, h3, h4, h5, h6⟩ := h
  simp only [Value.slice.injEq, Option.some.injEq, Addr.mk.injEq, and_true] at hv
  obtain ⟨⟨rfl, rfl⟩, _, rfl⟩ := hv
  simp only [List.length_cons] at h3
  exact ⟨g, off + 1, cap - 1, cur, rfl, h1, h2, by omega, by omega, by omega, fun j y hy => by rw [Nat.add_assoc, Nat.add_comm 1 j]; exact h6 (j + 1) y hy⟩
theorem OwnQ.tail1 {g off n x : Nat} (h : OwnQ w lo (.slice (some ⟨g, off, none⟩) n 1) (x :: q)) : q = [] ∧ OwnQ w lo (.slice (some ⟨g, off, none⟩) 0 0) [] := by
  obtain ⟨g', off', cap', cur, hv, h1, h2, h3, h4, h5, h6⟩ := h
  simp only [Value.slice.injEq, Option.some.injEq, Addr.mk.injEq, and_true] at hv
  obtain ⟨⟨rfl, rfl⟩, _, rfl⟩ := hv
  simp only [List.length_cons] at h3
  exact ⟨List.eq_nil_of_length_eq_zero (by omega), g, off, 0, cur, rfl, h1, h2, Nat.le_refl _, Nat.zero_le _, by omega, fun j y hy => by simp at hy⟩
theorem wpList_pushQ {P : Program} (hund : P.underlying 31 = some (.slice 3)) (hinf : (P.info? 3).map (fun i => (i.zero, i.size, i.bytes)) = some (some (.int .i64 0), 1, 8))
    {ops : Array Oper} {rest : List Oper} {o : Oper} {a : Act} {Q : Exit → Act → World → Prop} (hgd : o.guard = none) (s x : Operand)
    (ho : o.op = .call { callee := .builtin .append, args := #[s, x], argTypes := #[31, 31] }) (H : OwnQ w lo v q) (hlo : lo ≤ w.heap.size) (hs : a.eval s = v)
    (z : Nat) (z' : Value) (hz' : z' = .int .i64 (z : Int)) (h0 : Nat) (hx : a.eval x = .slice (some ⟨h0, 0, none⟩) 1 1) (hh : w.heap.size = h0) (hl : q.length + 1 ≤ 1000)
    (h : ∀ v' w', Hid (OwnQ w' lo v' (q ++ [z])) → Hid (∃ row, w.grownBy w' row ∧ ∀ k, row = some k → lo ≤ k) → wpList P ops Q rest (a.put o.dst v') w') :
    wpList P ops Q (o :: rest) a (w.alloc (.cells #[z'] 3)) := by
  subst hh hz'
  obtain ⟨i, hi, hzz⟩ := Option.map_eq_some_iff.1 hinf
  simp only [Prod.mk.injEq] at hzz
  obtain ⟨hz, hsz, hby⟩ := hzz
  obtain ⟨g, off, cap, cur, rfl, h1, h2, h3, h4, h5, h6⟩ := H
  have hgl := lt_of_block h2
  have hal := (Below.refl w.heap.size w).alloc (Nat.le_refl _) (.cells #[.int .i64 (z : Int)] 3)
  have h2' : (w.alloc (.cells #[.int .i64 (z : Int)] 3)).heap[g]? = some (.cells cur 3 (0, 0)) := (hal.block g hgl).trans h2
  have hsrc : Src P i.size 31 (.slice (some ⟨w.heap.size, 0, none⟩) 1 1) 1 [.int .i64 (z : Int)] (w.alloc (.cells #[.int .i64 (z : Int)] 3)) :=
    Src.ofSlice _ hund _ 1 1 _ (by rw [hsz]; rfl) (cell_one_new _ _ _) (by simp [Value.oneCell'])
  refine wpList_plain hgd fun K hK => ?_
  by_cases hroom : q.length + 1 ≤ cap
  · have hin : off + q.length < cur.size := by omega
    have hrun := run_append_room_src (P := P) (w.alloc (.cells #[.int .i64 (z : Int)] 3)) 31 31 o.type 3 i hund hi g off q.length cap (.slice (some ⟨w.heap.size, 0, none⟩) 1 1) 1 [.int .i64 (z : Int)] hsrc hroom
      (fun j hj => by
        simp at hj; subst hj
        rw [hsz, Nat.mul_one, Nat.add_zero, blk_cell h2']; simp [hin])
      (fun j hj => blk_free h2')
    unfold Oper.wp execOp
    simp only [ho, resolve, invoke, builtin, Sem.run_bind, Sem.run_pure, Result.andThen_ok, List.map_toArray, List.map_cons, List.map_nil, hs, hx, hrun]
    refine hK _ _ (h _ _ ?_ ?_)
    · rw [hsz, Nat.mul_one]
      have hst := blk_setCell (k := off + q.length) h2' (.int .i64 (z : Int))
      refine ⟨g, off, cap, _, by simp, h1, hst, by simp; omega, h4, by simp; omega, fun j y hy => ?_⟩
      by_cases e : j < q.length
      · rw [List.getElem?_append_left e] at hy
        rw [Array.getElem?_setIfInBounds_ne (by omega)]
        exact h6 j y hy
      · have hj : j = q.length := by have := (List.getElem?_eq_some_iff.1 hy).1; simp at this; omega
        subst hj
        simp at hy; subst hy
        simp [hin]
    · refine ⟨some g, ?_, fun k hk => by obtain rfl := Option.some.inj hk; exact h1⟩
      rw [hsz, Nat.mul_one]
      have := grownBy_set (w.alloc (.cells #[.int .i64 (z : Int)] 3)) g (off + q.length) (.int .i64 (z : Int))
      exact ⟨rfl, rfl, rfl, by simp [World.setCells], fun k hk hne => (this.block k (by simp; omega) hne).trans (hal.block k hk)⟩
  · have hrun := run_append_grow (P := P) (w.alloc (.cells #[.int .i64 (z : Int)] 3)) 31 o.type 3 i (.int .i64 0) hund hi hz ⟨g, off, none⟩ q.length cap (q.map fun (y : Nat) => Value.int .i64 (y : Int)) (by rw [hsz]; simp)
      (fun j u hu => by
        rw [List.getElem?_map] at hu
        obtain ⟨y, hy, rfl⟩ := Option.map_eq_some_iff.1 hu
        have := h6 j y hy
        rw [← blk_cell h2'] at this
        rw [← this]
        congr 1
        rcases Nat.eq_zero_or_pos j with e | e
        · subst e; rfl
        · simp [Addr.add, Nat.ne_of_gt e])
      ⟨w.heap.size, 0, none⟩ 1 1 [.int .i64 (z : Int)] (by rw [hsz]; rfl) (cell_one_new _ _ _) (by omega) (by omega) (growslice_fits (by omega) (by rw [hby]; omega))
    unfold Oper.wp execOp
    simp only [ho, resolve, invoke, builtin, Sem.run_bind, Sem.run_pure, Result.andThen_ok, List.map_toArray, List.map_cons, List.map_nil, hs, hx, hrun]
    refine hK _ _ (h _ _ ?_ ?_)
    · have hge := grownCap_ge (w.alloc (.cells #[.int .i64 (z : Int)] 3)) (q.length + 1) cap 3
      have hcm : grownCap (w.alloc (.cells #[.int .i64 (z : Int)] 3)) (q.length + 1) cap 3 ≤ maxLen := grownCap_le_maxLen _ _ _ _ (by simp [maxLen]; omega)
      generalize grownCap (w.alloc (.cells #[.int .i64 (z : Int)] 3)) (q.length + 1) cap 3 = nc at *
      refine ⟨_, 0, nc, _, by simp, ?_, heap_alloc_new _ _, by simp; exact hge, hcm, ?_, fun j y hy => ?_⟩
      · simp; omega
      · simp [size_zeroCells, Value.cells]; omega
      · have hlt := (List.getElem?_eq_some_iff.1 hy).1
        simp only [List.length_append, List.length_singleton] at hlt
        rw [Nat.zero_add, Array.getElem?_append_left (by simp; omega)]
        have : (q.map (fun (y : Nat) => Value.int .i64 (y : Int))).toArray ++ [Value.int .i64 (z : Int)].toArray = ((q ++ [z]).map fun (y : Nat) => Value.int .i64 (y : Int)).toArray := by simp
        rw [this, List.getElem?_toArray, List.getElem?_map, hy]; rfl
    · exact ⟨none, ⟨rfl, rfl, rfl, by simp; omega, fun k hk _ => (Below.heap_alloc _ _ _ (by simp; omega)).trans (hal.block k hk)⟩, fun k hk => by simp at hk⟩
end
end Go.Proofs.Ytehnbalbpfmijaa

namespace Go.Proofs.Ytehnbalbpfmijaa
open Go.RowKit
set_option linter.unusedVariables false

structure RMem (w wr : World) (gO cap n lo : Nat) (zs : List Int) (v : Value) (q : List Nat) : Prop where
  own : OwnI wr w.heap.size (.slice (some ⟨gO, 0, none⟩) n cap) zs
  len : zs.length = n
  que : OwnQ wr lo v q
  lt : gO < lo
  le : lo ≤ wr.heap.size
  big : Below w.heap.size w wr
section
variable {w wr w1 : World} {gO cap n lo : Nat} {zs : List Int} {v v' : Value} {q q' : List Nat}
theorem RMem.below (h : RMem w wr gO cap n lo zs v q) (hb : Below wr.heap.size wr w1) : RMem w w1 gO cap n lo zs v q :=
  ⟨h.own.below hb, h.len, h.que.below hb, h.lt, Nat.le_trans h.le hb.size, h.big.trans (hb.mono h.big.size)⟩
theorem RMem.base (h : RMem w wr gO cap n lo zs v q) : w.heap.size ≤ gO := (h.own.lt gO rfl).1
theorem RMem.cell (h : RMem w wr gO cap n lo zs v q) {i : Nat} (hi : i < n) : wr.cell? ⟨gO, i, none⟩ = some (.int .i64 (el zs i)) ∧ wr.frozen? ⟨gO, i, none⟩ = false := by
  have hl := h.len
  have ho : wr.ownsRow w.heap.size 3 1 (.slice (some ⟨gO, 0, none⟩) zs.length cap) zs.length (zs.map (Value.int .i64)) := by rw [hl]; have := h.own; unfold OwnI at this; rw [hl] at this; exact this
  refine ⟨?_, World.ownsRow.frozenAt ho i⟩
  rw [World.ownsRow.cellAt ho i (by omega), List.getElem?_map, List.getElem?_eq_getElem (by omega), el_get _ _ (by omega)]; rfl
theorem RMem.set (h : RMem w wr gO cap n lo zs v q) (i : Nat) (z : Int) : RMem w (wr.setCell ⟨gO, i, none⟩ (.int .i64 z)) gO cap n lo (zs.set i z) v q := by
  have hl := h.len
  have ho : wr.ownsRow w.heap.size 3 1 (.slice (some ⟨gO, 0, none⟩) zs.length cap) zs.length (zs.map (Value.int .i64)) := by rw [hl]; have := h.own; unfold OwnI at this; rw [hl] at this; exact this
  have hst := World.ownsRow.stored ho i (.int .i64 z)
  have hb := h.base
  refine ⟨?_, by rw [List.length_set]; exact hl, h.que.kept hst.2 (fun k hk => by obtain rfl := Option.some.inj hk; exact h.lt), h.lt, by simpa using h.le, h.big.setCell (by show w.heap.size ≤ gO; omega) _⟩
  unfold OwnI
  rw [List.length_set, List.map_set]
  have := hst.1
  rw [hl] at this ⊢
  exact this
theorem RMem.queue (h : RMem w wr gO cap n lo zs v q) (hq : OwnQ wr lo v' q') : RMem w wr gO cap n lo zs v' q' := ⟨h.own, h.len, hq, h.lt, h.le, h.big⟩
theorem RMem.push (h : RMem w wr gO cap n lo zs v q) (hq : OwnQ w1 lo v' q') (hg : ∃ row, wr.grownBy w1 row ∧ ∀ k, row = some k → lo ≤ k) : RMem w w1 gO cap n lo zs v' q' := by
  obtain ⟨row, g1, g2⟩ := hg
  have hb := h.base
  have hl := h.lt
  refine ⟨World.ownsRow.kept h.own g1 (.inr fun e => ?_), h.len, hq, h.lt, Nat.le_trans h.le g1.size, h.big.grown g1 h.big.size fun k hk => by have := g2 k hk; omega⟩
  have := g2 gO e.symm
  omega
end
theorem OwnI.store {w : World} {lo g n cap : Nat} {zs : List Int} (h : OwnI w lo (.slice (some ⟨g, 0, none⟩) n cap) zs) (hl : zs.length = n) (i : Nat) (z : Int) : OwnI (w.setCell ⟨g, i, none⟩ (.int .i64 z)) lo (.slice (some ⟨g, 0, none⟩) n cap) (zs.set i z) := by
  subst hl
  have hst := World.ownsRow.stored h i (.int .i64 z)
  unfold OwnI
  rw [List.length_set, List.map_set]
  exact hst.1
/-- All that is told of rooted. -/
def RetRoot (w : World) (n : Nat) (es : List (Nat × Nat)) (e : Ending) (w' : World) : Prop :=
  ∃ v zs, e = .returned v ∧ RdI w' w'.heap.size v zs ∧ zs.length = n ∧ (∀ i, i < n → -1 ≤ el zs i) ∧ (∀ i, i < n → (0 ≤ el zs i ↔ Con es 0 i)) ∧ Below w.heap.size w w' ∧ WayZ n es zs ∧ ∃ g m c, v = .slice (some ⟨g, 0, none⟩) m c ∧ w.heap.size ≤ g
theorem lk_ends {wd n : Nat} {x y : Int} {d : Bool} (h : lkIn wd n (x, y, d) = true) : ∃ a b : Nat, postA wd (x, y, d) = (a : Int) ∧ postB wd (x, y, d) = (b : Int) ∧ a < n ∧ b < n ∧ a ≠ b ∧ lkN wd (x, y, d) = (a, b) ∧ (0 ≤ x ∧ x ≤ 4) ∧ 0 ≤ y ∧ y ≤ 4 := by
  obtain ⟨i1, i2, i3, i4, i5, i6, i7⟩ := (lkIn_iff _ _ _).1 h
  obtain ⟨a, ha⟩ := Int.eq_ofNat_of_zero_le i5
  obtain ⟨b, hb⟩ := Int.eq_ofNat_of_zero_le (show 0 ≤ postB wd (x, y, d) by omega)
  rw [ha, hb] at i6; rw [hb] at i7
  exact ⟨a, b, ha, hb, by omega, by omega, by omega, by unfold lkN; rw [ha, hb]; rfl, ⟨i1, i2⟩, i3, i4⟩

set_option maxRecDepth 100000 in
set_option maxHeartbeats 8000000 in
theorem rooted_any (wd ht n : Nat) (u : Value) (ls : List Lk) (B : Nat) (w : World) (hu : RdF elLink w B u ls) (hB : B ≤ w.heap.size) (h1 : 1 ≤ wd ∧ wd ≤ 4) (h2 : 1 ≤ ht ∧ ht ≤ 4) (hn : wd * ht = n) (hl : ∀ l ∈ ls, lkIn wd n l = true) :
    Calls Try.prog 100 #[.int .i64 wd, .int .i64 ht, u] w (RetRoot w n (ls.map (lkN wd))) := by
  obtain ⟨A, c, rfl, g1, g2, G3⟩ := RdT.of (E := elLink) rfl (fun _ => rfl) hu
  unfold maxLen at g2
  clear hu
  have hn16 : n ≤ 16 := by rw [← hn]; exact Nat.mul_le_mul h1.2 h2.2
  have hpos : 0 < n := by rw [← hn]; exact Nat.mul_pos h1.1 h2.1
  have hw : IntKind.i64.wrap ((wd : Int) * (ht : Int)) = (n : Int) := by rw [← Int.natCast_mul, hn]; exact IntWalk.i64_in _ (by omega)
  have hw2 : (wd : Int) * (ht : Int) = (n : Int) := by rw [← Int.natCast_mul, hn]
  have HLI := Lib.hid hl
  have HPOS := Lib.hid hpos
  clear hn hl hpos
  have HA0 : Hid (Acc elInt w w.heap.size (w.alloc (.cells #[] 3)) (.slice (some ⟨w.heap.size, 0, none⟩) 0 0) []) := Acc.start w
  go_enter Try.func100, Try.ntmps100
  go_wp2_with fail
  go_loopw [7, 18] (fun o s wr => ∃ (k : Nat) (v : Value), k ≤ n ∧ s = .int .i64 k ∧ v = o ∧ Hid (Acc elInt w w.heap.size wr v (List.replicate k (-1)))) (fun _ s _ => n - (intOf s).toNat)
  case atStart => exact ⟨0, _, Nat.zero_le _, rfl, rfl, HA0⟩
  case round =>
    obtain ⟨k, v, hk, rfl, rfl, HA⟩ := hrel
    by_cases hlt : k < n
    · have ht : decide ((k : Int) < (n : Int)) = true := by simp only [decide_eq_true_eq]; omega
      go_wp2_with (at_builtin; refine wpList_push okInt rfl _ _ rfl HA.out rfl (-1) _ rfl _ rfl (by simp) (by simp; omega) ?_; intro v2 w2 HA2 HG2)
      go_roundw
      case rel => exact ⟨k + 1, _, by omega, by go_num, rfl, by (unfold Hid; rw [List.replicate_succ']; exact HA2.out)⟩
      case measure => simp [intOf]; omega
    · have ht : decide ((k : Int) < (n : Int)) = false := by simp only [decide_eq_false_iff_not]; omega
      obtain rfl : k = n := by omega
      obtain ⟨gO, cap, hv, hgb, hgl⟩ := World.ownsRow.form HA.out.1 (by simp; exact HPOS.out)
      rw [List.length_replicate] at hv
      subst hv
      have hk0 : (0 : Int) < (k : Int) := by have := HPOS.out; omega
      have hoi : OwnI wr w.heap.size (.slice (some ⟨gO, 0, none⟩) k cap) (List.replicate k (-1)) := ownF_int.1 HA.out.1
      have hc0 : wr.cell? ⟨gO, 0, none⟩ = some (.int .i64 (-1)) ∧ wr.frozen? ⟨gO, 0, none⟩ = false := by
        have ho : wr.ownsRow w.heap.size 3 1 (.slice (some ⟨gO, 0, none⟩) (List.replicate k (-1 : Int)).length cap) (List.replicate k (-1 : Int)).length ((List.replicate k (-1 : Int)).map (Value.int .i64)) := by
          have := hoi; unfold OwnI at this; rw [List.length_replicate] at this ⊢; exact this
        refine ⟨?_, World.ownsRow.frozenAt ho 0⟩
        rw [World.ownsRow.cellAt ho 0 (by simp; exact HPOS.out)]
        simp [HPOS.out]
      obtain ⟨hc0, hf0⟩ := hc0
      have HM0 : Hid (RMem w ((wr.setCell ⟨gO, 0, none⟩ (.int .i64 0)).alloc (.cells #[.int .i64 0] 3)) gO cap k wr.heap.size ((List.replicate k (-1)).set 0 0) (.slice (some ⟨wr.heap.size, 0, none⟩) 1 1) [0]) := by
        have hal := (Below.refl (wr.setCell ⟨gO, 0, none⟩ (.int .i64 0)).heap.size (wr.setCell ⟨gO, 0, none⟩ (.int .i64 0))).alloc (Nat.le_refl _) (.cells #[.int .i64 0] 3)
        have hst := hoi.store (by simp) 0 0
        have hq := OwnQ.start (wr.setCell ⟨gO, 0, none⟩ (.int .i64 0))
        rw [World.size_setCell] at hq
        have hb1 : Below w.heap.size w (wr.setCell ⟨gO, 0, none⟩ (.int .i64 0)) := HA.out.2.1.setCell hgb _
        exact ⟨hst.below hal, by simp, hq, hgl, by simp, hb1.trans (hal.mono hb1.size)⟩
      have HR0 := Lib.hid (ROut.start HPOS.out (ls.map (lkN wd)))
      have HU0 : Hid (2 * unr k ((List.replicate k (-1)).set 0 0) + 1 ≤ 2 * k + 1) := by have := unr_le k ((List.replicate k (-1)).set 0 0); unfold Hid; omega
      have HES : Hid ((ls.map (lkN wd)).length = ls.length) := by unfold Hid; simp
      have hgp : (0 : Int) < (k : Int) := by omega
      clear hoi HA HA0
      generalize hL0 : wr.heap.size = lo at *
      go_wp2_with fail
      go_loopg [8] (2 * k + 1) (fun gk s wr' => ∃ (zs : List Int) (q : List Nat), Hid (RMem w wr' gO cap k lo zs s q) ∧ Hid (ROut k (ls.map (lkN wd)) zs q) ∧ Hid (2 * unr k zs + q.length ≤ gk ∧ gk ≤ 2 * k + 1))
      case atStart => exact ⟨_, [0], HM0, HR0, HU0.out, Nat.le_refl _⟩
      case round =>
        obtain ⟨zs, q, HM, HR, HU⟩ := hrel
        clear HM0 HR0 HU0 hc0 hf0
        obtain ⟨g, off, cp, rfl, q1, q2, q3, q4⟩ := HM.out.que.open_
        unfold maxLen at q2
        cases q with
        | nil =>
          go_wp2_with fail
          go_ret
          have hm := HM.out
          have hr := HR.out
          refine ⟨_, zs, rfl, ?_, hr.len, hr.low, fun i hi => hr.all HPOS.out (fun e he => ?_) i hi, hm.big, hr.way, _, _, _, rfl, hm.base⟩
          · have := hm.own.rd; exact this
          · obtain ⟨⟨x, y, d⟩, hm2, rfl⟩ := List.mem_map.1 he
            obtain ⟨a, b, _, _, h3, h4, _, h5, _⟩ := lk_ends (HLI.out _ hm2)
            rw [h5]; exact ⟨h3, h4⟩
        | cons own q' =>
          have hd := HM.out.que.head
          obtain ⟨ho1, ho2⟩ := HR.out.que own (by simp)
          have HRI := Lib.hid HR.out.pop
          rw [List.length_cons] at *
          have hqp : decide ((((q'.length + 1 : Nat)) : Int) > 0) = true := by simp only [decide_eq_true_eq]; omega
          have HU1 : Hid (2 * unr k zs + q'.length + 1 ≤ gk ∧ gk ≤ 2 * k + 1) := by have := HU.out; unfold Hid; omega
          by_cases hcp : cp = 1
          case' pos =>
            subst hcp
            obtain ⟨hq0, hq1⟩ := HM.out.que.tail1
            rw [← hq0] at hq1
            have HM1 := Lib.hid (HM.out.queue hq1)
            clear hq0 hq1 HM HR HU
            go_upto_region 11 with (fail)
          case' neg =>
            have hq1 := HM.out.que.tail
            have HM1 := Lib.hid (HM.out.queue hq1)
            clear hq1 HM HR HU
            go_upto_region 11 with (fail)
          all_goals
            clear hd hqp
            go_wp2_with fail
            have hho : (own : Int) < (k : Int) := by omega
            go_loopw [8, 37] (fun s j wr2 => ∃ (m : Nat) (zs2 : List Int) (q2 : List Nat), m ≤ ls.length ∧ j = .int .i64 m ∧ Hid (RMem w wr2 gO cap k lo zs2 s q2) ∧ Hid (RIn k (ls.map (lkN wd)) zs2 q2 own m) ∧ Hid (2 * unr k zs2 + q2.length + 1 ≤ gk)) (fun _ j _ => ls.length - (intOf j).toNat)
            case atStart => exact ⟨0, zs, q', Nat.zero_le _, rfl, HM1, HRI, HU1.out.1⟩
            case round =>
              obtain ⟨m, zs2, q2, hm, rfl, HM2, HR2, HU2⟩ := hrel
              have HGK := Lib.hid HU1.out.2
              clear HM1 HRI
              obtain ⟨g2', off2, cp2, rfl, r1, r2, r3, r4⟩ := HM2.out.que.open_
              unfold maxLen at r2
              by_cases hlm : m < ls.length
              · have htm : decide ((m : Int) < (ls.length : Int)) = true := by simp only [decide_eq_true_eq]; omega
                obtain ⟨ad, rfl, had, hx, hy, hz⟩ := G3.out m hlm
                have hbw := HM2.out.big
                have hx' := (hbw.cell (p := ad.add (m * 3)) (by rw [addBlock]; omega)).trans hx
                have hy' := (hbw.cell (p := ⟨(ad.add (m * 3)).block, (ad.add (m * 3)).off + 1, none⟩) (by show (ad.add (m * 3)).block < _; rw [addBlock]; omega)).trans hy
                have hz' := (hbw.cell (p := ⟨(ad.add (m * 3)).block, (ad.add (m * 3)).off + 2, none⟩) (by show (ad.add (m * 3)).block < _; rw [addBlock]; omega)).trans hz
                have hin := HLI.out _ (List.getElem_mem hlm)
                have hmem : (ls.map (lkN wd))[m]? = some (lkN wd (lx ls m, ly ls m, ld ls m)) := by rw [List.getElem?_map, lk_get _ _ hlm]; rfl
                rw [lk_at _ _ hlm] at hin
                generalize lx ls m = x at *
                generalize ly ls m = y at *
                generalize ld ls m = d at *
                obtain ⟨a, b, ha, hb, i1, i2, i3, i4, i5, i6⟩ := lk_ends hin
                rw [i4] at hmem
                have HA := Lib.hid ha
                have HB := Lib.hid hb
                have hk1 : (m : Int) < (ls.length : Int) := by omega
                have hk0 : (0 : Int) ≤ (m : Int) := by omega
                have HAL := Lib.hid ((Below.refl wr.heap.size wr).alloc (Nat.le_refl _) (.cells #[.int .i64 x, .int .i64 y, .bool d] 68))
                clear hx hy hz hbw ha hb hin i4
                go_wp2_with fail
                refine (posts_any _ _ _ _ _ (by omega) (by omega) (by omega) (by omega) (by omega) (by omega)).mono ?_
                rintro e w3 ⟨rfl, hb3⟩
                rw [HA.out, HB.out]
                have HM4 := Lib.hid (HM2.out.below (HAL.out.trans (hb3.mono HAL.out.size)))
                have HML : Hid (m < (ls.map (lkN wd)).length) := by unfold Hid; rw [List.length_map]; exact hlm
                have HEK : Hid ((ls.map (lkN wd))[m]'HML.out = (a, b)) := by
                  unfold Hid
                  rw [List.getElem?_eq_getElem HML.out] at hmem
                  exact Option.some.inj hmem
                have HNE : Hid (a ≠ b) := i3
                clear hb3 HAL hx' hy' hz' hmem HA HB i3
                by_cases cb : b = own
                · have HBO := Lib.hid cb
                  have cb' := cb.symm
                  subst cb'
                  obtain ⟨hcell, hfr⟩ := HM4.out.cell (i := a) (by omega)
                  have ht0 : (0 : Int) ≤ (a : Int) := by omega
                  have ht1 : (a : Int) < (k : Int) := by omega
                  by_cases cz : el zs2 a < 0
                  · have HMS := Lib.hid (HM4.out.set a (own : Int))
                    have HR5 : Hid (RIn k (ls.map (lkN wd)) (zs2.set a (own : Int)) (q2 ++ [a]) own (m + 1)) := HR2.out.reach HML.out (by omega) (by rw [HEK.out]; exact HNE.out) (by rw [HEK.out]; exact Or.inr ⟨HBO.out, rfl⟩) cz
                    have HU5 : Hid (2 * unr k (zs2.set a (own : Int)) + (q2 ++ [a]).length + 1 ≤ gk) := by
                      have := unr_set (z := (own : Int)) HM4.out.len (t := a) (by omega) cz (by omega)
                      have := HU2.out
                      unfold Hid; simp; omega
                    have hql : q2.length + 1 ≤ 1000 := by have := HU2.out; have := HGK.out; omega
                    go_wp2_with (at_builtin; refine wpList_pushQ Try.underlying31 infoInt rfl _ _ rfl HMS.out.que HMS.out.le rfl a _ rfl _ rfl (by simp) hql ?_; intro v5 w5 HQ5 HG5; obtain ⟨g5, off5, cp5, hv5, _⟩ := HQ5.out.open_; rw [List.length_append, List.length_singleton] at hv5; subst hv5)
                    have HM5 := Lib.hid (HMS.out.push HQ5.out HG5.out)
                    go_roundw
                    case rel => exact ⟨m + 1, _, _, by omega, by go_num, HM5, HR5, HU5⟩
                    case measure => simp [intOf]; omega
                  · have HR5 : Hid (RIn k (ls.map (lkN wd)) zs2 q2 own (m + 1)) := HR2.out.skip HML.out (by rw [HEK.out]; exact ⟨fun h9 => absurd (h9.trans HBO.out.symm) HNE.out, fun h9 => (show 0 ≤ el zs2 a from Int.not_lt.1 cz)⟩)
                    go_wp2_with fail
                    go_roundw
                    case rel => exact ⟨m + 1, _, _, by omega, by go_num, HM4, HR5, HU2⟩
                    case measure => simp [intOf]; omega
                · have tb : ((b : Int) == (own : Int)) = false := by rw [beq_eq_false_iff_ne]; omega
                  have tb' : (b == own) = false := by rw [beq_eq_false_iff_ne]; exact cb
                  by_cases ca : a = own
                  · have HBO := Lib.hid ca
                    have ca' := ca.symm
                    subst ca'
                    obtain ⟨hcell, hfr⟩ := HM4.out.cell (i := b) (by omega)
                    have ht0 : (0 : Int) ≤ (b : Int) := by omega
                    have ht1 : (b : Int) < (k : Int) := by omega
                    by_cases cz : el zs2 b < 0
                    · have HMS := Lib.hid (HM4.out.set b (own : Int))
                      have HR5 : Hid (RIn k (ls.map (lkN wd)) (zs2.set b (own : Int)) (q2 ++ [b]) own (m + 1)) := HR2.out.reach HML.out (by omega) (by rw [HEK.out]; exact HNE.out) (by rw [HEK.out]; exact Or.inl ⟨HBO.out, rfl⟩) cz
                      have HU5 : Hid (2 * unr k (zs2.set b (own : Int)) + (q2 ++ [b]).length + 1 ≤ gk) := by
                        have := unr_set (z := (own : Int)) HM4.out.len (t := b) (by omega) cz (by omega)
                        have := HU2.out
                        unfold Hid; simp; omega
                      have hql : q2.length + 1 ≤ 1000 := by have := HU2.out; have := HGK.out; omega
                      go_wp2_with (at_builtin; refine wpList_pushQ Try.underlying31 infoInt rfl _ _ rfl HMS.out.que HMS.out.le rfl b _ rfl _ rfl (by simp) hql ?_; intro v5 w5 HQ5 HG5; obtain ⟨g5, off5, cp5, hv5, _⟩ := HQ5.out.open_; rw [List.length_append, List.length_singleton] at hv5; subst hv5)
                      have HM5 := Lib.hid (HMS.out.push HQ5.out HG5.out)
                      go_roundw
                      case rel => exact ⟨m + 1, _, _, by omega, by go_num, HM5, HR5, HU5⟩
                      case measure => simp [intOf]; omega
                    · have HR5 : Hid (RIn k (ls.map (lkN wd)) zs2 q2 own (m + 1)) := HR2.out.skip HML.out (by rw [HEK.out]; exact ⟨fun h9 => (show 0 ≤ el zs2 b from Int.not_lt.1 cz), fun h9 => absurd (HBO.out.trans h9.symm) HNE.out⟩)
                      go_wp2_with fail
                      go_roundw
                      case rel => exact ⟨m + 1, _, _, by omega, by go_num, HM4, HR5, HU2⟩
                      case measure => simp [intOf]; omega
                  · have ta : ((a : Int) == (own : Int)) = false := by rw [beq_eq_false_iff_ne]; omega
                    have ta' : (a == own) = false := by rw [beq_eq_false_iff_ne]; exact ca
                    have HR5 : Hid (RIn k (ls.map (lkN wd)) zs2 q2 own (m + 1)) := HR2.out.skip HML.out (by rw [HEK.out]; exact ⟨fun h9 => absurd h9 ca, fun h9 => absurd h9 cb⟩)
                    clear cb ca
                    go_wp2_with fail
                    go_roundw
                    case rel => exact ⟨m + 1, _, _, by omega, by go_num, HM4, HR5, HU2⟩
                    case measure => simp [intOf]; omega
              · have htm : decide ((m : Int) < (ls.length : Int)) = false := by simp only [decide_eq_false_iff_not]; omega
                have HR3 := Lib.hid (HR2.out.done (by rw [List.length_map]; omega))
                have HQ3 : Hid (2 * unr k zs2 + q2.length ≤ gk - 1 ∧ gk - 1 ≤ 2 * k + 1) := by have := HU2.out; have := HGK.out; unfold Hid; omega
                have hgk : gk - 1 < gk := by have := HU2.out; omega
                go_wp2_with fail
                go_roundg (gk - 1)
                case measure => exact hgk
                case rel => exact ⟨zs2, q2, HM2, HR3, HQ3⟩
end Go.Proofs.Ytehnbalbpfmijaa

namespace Go.Proofs.Ytehnbalbpfmijaa
open Go.RowKit
set_option linter.unusedVariables false

/-- The first number from k on, among n, with p; -1 if there is none. -/
def fstZ (p : Nat → Bool) : Nat → Nat → Int
  | 0, _ => -1
  | n + 1, k => if p k then (k : Int) else fstZ p n (k + 1)
theorem fstZ_spec (p : Nat → Bool) : ∀ n k, (fstZ p n k = -1 ∧ ∀ i, k ≤ i → i < k + n → p i = false) ∨ ∃ j : Nat, fstZ p n k = (j : Int) ∧ k ≤ j ∧ j < k + n ∧ p j = true ∧ ∀ i, k ≤ i → i < j → p i = false
  | 0, k => .inl ⟨rfl, fun i h1 h2 => by omega⟩
  | n + 1, k => by
    rw [fstZ]
    by_cases h : p k = true
    · rw [if_pos h]; exact .inr ⟨k, rfl, Nat.le_refl _, by omega, h, fun i h1 h2 => by omega⟩
    · rw [if_neg h]
      have hf : p k = false := by simpa using h
      rcases fstZ_spec p n (k + 1) with ⟨h1, h2⟩ | ⟨j, h1, h2, h3, h4, h5⟩
      · refine .inl ⟨h1, fun i q1 q2 => ?_⟩
        by_cases e : i = k
        · rw [e]; exact hf
        · exact h2 i (by omega) (by omega)
      · refine .inr ⟨j, h1, by omega, by omega, h4, fun i q1 q2 => ?_⟩
        by_cases e : i = k
        · rw [e]; exact hf
        · exact h5 i (by omega) q2
def lkEq (ls : List Lk) (x y : Int) (d : Bool) (i : Nat) : Bool := lx ls i == x && (ly ls i == y && ld ls i == d)
set_option maxRecDepth 100000 in
set_option maxHeartbeats 4000000 in
theorem linkIndex_any (v : Value) (ls : List Lk) (x y : Int) (d : Bool) (B : Nat) (w : World) (h : RdF elLink w B v ls) (hB : B ≤ w.heap.size) :
    Calls Try.prog 149 #[v, triV x y d] w fun e w' => e = .returned (.int .i64 (fstZ (lkEq ls x y d) ls.length 0)) ∧ Below w.heap.size w w' := by
  obtain ⟨A, c, rfl, g1, g2, G3⟩ := RdT.of (E := elLink) rfl (fun _ => rfl) h
  unfold maxLen at g2
  clear h
  go_enter Try.func149, Try.ntmps149
  go_wp2_with fail
  obtain ⟨W, hW, k0, hb0⟩ := one_alloc w (.cells #[.int .i64 x, .int .i64 y, .bool d] 68)
  rw [← hW]
  have HK := Lib.hid k0
  have HB0 := Lib.hid hb0
  have hs0 : w.heap.size < W.heap.size := lt_of_block k0
  clear hW k0 hb0
  go_loopw [9] (fun s wr => ∃ k : Nat, k ≤ ls.length ∧ s = .int .i64 k ∧ Hid (Below W.heap.size W wr) ∧ Hid (fstZ (lkEq ls x y d) ls.length 0 = fstZ (lkEq ls x y d) (ls.length - k) k)) (fun s _ => ls.length - (intOf s).toNat)
  case atStart => exact ⟨0, Nat.zero_le _, rfl, Below.refl _ _, rfl⟩
  case round =>
    obtain ⟨k, hk, rfl, HB, HF⟩ := hrel
    by_cases hlt : k < ls.length
    · obtain ⟨ad, rfl, had, hx, hy, hz⟩ := G3.out k hlt
      have hbw := HB0.out.trans (HB.out.mono HB0.out.size)
      have hx' := (hbw.cell (p := ad.add (k * 3)) (by rw [addBlock]; omega)).trans hx
      have hy' := (hbw.cell (p := ⟨(ad.add (k * 3)).block, (ad.add (k * 3)).off + 1, none⟩) (by show (ad.add (k * 3)).block < _; rw [addBlock]; omega)).trans hy
      have hz' := (hbw.cell (p := ⟨(ad.add (k * 3)).block, (ad.add (k * 3)).off + 2, none⟩) (by show (ad.add (k * 3)).block < _; rw [addBlock]; omega)).trans hz
      have hblk := (HB.out.block w.heap.size hs0).trans HK.out
      have ht : decide ((k : Int) < (ls.length : Int)) = true := by simp only [decide_eq_true_eq]; omega
      have hk0 : (0 : Int) ≤ (k : Int) := by omega
      have hk1 : (k : Int) < (ls.length : Int) := by omega
      have hal := (Below.refl wr.heap.size wr).alloc (Nat.le_refl _) (.cells #[.int .i64 (lx ls k), .int .i64 (ly ls k), .bool (ld ls k)] 68)
      have hblk2 := (hal.block w.heap.size (lt_of_block hblk)).trans hblk
      have b0 : (wr.alloc (.cells #[.int .i64 (lx ls k), .int .i64 (ly ls k), .bool (ld ls k)] 68)).cell? ⟨w.heap.size, 0, none⟩ = some (.int .i64 x) := by rw [blk_cell hblk2]; rfl
      have b1 : (wr.alloc (.cells #[.int .i64 (lx ls k), .int .i64 (ly ls k), .bool (ld ls k)] 68)).cell? ⟨w.heap.size, 1, none⟩ = some (.int .i64 y) := by rw [blk_cell hblk2]; rfl
      have b2 : (wr.alloc (.cells #[.int .i64 (lx ls k), .int .i64 (ly ls k), .bool (ld ls k)] 68)).cell? ⟨w.heap.size, 2, none⟩ = some (.bool d) := by rw [blk_cell hblk2]; rfl
      have HBN := Lib.hid (HB.out.trans (hal.mono HB.out.size))
      have HQ := Lib.hid (hbw.trans (hal.mono hbw.size))
      clear hbw hx hy hz hblk hblk2 hal
      have HS : Hid (fstZ (lkEq ls x y d) (ls.length - k) k = if lkEq ls x y d k then (k : Int) else fstZ (lkEq ls x y d) (ls.length - (k + 1)) (k + 1)) := by
        unfold Hid; rw [show ls.length - k = (ls.length - (k + 1)) + 1 by omega, fstZ]
      have HE : Hid (lkEq ls x y d k = (lx ls k == x && (ly ls k == y && ld ls k == d))) := rfl
      generalize lkEq ls x y d k = r at *
      generalize lx ls k = p1 at *
      generalize ly ls k = p2 at *
      generalize ld ls k = p3 at *
      cases r
      · have HS2 : Hid (fstZ (lkEq ls x y d) ls.length 0 = fstZ (lkEq ls x y d) (ls.length - (k + 1)) (k + 1)) := HF.out.trans HS.out
        clear HS HF
        go_wp2_with fail
        all_goals subst_vars
        all_goals first
          | (exfalso; have h9 := HE.out; simp at h9; done)
          | (go_roundw
             case rel => exact ⟨k + 1, by omega, by go_num, HBN, HS2⟩
             case measure => simp [intOf]; omega)
      · have he := HE.out.symm
        simp only [Bool.and_eq_true, beq_iff_eq] at he
        obtain ⟨rfl, rfl, rfl⟩ := he
        have HS2 : Hid (fstZ (lkEq ls p1 p2 p3) ls.length 0 = (k : Int)) := HF.out.trans HS.out
        clear HS HF
        go_wp2_with fail
        go_ret
        exact ⟨ret_int HS2.out.symm, HQ.out⟩
    · have HF2 : Hid (fstZ (lkEq ls x y d) ls.length 0 = -1) := by unfold Hid; rw [HF.out, show ls.length - k = 0 by omega]; rfl
      have ht : decide ((k : Int) < (ls.length : Int)) = false := by simp only [decide_eq_false_iff_not]; omega
      go_wp2_with fail
      go_ret
      exact ⟨ret_int HF2.out.symm, HB0.out.trans (HB.out.mono HB0.out.size)⟩

set_option maxHeartbeats 1000000 in
theorem indexOf_any (v : Value) (zs : List Int) (x : Int) (B : Nat) (w : World) (h : RdI w B v zs) :
    Calls Try.prog 150 #[v, .int .i64 x] w fun e w' => e = .returned (.int .i64 (fstZ (fun i => el zs i == x) zs.length 0)) ∧ w = w' := by
  obtain ⟨A, c, rfl, g1, g2, hr⟩ := h
  unfold maxLen at g2
  have HR := Lib.hid hr
  clear hr
  go_enter Try.func150, Try.ntmps150
  go_wp2_with fail
  go_loop [9] (fun s => ∃ k : Nat, k ≤ zs.length ∧ s = .int .i64 k ∧ Hid (fstZ (fun i => el zs i == x) zs.length 0 = fstZ (fun i => el zs i == x) (zs.length - k) k)) (fun s => zs.length - (intOf s).toNat)
  case atStart => exact ⟨0, Nat.zero_le _, rfl, rfl⟩
  case round =>
    obtain ⟨k, hk, rfl, HF⟩ := hrel
    by_cases hlt : k < zs.length
    · obtain ⟨ad, rfl, had, hc⟩ := HR.out.int hlt
      rw [← el_get _ _ hlt] at hc
      have ht : decide ((k : Int) < (zs.length : Int)) = true := by simp only [decide_eq_true_eq]; omega
      have hk0 : (0 : Int) ≤ (k : Int) := by omega
      have hk1 : (k : Int) < (zs.length : Int) := by omega
      have HS : Hid (fstZ (fun i => el zs i == x) (zs.length - k) k = if el zs k == x then (k : Int) else fstZ (fun i => el zs i == x) (zs.length - (k + 1)) (k + 1)) := by
        unfold Hid; rw [show zs.length - k = (zs.length - (k + 1)) + 1 by omega, fstZ]
      cases he : el zs k == x
      · have HS2 : Hid (fstZ (fun i => el zs i == x) zs.length 0 = fstZ (fun i => el zs i == x) (zs.length - (k + 1)) (k + 1)) := HF.out.trans (by rw [HS.out, he]; rfl)
        clear HS HF
        generalize el zs k = y at *
        go_wp2_with fail
        go_round
        case rel => exact ⟨k + 1, by omega, by go_num, HS2⟩
        case measure => simp [intOf]; omega
      · have HS2 : Hid (fstZ (fun i => el zs i == x) zs.length 0 = (k : Int)) := HF.out.trans (by rw [HS.out, he]; rfl)
        clear HS HF
        generalize el zs k = y at *
        go_wp2_with fail
        go_ret
        exact ⟨ret_int HS2.out.symm, rfl⟩
    · have HF2 : Hid (fstZ (fun i => el zs i == x) zs.length 0 = -1) := by unfold Hid; rw [HF.out, show zs.length - k = 0 by omega]; rfl
      have ht : decide ((k : Int) < (zs.length : Int)) = false := by simp only [decide_eq_false_iff_not]; omega
      go_wp2_with fail
      go_ret
      exact ⟨ret_int HF2.out.symm, rfl⟩
end Go.Proofs.Ytehnbalbpfmijaa

namespace Go.Proofs.Ytehnbalbpfmijaa
open Go.RowKit
set_option linter.unusedVariables false

def natI (g : List Nat) : List Int := g.map fun (x : Nat) => (x : Int)
theorem natI_length (g : List Nat) : (natI g).length = g.length := by simp [natI]
theorem natI_el (g : List Nat) (i : Nat) (h : i < g.length) : el (natI g) i = (gi g i : Int) := by simp [natI, el, gi, h]
theorem OwnI.store' {w : World} {lo g n cap : Nat} {zs : List Int} (h : OwnI w lo (.slice (some ⟨g, 0, none⟩) n cap) zs) (hl : zs.length = n) (i : Nat) (z : Int) : OwnI (w.setCell ⟨g, i, none⟩ (.int .i64 z)) lo (.slice (some ⟨g, 0, none⟩) n cap) (zs.set i z) := by
  subst hl
  have hst := World.ownsRow.stored h i (.int .i64 z)
  unfold OwnI
  rw [List.length_set, List.map_set]
  exact hst.1
theorem OwnI.at' {w : World} {lo g n cap : Nat} {zs : List Int} (h : OwnI w lo (.slice (some ⟨g, 0, none⟩) n cap) zs) (hl : zs.length = n) {i : Nat} (hi : i < n) : w.cell? ⟨g, i, none⟩ = some (.int .i64 (el zs i)) ∧ w.frozen? ⟨g, i, none⟩ = false := by
  subst hl
  refine ⟨?_, World.ownsRow.frozenAt h i⟩
  rw [World.ownsRow.cellAt h i (by omega), List.getElem?_map, List.getElem?_eq_getElem (by omega), el_get _ _ (by omega)]; rfl

theorem l23Groups_any (n : Nat) (w : World) (hn : n ≤ 1000) :
    Calls Try.prog 116 #[.int .i64 n] w (RetOwnI w (natI (List.range n))) := by
  have HA0 : Hid (Acc elInt w w.heap.size (w.alloc (.cells #[] 3)) (.slice (some ⟨w.heap.size, 0, none⟩) 0 0) (natI (List.range 0))) := Acc.start w
  go_enter Try.func116, Try.ntmps116
  go_wp2_with fail
  go_loopw [3, 4] (fun o s wr => ∃ (k : Nat) (v : Value), k ≤ n ∧ s = .int .i64 k ∧ v = o ∧ Hid (Acc elInt w w.heap.size wr v (natI (List.range k)))) (fun _ s _ => n - (intOf s).toNat)
  case atStart => exact ⟨0, _, Nat.zero_le _, rfl, rfl, HA0⟩
  case round =>
    obtain ⟨k, v, hk, rfl, rfl, HA⟩ := hrel
    by_cases hlt : k < n
    · have ht : decide ((k : Int) < (n : Int)) = true := by simp only [decide_eq_true_eq]; omega
      go_wp2_with (at_builtin; refine wpList_push okInt rfl _ _ rfl HA.out rfl (k : Int) _ rfl _ rfl (by simp) (by simp [natI]; omega) ?_; intro v2 w2 HA2 HG2)
      go_roundw
      case rel => exact ⟨k + 1, _, by omega, by go_num, rfl, by (unfold Hid; rw [List.range_succ, natI, List.map_append]; exact HA2.out)⟩
      case measure => simp [intOf]; omega
    · have ht : decide ((k : Int) < (n : Int)) = false := by simp only [decide_eq_false_iff_not]; omega
      obtain rfl : k = n := by omega
      go_wp2_with fail
      go_ret
      exact ⟨_, rfl, ownF_int.1 HA.out.1, HA.out.2.1⟩

/-- The first k labels joined. -/
def joinTo (g : List Nat) (u v k : Nat) : List Nat := g.mapIdx fun i x => if i < k ∧ x = v then u else x
theorem joinTo_length (g : List Nat) (u v k : Nat) : (joinTo g u v k).length = g.length := by simp [joinTo]
theorem joinTo_zero (g : List Nat) (u v : Nat) : joinTo g u v 0 = g := by
  apply List.ext_getElem
  · simp [joinTo]
  · intro i h1 h2; simp [joinTo]
theorem joinTo_all (g : List Nat) (u v : Nat) : joinTo g u v g.length = g.map fun x => if x = v then u else x := by
  apply List.ext_getElem
  · simp [joinTo]
  · intro i h1 h2
    have : i < g.length := by simpa using h2
    simp [joinTo, this]
theorem joinTo_gi (g : List Nat) (u v k : Nat) (hk : k < g.length) : gi (joinTo g u v k) k = gi g k := by simp [gi, joinTo, hk]
theorem joinTo_skip (g : List Nat) (u v k : Nat) (hk : k < g.length) (h : gi g k ≠ v) : joinTo g u v k = joinTo g u v (k + 1) := by
  apply List.ext_getElem
  · simp [joinTo]
  · intro i h1 h2
    have hi : i < g.length := by simpa [joinTo] using h2
    by_cases e : i = k
    · subst e
      have : g[i] ≠ v := by simpa [gi, hk] using h
      simp [joinTo, this]
    · by_cases e2 : i < k
      · simp [joinTo, e2, show i < k + 1 by omega]
      · simp [joinTo, e2, show ¬ i < k + 1 by omega]
theorem joinTo_set (g : List Nat) (u v k : Nat) (hk : k < g.length) (h : gi g k = v) : (natI (joinTo g u v k)).set k (u : Int) = natI (joinTo g u v (k + 1)) := by
  apply List.ext_getElem
  · simp [joinTo, natI]
  · intro i h1 h2
    have hi : i < g.length := by simpa [joinTo, natI] using h2
    rw [List.getElem_set]
    by_cases e : k = i
    · subst e
      have : g[k] = v := by simpa [gi, hk] using h
      simp [joinTo, natI, this]
    · by_cases e2 : i < k
      · simp [joinTo, natI, e, e2, show i < k + 1 by omega]
      · simp [joinTo, natI, e, e2, show ¬ i < k + 1 by omega]

set_option maxHeartbeats 4000000 in
theorem l23Join_any (g cap n lo a b : Nat) (gs : List Nat) (w : World) (h : OwnI w lo (.slice (some ⟨g, 0, none⟩) n cap) (natI gs)) (hl : gs.length = n) (ha : a < n) (hb : b < n) (hn : n ≤ 1000) :
    Calls Try.prog 118 #[.slice (some ⟨g, 0, none⟩) n cap, .int .i64 a, .int .i64 b] w
      fun e w' => e = .returned (.bool (decide (gi gs a ≠ gi gs b))) ∧ OwnI w' lo (.slice (some ⟨g, 0, none⟩) n cap) (natI (joinF gs (a, b))) ∧ w.grownBy w' (some g) := by
  have hnl : (natI gs).length = n := by rw [natI_length]; exact hl
  obtain ⟨c1, _⟩ := h.at' hnl ha
  obtain ⟨c2, _⟩ := h.at' hnl hb
  rw [natI_el _ _ (by omega)] at c1 c2
  have H := Lib.hid h
  have HL := Lib.hid hl
  have hab : (0 : Int) ≤ (a : Int) := by omega
  have hbb : (0 : Int) ≤ (b : Int) := by omega
  have ha2 : (a : Int) < (n : Int) := by omega
  have hb2 : (b : Int) < (n : Int) := by omega
  have HJ : Hid (joinF gs (a, b) = joinTo gs (gi gs a) (gi gs b) n) := by unfold Hid; rw [← hl, joinTo_all]; rfl
  have HSAME : Hid (gi gs a = gi gs b → joinF gs (a, b) = gs) := by
    intro e
    unfold joinF
    simp only [e]
    conv => rhs; rw [← List.map_id gs]
    apply List.map_congr_left
    intro x _
    split
    · rename_i h9; exact h9.symm
    · rfl
  clear h hl hnl
  generalize hu : gi gs a = u at *
  generalize hv : gi gs b = v at *
  clear hu hv
  by_cases huv : u = v
  · have HS := Lib.hid (HSAME.out huv)
    have t1 : ((u : Int) != (v : Int)) = false := by simp [huv]
    have t2 : decide (u ≠ v) = false := by simp [huv]
    rw [t2]
    have hnn : (0 : Int) < (n : Int) := by omega
    subst huv
    go_enter Try.func118, Try.ntmps118
    go_wp2_with fail
    go_loopw [9] (fun s wr => s = .int .i64 0 ∧ w = wr) (fun _ _ => 0)
    case atStart => exact ⟨rfl, rfl⟩
    case round =>
      obtain ⟨rfl, rfl⟩ := hrel
      go_wp2_with fail
      go_ret
      exact ⟨rfl, by rw [HS.out]; exact H.out, World.grownBy.refl w _⟩
  · have t1 : ((u : Int) != (v : Int)) = true := by rw [bne_iff_ne]; omega
    have t2 : decide (u ≠ v) = true := by simp [huv]
    rw [t2]
    clear t2
    have H0 : Hid (OwnI w lo (.slice (some ⟨g, 0, none⟩) n cap) (natI (joinTo gs u v 0))) := by unfold Hid; rw [joinTo_zero]; exact H.out
    go_enter Try.func118, Try.ntmps118
    go_wp2_with fail
    go_loopw [9] (fun s wr => ∃ k : Nat, k ≤ n ∧ s = .int .i64 k ∧ Hid (OwnI wr lo (.slice (some ⟨g, 0, none⟩) n cap) (natI (joinTo gs u v k))) ∧ Hid (w.grownBy wr (some g))) (fun s _ => n - (intOf s).toNat)
    case atStart => exact ⟨0, Nat.zero_le _, rfl, H0, World.grownBy.refl w _⟩
    case round =>
      obtain ⟨k, hk, rfl, HK, HG⟩ := hrel
      by_cases hlt : k < n
      · have ht : decide ((k : Int) < (n : Int)) = true := by simp only [decide_eq_true_eq]; omega
        have hkl : (natI (joinTo gs u v k)).length = n := by rw [natI_length, joinTo_length]; exact HL.out
        obtain ⟨d1, d2⟩ := HK.out.at' hkl hlt
        have HST := Lib.hid (HK.out.store' hkl k (u : Int))
        have hkg : k < gs.length := by have := HL.out; omega
        rw [natI_el _ _ (by rw [joinTo_length]; exact hkg), joinTo_gi _ _ _ _ hkg] at d1
        have HGS : Hid (w.grownBy (wr.setCell ⟨g, k, none⟩ (.int .i64 (u : Int))) (some g)) := HG.out.trans ⟨rfl, rfl, rfl, by simp, fun k2 _ hne => Below.heap_setCell _ _ _ _ (fun e => hne (by rw [e]))⟩
        have hk0 : (0 : Int) ≤ (k : Int) := by omega
        have hk1 : (k : Int) < (n : Int) := by omega
        by_cases hx : gi gs k = v
        · have HST2 : Hid (OwnI (wr.setCell ⟨g, k, none⟩ (.int .i64 (u : Int))) lo (.slice (some ⟨g, 0, none⟩) n cap) (natI (joinTo gs u v (k + 1)))) := by unfold Hid; rw [← joinTo_set _ _ _ _ hkg hx]; exact HST.out
          rw [hx] at d1
          clear HST hkl hkg hx
          go_wp2_with fail
          go_roundw
          case rel => exact ⟨k + 1, by omega, by go_num, HST2, HGS⟩
          case measure => simp [intOf]; omega
        · have HK2 : Hid (OwnI wr lo (.slice (some ⟨g, 0, none⟩) n cap) (natI (joinTo gs u v (k + 1)))) := by unfold Hid; rw [← joinTo_skip _ _ _ _ hkg hx]; exact HK.out
          have t5 : ((gi gs k : Int) == (v : Int)) = false := by rw [beq_eq_false_iff_ne]; omega
          have t6 : (gi gs k == v) = false := by rw [beq_eq_false_iff_ne]; exact hx
          clear HST hkl hkg hx HGS
          generalize gi gs k = y at *
          go_wp2_with fail
          go_roundw
          case rel => exact ⟨k + 1, by omega, by go_num, HK2, HG⟩
          case measure => simp [intOf]; omega
      · have ht : decide ((k : Int) < (n : Int)) = false := by simp only [decide_eq_false_iff_not]; omega
        obtain rfl : k = n := by omega
        go_wp2_with fail
        go_ret
        exact ⟨rfl, by rw [HJ.out]; exact HK.out, HG.out⟩
end Go.Proofs.Ytehnbalbpfmijaa
