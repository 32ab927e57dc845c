/- What the claim's walk rests on: parts Drawn, Ints, OwnS, Append, Grown, Flat, IntS, Tri. -/
import Derived.Test.YtehnbalbpfmijaaBasic
import Derived.Test.YtehnbalbpfmijaaMem
import Derived.IntWalk
import Derived.Below
import Derived.Deep.QuietTactic
import Derived.BigQuiet
import Derived.Deep.Draws
import Derived.Deep.OwnRows
import Derived.Deep.AppendLies
import Derived.Maps.AppendAt
import Derived.OwnWalk
import Derived.Laws.MakeOwn
namespace Go.Proofs.Ytehnbalbpfmijaa
open Go.RowKit

def Drawn (w w' : World) : Prop := ∃ n, w' = w.drewN n
theorem Drawn.refl (w : World) : Drawn w w := ⟨0, rfl⟩
theorem Drawn.more {w w' : World} (h : Drawn w w') (n : Nat) : Drawn w (w'.drewN n) := by
  obtain ⟨m, rfl⟩ := h
  exact ⟨m + n, by rw [World.drewN_drewN]⟩
theorem Drawn.drew {w w' : World} (h : Drawn w w') : Drawn w w'.drew := h.more 1
theorem Drawn.trans {a b c : World} (h : Drawn a b) (k : Drawn b c) : Drawn a c := by
  obtain ⟨m, rfl⟩ := k; exact h.more m
theorem Drawn.below {w w' : World} (h : Drawn w w') (B : Nat) : Below B w w' := by
  obtain ⟨n, rfl⟩ := h; exact ⟨rfl, rfl, rfl, Nat.le_refl _, fun _ _ => rfl⟩

theorem quo_bd (x y : Nat) : 0 ≤ (x : Int) / (y : Int) ∧ (x : Int) / (y : Int) ≤ (x : Int) := by
  have h : x / y ≤ x := Nat.div_le_self x y
  have h0 : 0 ≤ ((x / y : Nat) : Int) := Int.natCast_nonneg _
  have h1 : ((x / y : Nat) : Int) ≤ (x : Int) := Int.ofNat_le.2 h
  rw [Int.natCast_ediv] at h0 h1
  exact ⟨h0, h1⟩

end Go.Proofs.Ytehnbalbpfmijaa

namespace Go.Proofs.Ytehnbalbpfmijaa
open Go.RowKit

/-- A new block reads as what it holds. -/
theorem rd_new (w : World) (cs : Array Value) (t : TypeId) : Rd (w.alloc (.cells cs t)) (w.heap.size + 1) (some ⟨w.heap.size, 0, none⟩) cs.toList :=
  fun _ => ⟨_, rfl, Nat.lt_succ_self _, World.news_of_block (heap_alloc_new w _)⟩

/-- All numbers from the k-th on lie in a range. -/
def allB (zs : List Int) (a b : Int) : Bool := zs.all fun z => inB z a b
theorem allB_drop (zs : List Int) (a b : Int) (k : Nat) (hk : k < zs.length) : allB (zs.drop k) a b = (inB zs[k] a b && allB (zs.drop (k + 1)) a b) := by
  unfold allB
  rw [List.drop_eq_getElem_cons hk, List.all_cons]

set_option maxHeartbeats 400000 in
theorem allWithin_any (v : Value) (zs : List Int) (a b : Int) (B : Nat) (w : World) (h : RdI w B v zs) :
    Calls Try.prog 172 #[v, .int .i64 a, .int .i64 b] w fun e w' => e = .returned (.bool (allB zs a b)) ∧ w = w' := by
  obtain ⟨A, c, rfl, h1, h2, h3⟩ := h
  unfold maxLen at h2
  generalize hr : allB zs a b = r
  have HR : Hid (allB (zs.drop 0) a b = r) := hr
  clear hr
  go_enter Try.func172, Try.ntmps172
  go_wp2
  go_loop [11] (fun i => ∃ k : Nat, k ≤ zs.length ∧ i = .int .i64 k ∧ Hid (allB (zs.drop k) a b = r)) (fun i => zs.length - (intOf i).toNat)
  case atStart => exact ⟨0, Nat.zero_le _, rfl, HR⟩
  case round =>
    obtain ⟨k, hk, rfl, HE⟩ := hrel
    by_cases hlt : k < zs.length
    · have hs := allB_drop zs a b k hlt
      obtain ⟨ad, rfl, hb, hc⟩ := h3.int hlt
      cases hi : inB zs[k] a b
      · have HF : Hid (r = false) := by unfold Hid; rw [← HE.out, hs, hi]; rfl
        clear hs
        go_wp2_with (go_at_call 70; refine (within_any _ _ _ _).mono ?_; rintro e w' ⟨rfl, rfl⟩)
        go_ret
        exact ⟨ret_bool HF.out.symm, rfl⟩
      · have HF : Hid (allB (zs.drop (k + 1)) a b = r) := by unfold Hid; rw [← HE.out, hs, hi]; rfl
        clear hs
        go_wp2_with (go_at_call 70; refine (within_any _ _ _ _).mono ?_; rintro e w' ⟨rfl, rfl⟩)
        go_round
        case rel => exact ⟨k + 1, by omega, by go_num, HF⟩
        case measure => simp [intOf]; omega
    · have HF : Hid (r = true) := by unfold Hid; rw [← HE.out, List.drop_of_length_le (by omega)]; rfl
      go_wp2
      go_ret
      exact ⟨ret_bool HF.out.symm, rfl⟩
end Go.Proofs.Ytehnbalbpfmijaa

namespace Go.Proofs.Ytehnbalbpfmijaa

/-- p holds from k up to n. -/
def upFrom (p : Nat → Bool) (k n : Nat) : Bool := (List.range' k (n - k)).all p
theorem upFrom_step (p : Nat → Bool) (k n : Nat) (h : k < n) : upFrom p k n = (p k && upFrom p (k + 1) n) := by
  unfold upFrom
  rw [show n - k = (n - (k + 1)) + 1 from by omega, List.range'_succ, List.all_cons]
theorem upFrom_end (p : Nat → Bool) (k n : Nat) (h : n ≤ k) : upFrom p k n = true := by
  unfold upFrom
  rw [show n - k = 0 from by omega]; rfl
theorem upFrom_iff (p : Nat → Bool) (k n : Nat) : upFrom p k n = true ↔ ∀ j, k ≤ j → j < n → p j = true := by
  unfold upFrom
  rw [List.all_eq_true]
  constructor
  · intro h j h1 h2; exact h j (by rw [List.mem_range'_1]; omega)
  · intro h j hj; rw [List.mem_range'_1] at hj; exact h j hj.1 (by omega)

/-- An element, a row. (Closed to simp.) -/
def el (zs : List Int) (k : Nat) : Int := zs.getD k 0
def rw' (zss : List (List Int)) (i : Nat) : List Int := zss.getD i []
theorem el_get (zs : List Int) (k : Nat) (h : k < zs.length) : el zs k = zs[k] := by simp [el, h]
theorem rw_get (zss : List (List Int)) (k : Nat) (h : k < zss.length) : rw' zss k = zss[k] := by simp [rw', h]

end Go.Proofs.Ytehnbalbpfmijaa

namespace Go.Proofs.Ytehnbalbpfmijaa
open Go.RowKit

theorem infoInt : (Try.prog.info? 3).map (fun i => (i.zero, i.size, i.bytes)) = some (some (.int .i64 0), 1, 8) := by kernel_rfl

/-- v owns a row of integers in a block from lo on. -/
def OwnI (w : World) (lo : Nat) (v : Value) (zs : List Int) : Prop := w.ownsRow lo 3 1 v zs.length (zs.map (Value.int .i64))
theorem OwnI.rd {w : World} {lo : Nat} {v : Value} {zs : List Int} (h : OwnI w lo v zs) : RdI w w.heap.size v zs := by
  rcases h.2 with ⟨rfl, h0⟩ | ⟨g, cap, cur, rfl, hb, hh, hn, hm, hs, ht⟩
  · have : zs = [] := List.eq_nil_of_length_eq_zero h0
    subst this
    exact ⟨none, 0, rfl, Nat.le_refl _, Nat.zero_le _, Rd.nil⟩
  · refine ⟨some ⟨g, 0, none⟩, cap, rfl, hn, hm, fun _ => ⟨_, rfl, (World.ownsRow.lt h g rfl).2, World.ownsRow.cells h rfl⟩⟩
theorem OwnI.lt {w : World} {lo : Nat} {v : Value} {zs : List Int} (h : OwnI w lo v zs) : ∀ k, v.ownBlock = some k → lo ≤ k ∧ k < w.heap.size := World.ownsRow.lt h
theorem OwnI.below {w w' : World} {lo : Nat} {v : Value} {zs : List Int} (h : OwnI w lo v zs) (hb : Below w.heap.size w w') : OwnI w' lo v zs := by
  refine World.ownsRow.kept h (row := none) ⟨hb.os, hb.tape, hb.output, hb.size, fun k hk _ => hb.block k hk⟩ ?_
  cases v.ownBlock
  · exact .inl rfl
  · exact .inr (by simp)
theorem OwnI.of_row {w : World} {lo g : Nat} {zs : List Int} (hg : lo ≤ g) (hl : zs.length ≤ 9223372036854775807) (h : w.rowIs g 3 zs.length (fun j => .int .i64 (zs.getD j 0))) : OwnI w lo (.slice (some ⟨g, 0, none⟩) zs.length zs.length) zs := by
  obtain ⟨c, hb, hs, hc⟩ := h
  refine ⟨by simp, .inr ⟨g, zs.length, c, rfl, hg, hb, Nat.le_refl _, by unfold maxLen; omega, by omega, ?_⟩⟩
  rw [List.take_of_length_le (by simp; omega)]
  apply List.ext_getElem?
  intro j
  by_cases hj : j < zs.length
  · rw [Array.getElem?_toList, hc j hj]; simp [hj]
  · rw [List.getElem?_eq_none (by simp; omega), List.getElem?_eq_none (by simp; omega)]

/-- A new row of integers comes back, nothing else has turned. -/
def RetOwnI (w : World) (zs : List Int) (e : Ending) (w' : World) : Prop := ∃ v, e = .returned v ∧ OwnI w' w.heap.size v zs ∧ Below w.heap.size w w'

end Go.Proofs.Ytehnbalbpfmijaa

namespace Go.Proofs.Ytehnbalbpfmijaa
open Go.RowKit

section
variable {P : Program} (w : World)
theorem run_append_nilsrc (base : Nat) (t ty e : TypeId) (i : TypeInfo) (size : Nat) (ht : P.underlying t = some (.slice e)) (hi : P.info? e = some i) (v : Value) (n : Nat) (xs : List Value)
    (hown : w.ownsRow base e size v n xs) (c : Nat) : (Builtin.append_ #[t, t] ty #[v, .slice none 0 c]).run P w = .ok v w := by
  rcases hown.2 with ⟨rfl, _⟩ | ⟨g, cap, cur, rfl, _, _, hnc, _⟩
  · simp [Builtin.append_, run_underlying ht, sizeOf, typeInfo, hi, Builtin.lenOf, Builtin.firstCells]
  · simp [Builtin.append_, run_underlying ht, sizeOf, typeInfo, hi, Builtin.lenOf, Builtin.firstCells, hnc, storeCells]

theorem run_append_src (base : Nat) (t ty e : TypeId) (i : TypeInfo) (z : Value) (bytes : Nat) (ht : P.underlying t = some (.slice e)) (hi : P.info? e = some i) (hz : i.zero = some z)
    (hsize : i.size = 1) (hby : i.bytes = bytes) (hzs : z.cells.size = 1) (v : Value) (n : Nat) (xs : List Value) (hown : w.ownsRow base e 1 v n xs)
    (B : Nat) (A : Option Addr) (c : Nat) (news : List Value) (hr : Rd w B A news) (h1 : ∀ u ∈ news, u.oneCell' = true)
    (h63 : n + news.length ≤ maxLen) (hbytes : (n + news.length) * bytes ≤ 140737488355328) (hbase : base ≤ w.heap.size) :
    ∃ v' w', (Builtin.append_ #[t, t] ty #[v, .slice A news.length c]).run P w = .ok v' w' ∧ w'.ownsRow base e 1 v' (n + news.length) (xs ++ news) ∧ w.grownBy w' v.ownBlock ∧
      (v'.ownBlock = v.ownBlock ∨ v'.ownBlock = some w.heap.size) := by
  have hgo : ∀ ad, (∀ j u, news[j]? = some u → w.cell? (ad.add j) = some u) → ∃ v' w', (Builtin.append_ #[t, t] ty #[v, .slice (some ad) news.length c]).run P w = .ok v' w' ∧ w'.ownsRow base e 1 v' (n + news.length) (xs ++ news) ∧
      w.grownBy w' v.ownBlock ∧ (v'.ownBlock = v.ownBlock ∨ v'.ownBlock = some w.heap.size) := fun ad hcells => by
    obtain ⟨v', w', hrun, h2, h3, _, h5⟩ := run_append_own_at (P := P) w base t ty e i z 1 bytes ht hi hz hsize hby hzs (by omega) v n xs hown ad news.length c news (by omega) hcells h1 h63 hbytes hbase
    exact ⟨v', w', hrun, h2, h3, h5⟩
  cases hn : news with
  | nil =>
    subst hn
    cases A with
    | none => exact ⟨v, w, run_append_nilsrc w base t ty e i 1 ht hi v n xs hown c, by simpa using hown, World.grownBy.refl w _, .inl rfl⟩
    | some ad => exact hgo ad (fun j u hu => by simp at hu)
  | cons y ys =>
    rw [← hn]
    obtain ⟨ad, rfl, _, hc⟩ := hr (by rw [hn]; simp)
    exact hgo ad hc

theorem wpList_append_src {ops : Array Oper} {rest : List Oper} {o : Oper} {a : Act} {Q : Exit → Act → World → Prop} (hgd : o.guard = none) (s x : Operand) (t : TypeId)
    (ho : o.op = .call { callee := .builtin .append, args := #[s, x], argTypes := #[t, t] })
    (base : Nat) (e : TypeId) (i : TypeInfo) (z : Value) (bytes : Nat) (ht : P.underlying t = some (.slice e)) (hi : P.info? e = some i) (hz : i.zero = some z)
    (hsize : i.size = 1) (hby : i.bytes = bytes) (hzs : z.cells.size = 1) (v : Value) (n : Nat) (xs : List Value) (hs : a.eval s = v) (hown : w.ownsRow base e 1 v n xs)
    (B : Nat) (A : Option Addr) (c m : Nat) (news : List Value) (hx : a.eval x = .slice A m c) (hm : m = news.length) (hr : Rd w B A news) (h1 : ∀ u ∈ news, u.oneCell' = true)
    (h63 : n + news.length ≤ maxLen) (hbytes : (n + news.length) * bytes ≤ 140737488355328) (hbase : base ≤ w.heap.size)
    (h : ∀ v' w', w'.ownsRow base e 1 v' (n + news.length) (xs ++ news) → w.grownBy w' v.ownBlock → (v'.ownBlock = v.ownBlock ∨ v'.ownBlock = some w.heap.size) → wpList P ops Q rest (a.put o.dst v') w') :
    wpList P ops Q (o :: rest) a w := by
  subst hm
  refine wpList_plain hgd fun K hK => ?_
  obtain ⟨v', w', hrun, h2, h3, h4⟩ := run_append_src (P := P) w base t o.type e i z bytes ht hi hz hsize hby hzs v n xs hown B A c news hr h1 h63 hbytes hbase
  unfold Oper.wp execOp
  simp only [ho, resolve, invoke, builtin, Sem.run_bind, Sem.run_pure, Result.andThen_ok, List.map_toArray, List.map_cons, List.map_nil, hs, hx, hrun]
  exact hK _ _ (h v' w' h2 h3 h4)
end

/-- A row of integers grows by one, by many. -/
theorem OwnI.one {w' : World} {lo n : Nat} {v' : Value} {zs : List Int} {z : Int} (hn : n = zs.length + 1) (h : w'.ownsRow lo 3 1 v' n (zs.map (Value.int .i64) ++ [.int .i64 z])) : OwnI w' lo v' (zs ++ [z]) := by
  subst hn
  unfold OwnI
  rw [List.length_append, List.map_append]
  exact h
theorem OwnI.many {w' : World} {lo n : Nat} {v' : Value} {zs ys : List Int} (hn : n = zs.length + ys.length) (h : w'.ownsRow lo 3 1 v' n (zs.map (Value.int .i64) ++ ys.map (Value.int .i64))) : OwnI w' lo v' (zs ++ ys) := by
  subst hn
  unfold OwnI
  rw [List.length_append, List.map_append]
  exact h
theorem oneInts (ys : List Int) : ∀ u ∈ ys.map (Value.int .i64), u.oneCell' = true := by
  intro u hu
  obtain ⟨z, _, rfl⟩ := List.mem_map.1 hu
  rfl

set_option maxHeartbeats 1000000 in
theorem copyOf_any (v : Value) (zs : List Int) (B : Nat) (w : World) (h : RdI w B v zs) (hB : B ≤ w.heap.size) (hl : zs.length ≤ 1099511627776) :
    Calls Try.prog 160 #[v] w (RetOwnI w zs) := by
  obtain ⟨i0, hi0, hz0, hz1, hz2⟩ := info_parts infoInt
  obtain ⟨A, c, rfl, h1, h2, h3⟩ := h
  unfold maxLen at h2
  have H3 := Lib.hid h3; clear h3
  go_enter Try.func160, Try.ntmps160
  have hown0 := World.ownsRow_lit (base := w.heap.size) (e := 3) (size := 1) w #[] 0 (Nat.le_refl _) (by simp [maxLen]) (by simp)
  have H0 := Lib.hid hown0; clear hown0
  have hb0 : Below w.heap.size w (w.alloc (.cells #[] 3)) := (Below.refl _ _).alloc (Nat.le_refl _) _
  have HB0 := Lib.hid hb0; clear hb0
  go_wp2_with (at_builtin; refine wpList_append_src _ rfl (.tmp 3) (.tmp 4) _ rfl w.heap.size 3 i0 _ 8 Try.underlying31 hi0 hz0 hz1 hz2 rfl (.slice (some ⟨w.heap.size, 0, none⟩) 0 0) 0 [] rfl H0.out B A c zs.length (zs.map (Value.int .i64)) rfl (by simp) (H3.out.below (HB0.out.mono hB)) (oneInts zs) (by simp [maxLen]; omega) (by simp; omega) (by simp) ?_; intro v1 w1 hown1 hg1 hat1)
  go_ret
  refine ⟨v1, rfl, OwnI.many (zs := []) (by simp) hown1, HB0.out.grown hg1 (by simp) (fun k hk => by simp [Value.ownBlock] at hk; omega)⟩
end Go.Proofs.Ytehnbalbpfmijaa

namespace Go.Proofs.Ytehnbalbpfmijaa
open Go.RowKit

theorem OwnI.grown {w w' : World} {lo : Nat} {v : Value} {zs : List Int} {row : Option Nat} (h : OwnI w lo v zs) (hg : w.grownBy w' row) (hne : ∀ k, v.ownBlock = some k → some k = row → False) : OwnI w' lo v zs :=
  World.ownsRow.kept h hg (by
    cases e : v.ownBlock
    · exact .inl rfl
    · exact .inr (fun e2 => hne _ e e2))
theorem rowIs_below {w w' : World} {b : Nat} {t : TypeId} {n : Nat} {f : Nat → Value} (h : w.rowIs b t n f) (hb : Below w.heap.size w w') : w'.rowIs b t n f := h.of_block (hb.block _ h.lt)
theorem rowIs_grown {w w' : World} {b : Nat} {t : TypeId} {n : Nat} {f : Nat → Value} {row : Option Nat} (h : w.rowIs b t n f) (hg : w.grownBy w' row) (hne : some b ≠ row) : w'.rowIs b t n f := h.of_block (hg.block _ h.lt hne)
end Go.Proofs.Ytehnbalbpfmijaa

namespace Go.Proofs.Ytehnbalbpfmijaa
open Go.RowKit

/-- A kind of element: its type, the slice's type, cells, bytes, zero, and the cells of one. -/
structure El (α : Type) where
  e : TypeId
  t : TypeId
  s : Nat
  b : Nat
  z : Value
  f : α → List Value
structure El.Ok {α : Type} (E : El α) (P : Program) : Prop where
  und : P.underlying E.t = some (.slice E.e)
  info : (P.info? E.e).map (fun i => (i.zero, i.size, i.bytes)) = some (some E.z, E.s, E.b)
  zs : E.z.cells.size = E.s
  pos : 0 < E.s
  few : E.b ≤ 1024
  len : ∀ x, (E.f x).length = E.s
  one : ∀ x, ∀ u ∈ E.f x, u.oneCell' = true

section
variable {α : Type} {E : El α} {P : Program}
theorem flat_length (h : ∀ x, (E.f x).length = E.s) : ∀ xs : List α, (xs.flatMap E.f).length = xs.length * E.s
  | [] => by simp
  | x :: xs => by rw [List.flatMap_cons, List.length_append, flat_length h xs, h, List.length_cons, Nat.succ_mul]; omega
theorem flat_get (h : ∀ x, (E.f x).length = E.s) : ∀ (xs : List α) (j i : Nat) (x : α), xs[j]? = some x → i < E.s → (xs.flatMap E.f)[j * E.s + i]? = (E.f x)[i]?
  | [], j, i, x, hx, _ => by simp at hx
  | y :: ys, 0, i, x, hx, hi => by
    simp only [List.getElem?_cons_zero, Option.some.injEq] at hx
    subst hx
    rw [List.flatMap_cons, Nat.zero_mul, Nat.zero_add, List.getElem?_append_left (by rw [h]; exact hi)]
  | y :: ys, j + 1, i, x, hx, hi => by
    rw [List.getElem?_cons_succ] at hx
    rw [List.flatMap_cons, List.getElem?_append_right (by rw [h, Nat.succ_mul]; omega), h, show (j + 1) * E.s + i - E.s = j * E.s + i by rw [Nat.succ_mul]; omega]
    exact flat_get h ys j i x hx hi
theorem flat_set (h : ∀ x, (E.f x).length = E.s) : ∀ (xs : List α) (j i : Nat) (x x' : α) (u : Value), xs[j]? = some x → i < E.s → E.f x' = (E.f x).set i u → (xs.set j x').flatMap E.f = (xs.flatMap E.f).set (j * E.s + i) u
  | [], j, i, x, x', u, hx, _, _ => by simp at hx
  | y :: ys, 0, i, x, x', u, hx, hi, he => by
    simp only [List.getElem?_cons_zero, Option.some.injEq] at hx
    subst hx
    rw [List.set_cons_zero, List.flatMap_cons, List.flatMap_cons, he, Nat.zero_mul, Nat.zero_add, List.set_append_left _ _ (by rw [h]; exact hi)]
  | y :: ys, j + 1, i, x, x', u, hx, hi, he => by
    rw [List.getElem?_cons_succ] at hx
    rw [List.set_cons_succ, List.flatMap_cons, List.flatMap_cons, List.set_append_right _ _ (by rw [h, Nat.succ_mul]; omega), h, show (j + 1) * E.s + i - E.s = j * E.s + i by rw [Nat.succ_mul]; omega,
      flat_set h ys j i x x' u hx hi he]

/-- v reads as the elements xs, below block B. -/
def RdF (E : El α) (w : World) (B : Nat) (v : Value) (xs : List α) : Prop :=
  ∃ A c, v = .slice A xs.length c ∧ xs.length ≤ c ∧ c ≤ maxLen ∧ ∀ j x, xs[j]? = some x → ∃ ad, A = some ad ∧ ad.block < B ∧ ∀ i u, (E.f x)[i]? = some u → w.cell? (ad.add (j * E.s + i)) = some u
theorem RdF.keep {w w' : World} {B : Nat} {v : Value} {xs : List α} (h : RdF E w B v xs) (hk : ∀ p : Addr, p.block < B → w'.cell? p = w.cell? p) : RdF E w' B v xs := by
  obtain ⟨A, c, e, h1, h2, h3⟩ := h
  refine ⟨A, c, e, h1, h2, fun j x hx => ?_⟩
  obtain ⟨ad, e2, hb, hc⟩ := h3 j x hx
  exact ⟨ad, e2, hb, fun i u hu => (hk _ (by rw [addBlock]; exact hb)).trans (hc i u hu)⟩
theorem RdF.below {w w' : World} {B : Nat} {v : Value} {xs : List α} (h : RdF E w B v xs) (hb : Below B w w') : RdF E w' B v xs := h.keep fun _ hp => hb.cell hp
theorem RdF.more {w : World} {B B' : Nat} {v : Value} {xs : List α} (h : RdF E w B v xs) (hB : B ≤ B') : RdF E w B' v xs := by
  obtain ⟨A, c, e, h1, h2, h3⟩ := h
  refine ⟨A, c, e, h1, h2, fun j x hx => ?_⟩
  obtain ⟨ad, e2, hb, hc⟩ := h3 j x hx
  exact ⟨ad, e2, by omega, hc⟩

/-- v owns a row of the elements xs in a block from lo on. -/
def OwnF (E : El α) (w : World) (lo : Nat) (v : Value) (xs : List α) : Prop := w.ownsRow lo E.e E.s v xs.length (xs.flatMap E.f)
section
variable {w w' : World} {lo lo' : Nat} {v : Value} {xs : List α}
theorem OwnF.lt (h : OwnF E w lo v xs) : ∀ k, v.ownBlock = some k → lo ≤ k ∧ k < w.heap.size := World.ownsRow.lt h
theorem OwnF.kept {row : Option Nat} (h : OwnF E w lo v xs) (hg : w.grownBy w' row) (hne : ∀ k, v.ownBlock = some k → some k = row → False) : OwnF E w' lo v xs :=
  World.ownsRow.kept h hg (by
    cases e : v.ownBlock
    · exact .inl rfl
    · exact .inr (fun e2 => hne _ e e2))
theorem OwnF.below (h : OwnF E w lo v xs) (hb : Below w.heap.size w w') : OwnF E w' lo v xs :=
  h.kept (row := none) ⟨hb.os, hb.tape, hb.output, hb.size, fun k hk _ => hb.block k hk⟩ fun _ _ e => by simp at e
theorem OwnF.mono (h : OwnF E w lo v xs) (hl : lo' ≤ lo) : OwnF E w lo' v xs := by
  refine ⟨h.1, ?_⟩
  rcases h.2 with h2 | ⟨g, cap, cur, e, hb, r⟩
  · exact .inl h2
  · exact .inr ⟨g, cap, cur, e, by omega, r⟩
theorem OwnF.rd (hE : E.Ok P) (h : OwnF E w lo v xs) : RdF E w w.heap.size v xs := by
  rcases h.2 with ⟨rfl, h0⟩ | ⟨g, cap, cur, rfl, hb, hh, hn, hm, hs, ht⟩
  · have : xs = [] := List.eq_nil_of_length_eq_zero h0
    subst this
    exact ⟨none, 0, rfl, Nat.le_refl _, Nat.zero_le _, fun j x hx => by simp at hx⟩
  · refine ⟨some ⟨g, 0, none⟩, cap, rfl, hn, hm, fun j x hx => ⟨_, rfl, (World.ownsRow.lt h g rfl).2, fun i u hu => ?_⟩⟩
    refine World.ownsRow.cells h rfl _ _ ?_
    have hi : i < E.s := by have := (List.getElem?_eq_some_iff.1 hu).1; rw [hE.len] at this; exact this
    rw [flat_get hE.len xs j i x hx hi]; exact hu
theorem OwnF.nil : OwnF E w lo (.slice none 0 0) ([] : List α) := by simpa [OwnF] using World.ownsRow_nil w lo E.e E.s
theorem OwnF.empty (hlo : lo ≤ w.heap.size) : OwnF E (w.alloc (.cells #[] E.e)) lo (.slice (some ⟨w.heap.size, 0, none⟩) 0 0) ([] : List α) := by
  simpa [OwnF] using World.ownsRow_lit (base := lo) (e := E.e) (size := E.s) w #[] 0 hlo (by simp [maxLen]) (by simp)
/-- One cell of one element is written. -/
theorem OwnF.store (hE : E.Ok P) {g cap : Nat} {x x' : α} {j i : Nat} {u : Value} (h : OwnF E w lo (.slice (some ⟨g, 0, none⟩) xs.length cap) xs) (hx : xs[j]? = some x) (hi : i < E.s) (he : E.f x' = (E.f x).set i u) :
    OwnF E (w.setCell ⟨g, j * E.s + i, none⟩ u) lo (.slice (some ⟨g, 0, none⟩) (xs.set j x').length cap) (xs.set j x') ∧ w.grownBy (w.setCell ⟨g, j * E.s + i, none⟩ u) (some g) ∧ lo ≤ g := by
  obtain ⟨h1, h2⟩ := World.ownsRow.stored h (j * E.s + i) u
  refine ⟨?_, h2, (World.ownsRow.lt h g rfl).1⟩
  unfold OwnF
  rw [flat_set hE.len xs j i x x' u hx hi he, List.length_set]
  exact h1
end

/-- A slice of the call's own that grows: w is the world at the call, wr the world now. -/
def Acc (E : El α) (w : World) (lo : Nat) (wr : World) (v : Value) (xs : List α) : Prop := OwnF E wr lo v xs ∧ Below w.heap.size w wr ∧ w.heap.size ≤ lo ∧ lo ≤ wr.heap.size
theorem Acc.nil (w : World) : Acc E w w.heap.size w (.slice none 0 0) ([] : List α) := ⟨OwnF.nil, Below.refl _ _, Nat.le_refl _, Nat.le_refl _⟩
theorem Acc.start (w : World) : Acc E w w.heap.size (w.alloc (.cells #[] E.e)) (.slice (some ⟨w.heap.size, 0, none⟩) 0 0) ([] : List α) :=
  ⟨OwnF.empty (Nat.le_refl _), (Below.refl _ _).alloc (Nat.le_refl _) _, Nat.le_refl _, by simp⟩
theorem Acc.startAt {w wr : World} {lo : Nat} (hb : Below w.heap.size w wr) (h1 : w.heap.size ≤ lo) (h2 : lo ≤ wr.heap.size) : Acc E w lo (wr.alloc (.cells #[] E.e)) (.slice (some ⟨wr.heap.size, 0, none⟩) 0 0) ([] : List α) :=
  ⟨OwnF.empty h2, hb.alloc hb.size _, h1, by simp; omega⟩
theorem Acc.below {w wr w1 : World} {lo : Nat} {v : Value} {xs : List α} (h : Acc E w lo wr v xs) (hb : Below wr.heap.size wr w1) : Acc E w lo w1 v xs :=
  ⟨h.1.below hb, h.2.1.trans (hb.mono h.2.1.size), h.2.2.1, Nat.le_trans h.2.2.2 hb.size⟩
/-- How a growing slice of the call's own leaves the rest: only its own row, in the block it had, may have been written. -/
def Grew (wr w1 : World) (v v' : Value) : Prop := wr.grownBy w1 v.ownBlock ∧ ∃ g, v'.ownBlock = some g ∧ (v.ownBlock = some g ∨ wr.heap.size ≤ g) ∧ g < w1.heap.size

theorem wpList_pushes (hE : E.Ok P) {ops : Array Oper} {rest : List Oper} {o : Oper} {a : Act} {Q : Exit → Act → World → Prop} (hgd : o.guard = none) (s x : Operand)
    (ho : o.op = .call { callee := .builtin .append, args := #[s, x], argTypes := #[E.t, E.t] }) {w wr : World} {lo : Nat} {v : Value} {xs : List α} (H : Acc E w lo wr v xs) (hs : a.eval s = v)
    (ys : List α) (m : Nat) (hm : m = ys.length) (hpos : 0 < m) (cs : Array Value) (hcs : cs.toList = ys.flatMap E.f) (h0 : Nat) (hx : a.eval x = .slice (some ⟨h0, 0, none⟩) m m) (hh : wr.heap.size = h0) (hl : xs.length + m ≤ 1073741824)
    (h : ∀ v' w', Hid (Acc E w lo w' v' (xs ++ ys)) → Hid (Grew wr w' v v') → wpList P ops Q rest (a.put o.dst v') w') :
    wpList P ops Q (o :: rest) a (wr.alloc (.cells cs E.e)) := by
  subst hm hh
  obtain ⟨i, hi, hzz⟩ := Option.map_eq_some_iff.1 hE.info
  simp only [Prod.mk.injEq] at hzz
  obtain ⟨hz, hsz, hby⟩ := hzz
  obtain ⟨h1, h2, h3, h4⟩ := H
  have hal := (Below.refl wr.heap.size wr).alloc (Nat.le_refl _) (.cells cs E.e)
  have hown := h1.below hal
  refine wpList_append_lies (P := P) _ hgd s x E.t ho lo E.e i E.z E.s E.b hE.und hi hz hsz hby hE.zs hE.pos v xs.length (xs.flatMap E.f) hs hown ⟨wr.heap.size, 0, none⟩ ys.length ys.length (ys.flatMap E.f) hx
    (flat_length hE.len ys) (by rw [← hcs]; exact World.news_of_block (heap_alloc_new wr _)) (fun u hu => ?_) hpos (by unfold maxLen; omega) ?_ (by simp; omega) (wr.heap.size + 1) (by simp) ?_
  · obtain ⟨y, _, hy⟩ := List.mem_flatMap.1 hu
    exact hE.one y u hy
  · have h5 := hE.few
    have : (xs.length + ys.length) * E.b ≤ 1073741824 * 1024 := Nat.mul_le_mul hl h5
    omega
  · intro g cap w' hown' hg hat hlt
    have hg2 : wr.grownBy w' v.ownBlock := ⟨hg.os, hg.tape, hg.output, Nat.le_trans (by simp) hg.size, fun k hk hne => (hg.block k (by simp; omega) hne).trans (Below.heap_alloc _ _ _ hk)⟩
    refine h (.slice (some ⟨g, 0, none⟩) (xs.length + ys.length) cap) w' ⟨?_, ?_, h3, ?_⟩ ⟨hg2, g, rfl, ?_, hlt⟩
    · unfold OwnF; rw [List.length_append, List.flatMap_append]; exact hown'
    · exact h2.grown hg2 h2.size fun k hk => by have := (h1.lt k hk).1; omega
    · have := hg2.size; omega
    · rcases hat with hat | hat
      · exact .inl hat
      · exact .inr (by omega)
theorem step_pushes (hE : E.Ok P) {ops : Array Oper} {o : Oper} {a : Act} {K : Act → World → Prop} {Q : Exit → Act → World → Prop} {X : Prop} (hgd : o.guard = none) (s x : Operand)
    (ho : o.op = .call { callee := .builtin .append, args := #[s, x], argTypes := #[E.t, E.t] }) {w wr : World} {lo : Nat} {v : Value} {xs : List α} (H : Acc E w lo wr v xs) (hs : a.eval s = v)
    (ys : List α) (m : Nat) (hm : m = ys.length) (hpos : 0 < m) (cs : Array Value) (hcs : cs.toList = ys.flatMap E.f) (h0 : Nat) (hx : a.eval x = .slice (some ⟨h0, 0, none⟩) m m) (hh : wr.heap.size = h0) (hl : xs.length + m ≤ 1073741824)
    (h : ∀ v' w', Hid (Acc E w lo w' v' (xs ++ ys)) → Hid (Grew wr w' v v') → K (a.put o.dst v') w') :
    if Region.wanted o (yielded ops a.tmps) = true then Oper.wp P o a (wr.alloc (.cells cs E.e)) K Q else X := by
  subst hm hh
  obtain ⟨i, hi, hzz⟩ := Option.map_eq_some_iff.1 hE.info
  simp only [Prod.mk.injEq] at hzz
  obtain ⟨hz, hsz, hby⟩ := hzz
  obtain ⟨h1, h2, h3, h4⟩ := H
  have hal := (Below.refl wr.heap.size wr).alloc (Nat.le_refl _) (.cells cs E.e)
  have hown := h1.below hal
  refine step_append_lies (P := P) _ hgd s x E.t ho lo E.e i E.z E.s E.b hE.und hi hz hsz hby hE.zs hE.pos v xs.length (xs.flatMap E.f) hs hown ⟨wr.heap.size, 0, none⟩ ys.length ys.length (ys.flatMap E.f) hx
    (flat_length hE.len ys) (by rw [← hcs]; exact World.news_of_block (heap_alloc_new wr _)) (fun u hu => ?_) hpos (by unfold maxLen; omega) ?_ (by simp; omega) (wr.heap.size + 1) (by simp) ?_
  · obtain ⟨y, _, hy⟩ := List.mem_flatMap.1 hu
    exact hE.one y u hy
  · have h5 := hE.few
    have : (xs.length + ys.length) * E.b ≤ 1073741824 * 1024 := Nat.mul_le_mul hl h5
    omega
  · intro g cap w' hown' hg hat hlt
    have hg2 : wr.grownBy w' v.ownBlock := ⟨hg.os, hg.tape, hg.output, Nat.le_trans (by simp) hg.size, fun k hk hne => (hg.block k (by simp; omega) hne).trans (Below.heap_alloc _ _ _ hk)⟩
    refine h (.slice (some ⟨g, 0, none⟩) (xs.length + ys.length) cap) w' ⟨?_, ?_, h3, ?_⟩ ⟨hg2, g, rfl, ?_, hlt⟩
    · unfold OwnF; rw [List.length_append, List.flatMap_append]; exact hown'
    · exact h2.grown hg2 h2.size fun k hk => by have := (h1.lt k hk).1; omega
    · have := hg2.size; omega
    · rcases hat with hat | hat
      · exact .inl hat
      · exact .inr (by omega)
theorem step_push (hE : E.Ok P) {ops : Array Oper} {o : Oper} {a : Act} {K : Act → World → Prop} {Q : Exit → Act → World → Prop} {X : Prop} (hgd : o.guard = none) (s x : Operand)
    (ho : o.op = .call { callee := .builtin .append, args := #[s, x], argTypes := #[E.t, E.t] }) {w wr : World} {lo : Nat} {v : Value} {xs : List α} (H : Acc E w lo wr v xs) (hs : a.eval s = v)
    (y : α) (cs : Array Value) (hcs : cs.toList = E.f y) (h0 : Nat) (hx : a.eval x = .slice (some ⟨h0, 0, none⟩) 1 1) (hh : wr.heap.size = h0) (hl : xs.length + 1 ≤ 1073741824)
    (h : ∀ v' w', Hid (Acc E w lo w' v' (xs ++ [y])) → Hid (Grew wr w' v v') → K (a.put o.dst v') w') :
    if Region.wanted o (yielded ops a.tmps) = true then Oper.wp P o a (wr.alloc (.cells cs E.e)) K Q else X :=
  step_pushes hE hgd s x ho H hs [y] 1 rfl (Nat.lt_succ_self _) cs (by rw [hcs]; simp) h0 hx hh hl h
theorem wpList_push (hE : E.Ok P) {ops : Array Oper} {rest : List Oper} {o : Oper} {a : Act} {Q : Exit → Act → World → Prop} (hgd : o.guard = none) (s x : Operand)
    (ho : o.op = .call { callee := .builtin .append, args := #[s, x], argTypes := #[E.t, E.t] }) {w wr : World} {lo : Nat} {v : Value} {xs : List α} (H : Acc E w lo wr v xs) (hs : a.eval s = v)
    (y : α) (cs : Array Value) (hcs : cs.toList = E.f y) (h0 : Nat) (hx : a.eval x = .slice (some ⟨h0, 0, none⟩) 1 1) (hh : wr.heap.size = h0) (hl : xs.length + 1 ≤ 1073741824)
    (h : ∀ v' w', Hid (Acc E w lo w' v' (xs ++ [y])) → Hid (Grew wr w' v v') → wpList P ops Q rest (a.put o.dst v') w') :
    wpList P ops Q (o :: rest) a (wr.alloc (.cells cs E.e)) :=
  wpList_pushes hE hgd s x ho H hs [y] 1 rfl (Nat.lt_succ_self _) cs (by rw [hcs]; simp) h0 hx hh hl h
/-- append of a whole slice. -/
theorem wpList_pushSrc (hE : E.Ok P) (hs1 : E.s = 1) {ops : Array Oper} {rest : List Oper} {o : Oper} {a : Act} {Q : Exit → Act → World → Prop} (hgd : o.guard = none) (s x : Operand)
    (ho : o.op = .call { callee := .builtin .append, args := #[s, x], argTypes := #[E.t, E.t] }) {w wr : World} {lo : Nat} {v : Value} {xs : List α} (H : Acc E w lo wr v xs) (hs : a.eval s = v)
    (ys : List α) (B : Nat) (A : Option Addr) (m c : Nat) (hr : Rd wr B A (ys.flatMap E.f)) (hx : a.eval x = .slice A m c) (hm : m = ys.length) (hl : xs.length + ys.length ≤ 1073741824)
    (h : ∀ v' w', Hid (Acc E w lo w' v' (xs ++ ys)) → Hid (wr.grownBy w' v.ownBlock ∧ (v'.ownBlock = v.ownBlock ∨ v'.ownBlock = some wr.heap.size)) → wpList P ops Q rest (a.put o.dst v') w') :
    wpList P ops Q (o :: rest) a wr := by
  obtain ⟨i, hi, hzz⟩ := Option.map_eq_some_iff.1 hE.info
  simp only [Prod.mk.injEq] at hzz
  obtain ⟨hz, hsz, hby⟩ := hzz
  obtain ⟨h1, h2, h3, h4⟩ := H
  have hown : wr.ownsRow lo E.e 1 v xs.length (xs.flatMap E.f) := by have := h1; unfold OwnF at this; rwa [hs1] at this
  have hly : (ys.flatMap E.f).length = ys.length := by rw [flat_length hE.len, hs1, Nat.mul_one]
  refine wpList_append_src wr hgd s x E.t ho lo E.e i E.z E.b hE.und hi hz (by rw [hsz, hs1]) hby (by rw [hE.zs, hs1]) v xs.length (xs.flatMap E.f) hs hown B A c m (ys.flatMap E.f) hx (by rw [hly, hm]) hr (fun u hu => ?_) (by unfold maxLen; omega) ?_ h4 ?_
  · obtain ⟨y, _, hy⟩ := List.mem_flatMap.1 hu
    exact hE.one y u hy
  · rw [hly]
    have h5 := hE.few
    have : (xs.length + ys.length) * E.b ≤ 1073741824 * 1024 := Nat.mul_le_mul hl h5
    omega
  · intro v' w' hown' hg hat
    refine h v' w' ⟨?_, h2.grown hg h2.size fun k hk => by have := (h1.lt k hk).1; omega, h3, by have := hg.size; omega⟩ ⟨hg, hat⟩
    unfold OwnF
    rw [List.length_append, List.flatMap_append, hs1, ← hly]
    exact hown'
end

/-- Integers, rows of one cell each (whatever their values). -/
def elInt : El Int := ⟨3, 31, 1, 8, .int .i64 0, fun z => [.int .i64 z]⟩
theorem okInt : elInt.Ok Try.prog := ⟨Try.underlying31, infoInt, rfl, by decide, by decide, fun _ => rfl, fun x u hu => by simp [elInt] at hu; subst hu; rfl⟩
theorem ownF_int {w : World} {lo : Nat} {v : Value} {zs : List Int} : OwnF elInt w lo v zs ↔ OwnI w lo v zs := by
  unfold OwnF OwnI
  have : zs.flatMap elInt.f = zs.map (Value.int .i64) := by
    induction zs with
    | nil => rfl
    | cons z zs ih => rw [List.flatMap_cons, ih]; rfl
  rw [this]; exact Iff.rfl
end Go.Proofs.Ytehnbalbpfmijaa

namespace Go.Proofs.Ytehnbalbpfmijaa
open Go.RowKit

def szZ (n left : Int) : Int := if left - n < 0 then -1 else left - n

theorem beq_drop (xs ys : List Int) (k : Nat) (h1 : k < xs.length) (h2 : k < ys.length) : (xs.drop k == ys.drop k) = (xs[k] == ys[k] && xs.drop (k + 1) == ys.drop (k + 1)) := by
  rw [List.drop_eq_getElem_cons h1, List.drop_eq_getElem_cons h2]; rfl
theorem beq_len (xs ys : List Int) (h : xs.length ≠ ys.length) : (xs == ys) = false := by
  rw [beq_eq_false_iff_ne]; rintro rfl; exact h rfl

end Go.Proofs.Ytehnbalbpfmijaa

namespace Go.Proofs.Ytehnbalbpfmijaa
open Go.RowKit

abbrev Lk := Int × Int × Bool
abbrev triV (x y : Int) (d : Bool) : Value := .agg #[.int .i64 x, .int .i64 y, .bool d]
def triC (l : Lk) : List Value := [.int .i64 l.1, .int .i64 l.2.1, .bool l.2.2]
theorem triC_one : ∀ (x : Lk), ∀ u ∈ triC x, u.oneCell' = true := fun x u hu => by simp [triC] at hu; rcases hu with rfl | rfl | rfl <;> rfl
def elLink : El Lk := ⟨68, 53, 3, 24, .agg #[.int .i64 0, .int .i64 0, .bool false], triC⟩
theorem okLink : elLink.Ok Try.prog := ⟨Try.underlying53, by kernel_rfl, rfl, by decide, by decide, fun _ => rfl, triC_one⟩
def elDomino : El Lk := ⟨46, 28, 3, 24, .agg #[.int .i64 0, .int .i64 0, .bool false], triC⟩
theorem okDomino : elDomino.Ok Try.prog := ⟨Try.underlying28, by kernel_rfl, rfl, by decide, by decide, fun _ => rfl, triC_one⟩

def lx (ls : List Lk) (j : Nat) : Int := (ls.getD j (0, 0, false)).1
def ly (ls : List Lk) (j : Nat) : Int := (ls.getD j (0, 0, false)).2.1
def ld (ls : List Lk) (j : Nat) : Bool := (ls.getD j (0, 0, false)).2.2
theorem lk_get (ls : List Lk) (j : Nat) (h : j < ls.length) : ls[j]? = some (lx ls j, ly ls j, ld ls j) := by simp [lx, ly, ld, h]

/-- Three cells one behind the other. -/
def Three (w : World) (p : Addr) (x y : Int) (d : Bool) : Prop :=
  w.cell? p = some (.int .i64 x) ∧ w.cell? ⟨p.block, p.off + 1, none⟩ = some (.int .i64 y) ∧ w.cell? ⟨p.block, p.off + 2, none⟩ = some (.bool d)
theorem addTwo (a : Addr) : (⟨a.block, a.off + 2, none⟩ : Addr) = a.add 2 := by simp [Addr.add]
theorem addOne' (a : Addr) : (⟨a.block, a.off + 1, none⟩ : Addr) = a.add 1 := by simp [Addr.add]
theorem RdT.of {E : El Lk} {w : World} {B : Nat} {v : Value} {ls : List Lk} (hs : E.s = 3) (hf : ∀ l, E.f l = triC l) (h : RdF E w B v ls) :
    ∃ A c, v = .slice A ls.length c ∧ ls.length ≤ c ∧ c ≤ maxLen ∧ Hid (∀ j, j < ls.length → ∃ ad, A = some ad ∧ ad.block < B ∧ w.cell? (ad.add (j * 3)) = some (.int .i64 (lx ls j)) ∧
      w.cell? ⟨(ad.add (j * 3)).block, (ad.add (j * 3)).off + 1, none⟩ = some (.int .i64 (ly ls j)) ∧ w.cell? ⟨(ad.add (j * 3)).block, (ad.add (j * 3)).off + 2, none⟩ = some (.bool (ld ls j))) := by
  obtain ⟨A, c, e, h1, h2, h3⟩ := h
  refine ⟨A, c, e, h1, h2, fun j hj => ?_⟩
  obtain ⟨ad, e2, hb, hc⟩ := h3 j _ (lk_get ls j hj)
  rw [hf, hs] at hc
  refine ⟨ad, e2, hb, hc 0 _ rfl, ?_, ?_⟩
  · rw [addOne', addAdd]; exact hc 1 _ rfl
  · rw [addTwo, addAdd]; exact hc 2 _ rfl

/-- Two structs side by side. -/
def Six (w : World) (p q : Addr) (x y : Int) (d : Bool) : Prop :=
  w.cell? p = some (.int .i64 x) ∧ w.cell? ⟨p.block, p.off + 1, none⟩ = some (.int .i64 y) ∧ w.cell? ⟨p.block, p.off + 2, none⟩ = some (.bool d) ∧
  w.cell? q = some (.int .i64 x) ∧ w.cell? ⟨q.block, q.off + 1, none⟩ = some (.int .i64 y) ∧ w.cell? ⟨q.block, q.off + 2, none⟩ = some (.bool d)
theorem Six.below {w w1 : World} {p q : Addr} {x y : Int} {d : Bool} {B : Nat} (hb : Below B w w1) (hp : p.block < B) (hq : q.block < B) (h : Six w p q x y d) : Six w1 p q x y d :=
  ⟨(hb.cell hp).trans h.1, (hb.cell (p := ⟨p.block, p.off + 1, none⟩) hp).trans h.2.1, (hb.cell (p := ⟨p.block, p.off + 2, none⟩) hp).trans h.2.2.1,
    (hb.cell hq).trans h.2.2.2.1, (hb.cell (p := ⟨q.block, q.off + 1, none⟩) hq).trans h.2.2.2.2.1, (hb.cell (p := ⟨q.block, q.off + 2, none⟩) hq).trans h.2.2.2.2.2⟩
/-- The same, in one chain, with what the loop keeps beside. -/
abbrev SixS (w w' : World) (p q : Addr) (x y : Int) (d : Bool) : Prop :=
  w'.cell? p = some (.int .i64 x) ∧ w'.cell? ⟨p.block, p.off + 1, none⟩ = some (.int .i64 y) ∧ w'.cell? ⟨p.block, p.off + 2, none⟩ = some (.bool d) ∧
  w'.cell? q = some (.int .i64 x) ∧ w'.cell? ⟨q.block, q.off + 1, none⟩ = some (.int .i64 y) ∧ w'.cell? ⟨q.block, q.off + 2, none⟩ = some (.bool d) ∧ w.heap.size ≤ w'.heap.size ∧ Below w.heap.size w w'
theorem SixS.mk' {w w' : World} {p q : Addr} {x y : Int} {d : Bool} (h : Six w' p q x y d) (h2 : w.heap.size ≤ w'.heap.size) (h3 : Below w.heap.size w w') : SixS w w' p q x y d :=
  ⟨h.1, h.2.1, h.2.2.1, h.2.2.2.1, h.2.2.2.2.1, h.2.2.2.2.2, h2, h3⟩
theorem keepSix0 {w wr : World} {p q : Addr} {x y : Int} {d : Bool} (hb : Below w.heap.size w wr) (hp : p.block < w.heap.size) (hq : q.block < w.heap.size) (h : Six w p q x y d) : SixS w wr p q x y d := SixS.mk' (h.below hb hp hq) hb.size hb
theorem keepSix {w W0 w1 : World} {p q : Addr} {x y : Int} {d : Bool} (hb : Below W0.heap.size W0 w1) (hp : p.block < w.heap.size) (hq : q.block < w.heap.size) (h : SixS w W0 p q x y d) : SixS w w1 p q x y d := by
  obtain ⟨h1, h2, h3, h4, h5, h6, h7, h8⟩ := h
  exact SixS.mk' (Six.below hb (by omega) (by omega) ⟨h1, h2, h3, h4, h5, h6⟩) (Nat.le_trans h7 hb.size) (h8.trans (hb.mono h7))
theorem drewSix {w W0 : World} {p q : Addr} {x y : Int} {d : Bool} (h : SixS w W0 p q x y d) : SixS w W0.drew p q x y d := by
  obtain ⟨h1, h2, h3, h4, h5, h6, h7, h8⟩ := h
  exact ⟨h1, h2, h3, h4, h5, h6, h7, h8.drew⟩

/-! ### The marks -/
def triMk (k : Int) (i : Nat) : Lk := (k + 3 * (i : Int), k + 3 * (i : Int) + 1, (k + 3 * (i : Int) + 1 + 1) % 3 == 0)
def triIota (k : Int) (n : Nat) : List Lk := (List.range n).map (triMk k)
theorem triIota_length (k : Int) (n : Nat) : (triIota k n).length = n := by simp [triIota]
theorem triIota_x (k : Int) (n j : Nat) (h : j < n) : lx (triIota k n) j = k + 3 * (j : Int) := by simp [lx, triIota, h, triMk]
theorem triIota_y (k : Int) (n j : Nat) (h : j < n) : ly (triIota k n) j = k + 3 * (j : Int) + 1 := by simp [ly, triIota, h, triMk]
theorem triIota_d (k : Int) (n j : Nat) (h : j < n) : ld (triIota k n) j = ((k + 3 * (j : Int) + 1 + 1) % 3 == 0) := by simp [ld, triIota, h, triMk]
def triTo (ls : List Lk) (k : Int) (j : Nat) : List Lk := (List.range ls.length).map fun (i : Nat) => if i < j then triMk k i else ls.getD i (0, 0, false)
theorem triTo_length (ls : List Lk) (k : Int) (j : Nat) : (triTo ls k j).length = ls.length := by simp [triTo]
theorem triTo_zero (ls : List Lk) (k : Int) : triTo ls k 0 = ls := by
  apply List.ext_getElem
  · exact triTo_length _ _ _
  · intro i h1 h2; simp [triTo, h2]
theorem triTo_all (ls : List Lk) (k : Int) : triTo ls k ls.length = triIota k ls.length := by
  unfold triTo triIota
  apply List.map_congr_left
  intro i hi
  rw [if_pos (by simpa using hi)]
theorem triTo_set (ls : List Lk) (k : Int) (j : Nat) (_h : j < ls.length) : (triTo ls k j).set j (k + 3 * (j : Int), k + 3 * (j : Int) + 1, (k + 3 * (j : Int) + 1 + 1) % 3 == 0) = triTo ls k (j + 1) := by
  apply List.ext_getElem
  · simp [triTo]
  · intro i h1 h2
    rw [List.getElem_set]
    by_cases e : j = i
    · subst e; simp [triTo, triMk]
    · by_cases e2 : i < j
      · simp [triTo, e, e2, show i < j + 1 by omega]
      · simp [triTo, e, e2, show ¬ i < j + 1 by omega]

/-- One struct is written, field by field. -/
theorem triStore {P : Program} {E : El Lk} (hE : E.Ok P) (hs : E.s = 3) (hf : ∀ l, E.f l = triC l) {w : World} {lo g cap : Nat} {ls : List Lk} (h : OwnF E w lo (.slice (some ⟨g, 0, none⟩) ls.length cap) ls) {j : Nat} (hj : j < ls.length) :
    w.cell? ⟨g, j * 3, none⟩ = some (.int .i64 (lx ls j)) ∧ w.cell? ⟨g, j * 3 + 1, none⟩ = some (.int .i64 (ly ls j)) ∧ w.cell? ⟨g, j * 3 + 2, none⟩ = some (.bool (ld ls j)) ∧ (∀ o, w.frozen? ⟨g, o, none⟩ = false) ∧
      ∀ (a b : Int) (d : Bool), OwnF E (((w.setCell ⟨g, j * 3, none⟩ (.int .i64 a)).setCell ⟨g, j * 3 + 1, none⟩ (.int .i64 b)).setCell ⟨g, j * 3 + 2, none⟩ (.bool d)) lo (.slice (some ⟨g, 0, none⟩) (ls.set j (a, b, d)).length cap) (ls.set j (a, b, d)) ∧
        w.grownBy (((w.setCell ⟨g, j * 3, none⟩ (.int .i64 a)).setCell ⟨g, j * 3 + 1, none⟩ (.int .i64 b)).setCell ⟨g, j * 3 + 2, none⟩ (.bool d)) (some g) := by
  have hc : ∀ i u, (triC (lx ls j, ly ls j, ld ls j))[i]? = some u → w.cell? ⟨g, j * 3 + i, none⟩ = some u := fun i u hu => by
    have hi : i < 3 := (List.getElem?_eq_some_iff.1 hu).1
    have := World.ownsRow.cellAt h (j * 3 + i) (by rw [hs]; omega)
    rw [this, ← hs, flat_get hE.len ls j i _ (lk_get ls j hj) (by omega), hf]; exact hu
  refine ⟨hc 0 _ rfl, hc 1 _ rfl, hc 2 _ rfl, World.ownsRow.frozenAt h, fun a b d => ?_⟩
  obtain ⟨s1, t1, _⟩ := OwnF.store hE (x' := (a, ly ls j, ld ls j)) (u := .int .i64 a) h (lk_get ls j hj) (i := 0) (by omega) (by rw [hf, hf]; rfl)
  obtain ⟨s2, t2, _⟩ := OwnF.store hE (x' := (a, b, ld ls j)) (x := (a, ly ls j, ld ls j)) (u := .int .i64 b) s1 (j := j) (by simp [hj]) (i := 1) (by omega) (by rw [hf, hf]; rfl)
  obtain ⟨s3, t3, _⟩ := OwnF.store hE (x' := (a, b, d)) (x := (a, b, ld ls j)) (u := .bool d) s2 (j := j) (by simp [hj]) (i := 2) (by omega) (by rw [hf, hf]; rfl)
  rw [hs] at s3 t1 t2 t3
  simp only [List.set_set, Nat.add_zero] at s3 t1 t2 t3
  exact ⟨s3, (t1.trans t2).trans t3⟩
end Go.Proofs.Ytehnbalbpfmijaa
