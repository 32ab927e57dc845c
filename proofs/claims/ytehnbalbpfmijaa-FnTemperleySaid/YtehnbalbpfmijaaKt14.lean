/- What the claim's walk rests on: parts StpR, StpW, AppendF, SortS. -/
import Derived.Test.YtehnbalbpfmijaaKt13
import Derived.Test.YtehnbalbpfmijaaKt2
import Derived.Test.YtehnbalbpfmijaaKt5
namespace Go.Proofs.Ytehnbalbpfmijaa
open Go.RowKit
set_option linter.unusedVariables false

/-- The bodies of all loops of a code, in the text's order. -/
def loopsOf : Code → List Code
  | .loop c => c :: loopsOf c
  | .seq a b => loopsOf a ++ loopsOf b
  | .block _ c => loopsOf c
  | .scope c => loopsOf c
  | .cond _ a b => loopsOf a ++ loopsOf b
  | _ => []
noncomputable def stpBody : Code := ((Try.f97.body.map loopsOf).getD []).getD 4 .skip
/-- What stands at the head of the inner loop. -/
def R5 (w : World) (W H N : Nat) (hs : Int × Int → Bool) (ini : List (Int × Int)) (k n18 : Nat) (cx cy : Int) (m : Nat) (wr : World) (kn : Nat → Bool) (T : List (Int × Int)) (out : List Lk) (vT vO : Value) : Prop :=
  SM w wr w.heap.size N kn vT T vO out ∧ DInv W H kn T ∧ SInv W H hs ini T out ∧ Closed W H hs T k m ∧ T[k]? = some (cx, cy) ∧ T.length + unk N kn ≤ 200 ∧ (∀ c ∈ T, extW W H c) ∧ (out.length ≤ N ∧ out.length + unk N kn ≤ N) ∧
  wr.heap[n18]? = some (.cells #[.int .i64 cx, .int .i64 cy] 44 (0, 0)) ∧ vT.ownBlock ≠ some n18 ∧ vO.ownBlock ≠ some n18
theorem int_eq {k : IntKind} {a b : Int} (h : a = b) : Value.int k a = Value.int k b := by rw [h]
set_option maxRecDepth 1000000 in
set_option maxHeartbeats 8000000 in
theorem Round5 (W H N : Nat) (rest : Int) (rb : Bool) (hrb : (rest == 0) = rb) (hW7 : W ≤ 7) (hH7 : H ≤ 7) (hN : (W + 2) * (H + 2) = N) (A : Option Addr) (c : Nat) (ls : List Lk) (hl : ∀ l ∈ ls, (0 ≤ l.1 ∧ l.1 ≤ 4) ∧ 0 ≤ l.2.1 ∧ l.2.1 ≤ 4) (B : Nat) (w : World)
    (hu : RdF elLink w B (.slice A ls.length c) ls) (hB : B ≤ w.heap.size) (ini : List (Int × Int)) (k n18 : Nat) (cx cy : Int) (hgd : w.heap.size < n18) (m : Nat) (hm : m < 4) (hs : Int × Int → Bool) (hhs : ∀ c, hs c = (decide (c ∈ ls.map lkC) == rb))
    (wr : World) (kn : Nat → Bool) (T : List (Int × Int)) (out : List Lk) (vT vO : Value) (hR : R5 w W H N hs ini k n18 cx cy m wr kn T out vT vO) (Q0 : Exit → Act → World → Prop) (P5 : Act → World → Prop)
    (c0 c1 c4 c5 c6 c7 c8 c14 c15 c16 c17 c20 c21 c22 c23 c24 c25 c26 c27 c28 c29 c30 c31 c32 c33 c34 c35 c36 c37 c38 c39 c40 c41 c42 c43 c44 c45 c46 c47 c48 c49 c50 c51 c52 c53 c54 c55 c56 c57 c58 c59 c60 c61 c62 c63 c64 c65 c66 c67 c68 c69 c70 c71 c72 c73 c74 c75 c76 c77 c78 c79 c80 c81 c82 c83 c84 c85 c86 c87 c88 c89 c90 c91 c92 c93 c94 c95 c96 c97 c98 c99 c100 c101 c102 c103 c104 c105 c106 c107 c108 c109 c110 c111 c112 c113 c114 c115 c116 c117 c118 c119 c120 c121 c122 c123 c124 c125 c126 c127 c128 c129 c130 c131 c132 c133 c134 c135 c136 c137 c138 c139 c140 c141 c142 c143 c144 c145 c146 c147 c148 c149 c150 c151 c152 c153 c154 c155 c156 c157 c158 c159 c160 c161 c162 c163 c164 c165 c166 c167 c168 c169 c170 c171 c172 c173 c174 c175 c176 c177 c178 c179 c180 c181 c182 c183 c184 c185 c186 c187 c188 c189 c190 c191 c192 c193 c194 c195 c196 c197 c198 c199 c200 c201 c202 c203 c204 c205 c206 c207 c208 c209 c210 c211 c212 c213 c214 c215 c216 c217 c218 c219 c220 c221 c222 c223 c224 c225 c226 c227 c228 c229 c230 c231 c232 c233 : Value)
    (hP : ∀ (kn' : Nat → Bool) (T' : List (Int × Int)) (out' : List Lk) (vT' vO' : Value) (v19 : Value) (b20 b21 b22 b23 b24 b25 b112 b113 b114 b115 b116 b117 b118 b119 b120 b121 b122 b123 b124 b125 b126 b127 b128 b129 b130 b131 b132 b133 b134 b135 b136 b137 b138 b139 b140 b141 b142 b143 b144 b145 b146 b147 b148 b149 b150 b151 b152 b153 b154 b155 b156 b157 b158 b159 b160 b161 b162 b163 b164 b165 b166 b167 b168 b169 b170 b171 b172 b173 b174 b175 b176 b177 b178 b179 b180 b181 b182 b183 b184 b185 b186 b187 b188 b189 b190 b191 b192 b193 b194 b195 b196 b197 b198 b199 b200 b201 b202 b203 b204 b205 b206 b207 b208 b209 b210 b211 b212 b213 b214 b215 b216 b217 b218 b219 b220 b221 b222 b223 b224 b225 b226 b227 b228 b229 b230 b231 b232 : Value) (w'' : World), v19 = .int .i64 ((m + 1 : Nat) : Int) → R5 w W H N hs ini k n18 cx cy (m + 1) w'' kn' T' out' vT' vO' → P5 ⟨#[c0, c1, .slice A ls.length c, .int .i64 rest, c4, c5, c6, c7, c8, .int .i64 (W : Int), .int .i64 (H : Int), .slice (some ⟨w.heap.size, 0, none⟩) N N, vT', vO', c14, c15, c16, c17, .pointer (some ⟨n18, 0, none⟩), v19, b20, b21, b22, b23, b24, b25, c26, c27, c28, c29, c30, c31, c32, c33, c34, c35, c36, c37, c38, c39, c40, c41, c42, c43, c44, c45, c46, c47, c48, c49, c50, c51, c52, c53, c54, c55, c56, c57, c58, c59, c60, c61, c62, c63, c64, c65, c66, c67, c68, c69, c70, c71, c72, c73, c74, c75, c76, c77, c78, c79, c80, c81, c82, c83, c84, c85, c86, c87, c88, c89, c90, c91, c92, c93, c94, c95, c96, c97, c98, c99, c100, c101, c102, c103, c104, c105, c106, c107, c108, c109, c110, c111, b112, b113, b114, b115, b116, b117, b118, b119, b120, b121, b122, b123, b124, b125, b126, b127, b128, b129, b130, b131, b132, b133, b134, b135, b136, b137, b138, b139, b140, b141, b142, b143, b144, b145, b146, b147, b148, b149, b150, b151, b152, b153, b154, b155, b156, b157, b158, b159, b160, b161, b162, b163, b164, b165, b166, b167, b168, b169, b170, b171, b172, b173, b174, b175, b176, b177, b178, b179, b180, b181, b182, b183, b184, b185, b186, b187, b188, b189, b190, b191, b192, b193, b194, b195, b196, b197, b198, b199, b200, b201, b202, b203, b204, b205, b206, b207, b208, b209, b210, b211, b212, b213, b214, b215, b216, b217, b218, b219, b220, b221, b222, b223, b224, b225, b226, b227, b228, b229, b230, b231, b232, c233], []⟩ w'') :
    Code.wp Try.prog stpBody (Exit.then P5 Q0) ⟨#[c0, c1, .slice A ls.length c, .int .i64 rest, c4, c5, c6, c7, c8, .int .i64 (W : Int), .int .i64 (H : Int), .slice (some ⟨w.heap.size, 0, none⟩) N N, vT, vO, c14, c15, c16, c17, .pointer (some ⟨n18, 0, none⟩), .int .i64 (m : Int), c20, c21, c22, c23, c24, c25, c26, c27, c28, c29, c30, c31, c32, c33, c34, c35, c36, c37, c38, c39, c40, c41, c42, c43, c44, c45, c46, c47, c48, c49, c50, c51, c52, c53, c54, c55, c56, c57, c58, c59, c60, c61, c62, c63, c64, c65, c66, c67, c68, c69, c70, c71, c72, c73, c74, c75, c76, c77, c78, c79, c80, c81, c82, c83, c84, c85, c86, c87, c88, c89, c90, c91, c92, c93, c94, c95, c96, c97, c98, c99, c100, c101, c102, c103, c104, c105, c106, c107, c108, c109, c110, c111, c112, c113, c114, c115, c116, c117, c118, c119, c120, c121, c122, c123, c124, c125, c126, c127, c128, c129, c130, c131, c132, c133, c134, c135, c136, c137, c138, c139, c140, c141, c142, c143, c144, c145, c146, c147, c148, c149, c150, c151, c152, c153, c154, c155, c156, c157, c158, c159, c160, c161, c162, c163, c164, c165, c166, c167, c168, c169, c170, c171, c172, c173, c174, c175, c176, c177, c178, c179, c180, c181, c182, c183, c184, c185, c186, c187, c188, c189, c190, c191, c192, c193, c194, c195, c196, c197, c198, c199, c200, c201, c202, c203, c204, c205, c206, c207, c208, c209, c210, c211, c212, c213, c214, c215, c216, c217, c218, c219, c220, c221, c222, c223, c224, c225, c226, c227, c228, c229, c230, c231, c232, c233], []⟩ wr := by
  conv => arg 2; whnf
  have HP := Lib.hid hP
  have HU := Lib.hid hu
  have HL := Lib.hid hl
  have HGD18 := Lib.hid hgd
  have HHS2 := Lib.hid hhs
  have HNN := Lib.hid hN
  obtain ⟨hS, hD, hI, hC, hG, hK, hE, hO, h18, hob1, hob2⟩ := hR
  have HS := Lib.hid hS; have HD := Lib.hid hD; have HSI := Lib.hid hI; have HCL := Lib.hid hC; have HGET := Lib.hid hG; have HUK := Lib.hid hK; have HEX := Lib.hid hE; have HOL := Lib.hid hO; have HK := Lib.hid h18; have HOB1 := Lib.hid hob1; have HOB2 := Lib.hid hob2
  clear hP hu hl hgd hhs hN hS hD hI hC hG hK hE hO h18 hob1 hob2
  have hm0 : (0 : Int) ≤ (m : Int) := by omega
  have hm1 : (m : Int) < 4 := by omega
  have htm : decide ((m : Int) < 4) = true := by simp only [decide_eq_true_eq]; omega
  obtain ⟨AT, cT, hvT, qT1, qT2, _⟩ := HS.out.t.1.rd okCell
  obtain ⟨AO, cO, hvO, qO1, qO2, _⟩ := HS.out.o.1.rd okDomino
  subst hvT hvO
  unfold maxLen at qT2 qO2
  have hT200 : T.length ≤ 200 := by have := HUK.out; omega
  obtain ⟨X, Y, hXY⟩ : ∃ X Y, wy m = (X, Y) := ⟨_, _, rfl⟩
  have hdir := wy_dir hm
  have HDIR := Lib.hid hdir
  have HXY := Lib.hid hXY
  rw [hXY] at hdir
  have hXb : (-1 ≤ X ∧ X ≤ 1) ∧ -1 ≤ Y ∧ Y ≤ 1 := by
    rcases (dirs4_iff _).1 hdir with e | e | e | e <;> simp at e <;> omega
  obtain ⟨⟨hX0, hX1⟩, hY0, hY1⟩ := hXb
  have hext : extW W H (cx, cy) := HEX.out _ (List.mem_of_getElem? HGET.out)
  obtain ⟨⟨x1, x2⟩, y1, y2⟩ := hext
  simp only at x1 x2 y1 y2
  clear hXY hdir
  go_upto_region 27 with (fail)
  go_cut [20] from 116 to 119 (fun s wx => s = .int .i64 X ∧ Hid (SM w wx w.heap.size N kn (.slice AT T.length cT) T (.slice AO out.length cO) out) ∧ Hid (wx.heap[n18]? = some (.cells #[.int .i64 cx, .int .i64 cy] 44 (0, 0))))
  case first =>
    have HA1 := Lib.hid ((Below.refl wr.heap.size wr).alloc (Nat.le_refl _) (.cells #[.int .i64 1, .int .i64 0, .int .i64 (-1), .int .i64 0] 3))
    have HS3 := Lib.hid (HS.out.below HA1.out)
    have HK3 := Lib.hid (blk_below HK.out HA1.out)
    have HXE : Hid (X = el [1, 0, -1, 0] m) := by have := HXY.out; unfold wy at this; simp only [Prod.mk.injEq] at this; exact this.1.symm
    rcases show m = 0 ∨ m = 1 ∨ m = 2 ∨ m = 3 by omega with rfl | rfl | rfl | rfl
    all_goals
      go_wp2_with fail
      go_meet
      exact ⟨by rw [HXE.out]; rfl, HS3, HK3⟩
  case rest =>
    obtain ⟨rfl, HS3, HK3⟩ := hcut
    clear HS HK
    go_upto_region 28 with (fail)
    go_cut [21] from 120 to 123 (fun s wx => s = .int .i64 Y ∧ Hid (SM w wx w.heap.size N kn (.slice AT T.length cT) T (.slice AO out.length cO) out) ∧ Hid (wx.heap[n18]? = some (.cells #[.int .i64 cx, .int .i64 cy] 44 (0, 0))))
    case first =>
      have HA1 := Lib.hid ((Below.refl wc.heap.size wc).alloc (Nat.le_refl _) (.cells #[.int .i64 0, .int .i64 1, .int .i64 0, .int .i64 (-1)] 3))
      have HS4 := Lib.hid (HS3.out.below HA1.out)
      have HK4 := Lib.hid (blk_below HK3.out HA1.out)
      have HXE : Hid (Y = el [0, 1, 0, -1] m) := by have := HXY.out; unfold wy at this; simp only [Prod.mk.injEq] at this; exact this.2.symm
      rcases show m = 0 ∨ m = 1 ∨ m = 2 ∨ m = 3 by omega with rfl | rfl | rfl | rfl
      all_goals
        go_wp2_with fail
        go_meet
        exact ⟨by rw [HXE.out]; rfl, HS4, HK4⟩
    case rest =>
      obtain ⟨rfl, HS4, HK4⟩ := hcut
      clear HS3 HK3
      rename_i wc1 wc
      have a0 : wc.cell? ⟨n18, 0, none⟩ = some (.int .i64 cx) := by rw [blk_cell HK4.out]; rfl
      have a1 : wc.cell? ⟨n18, 1, none⟩ = some (.int .i64 cy) := by rw [blk_cell HK4.out]; rfl
      have L18 := lt_of_block HK4.out
      go_upto_region 31 with (fail)
      obtain ⟨mx, hmx⟩ : ∃ mx, cx + X = mx := ⟨_, rfl⟩
      obtain ⟨my, hmy⟩ : ∃ my, cy + Y = my := ⟨_, rfl⟩
      obtain ⟨tx, htx⟩ : ∃ tx, cx + 2 * X = tx := ⟨_, rfl⟩
      obtain ⟨ty, hty⟩ : ∃ ty, cy + 2 * Y = ty := ⟨_, rfl⟩
      rw [hmx, hmy, htx, hty]
      obtain ⟨V, hV, kV1, kV2, bV⟩ := two_alloc wc (.cells #[.int .i64 mx, .int .i64 my] 44) (.cells #[.int .i64 tx, .int .i64 ty] 44)
      rw [← hV]
      obtain ⟨n22, hn22⟩ : ∃ n22, wc.heap.size = n22 := ⟨_, rfl⟩
      have HS5 := Lib.hid (HS4.out.below bV)
      have HK5 := Lib.hid (blk_below HK4.out bV)
      have HGD22 : Hid (w.heap.size < n22) := by unfold Hid; rw [← hn22]; exact lt_of_block HS4.out.d
      have HOT : Hid ((Value.slice AT T.length cT).ownBlock ≠ some n22 ∧ (Value.slice AT T.length cT).ownBlock ≠ some (n22 + 1) ∧ (Value.slice AO out.length cO).ownBlock ≠ some n22 ∧ (Value.slice AO out.length cO).ownBlock ≠ some (n22 + 1)) := by
        refine ⟨fun e => ?_, fun e => ?_, fun e => ?_, fun e => ?_⟩
        · have := (HS4.out.t.1.lt _ e).2; omega
        · have := (HS4.out.t.1.lt _ e).2; omega
        · have := (HS4.out.o.1.lt _ e).2; omega
        · have := (HS4.out.o.1.lt _ e).2; omega
      rw [hn22] at kV1 kV2 ⊢
      have HK22 := Lib.hid kV1; have HK23 := Lib.hid kV2
      have HMX := Lib.hid hmx; have HMY := Lib.hid hmy; have HTX := Lib.hid htx; have HTY := Lib.hid hty
      have hb1 : (-2 ≤ mx ∧ mx ≤ 8) ∧ (-2 ≤ my ∧ my ≤ 8) ∧ (-3 ≤ tx ∧ tx ≤ 9) ∧ -3 ≤ ty ∧ ty ≤ 9 := by omega
      obtain ⟨⟨m1, m2⟩, ⟨m3, m4⟩, ⟨t1, t2⟩, t3, t4⟩ := hb1
      have b0 : V.cell? ⟨n22, 0, none⟩ = some (.int .i64 mx) := by rw [blk_cell kV1]; rfl
      have b1 : V.cell? ⟨n22, 1, none⟩ = some (.int .i64 my) := by rw [blk_cell kV1]; rfl
      have b2 : V.cell? ⟨n22 + 1, 0, none⟩ = some (.int .i64 tx) := by rw [blk_cell kV2]; rfl
      have b3 : V.cell? ⟨n22 + 1, 1, none⟩ = some (.int .i64 ty) := by rw [blk_cell kV2]; rfl
      obtain ⟨ob, HOB⟩ : ∃ ob, Hid ((decide (tx < 0) || decide (ty < 0) || decide ((W : Int) ≤ tx) || decide ((H : Int) ≤ ty) || decide (mx < 0) || decide (my < 0) || decide ((W : Int) ≤ mx) || decide ((H : Int) ≤ my)) = ob) := ⟨_, rfl⟩
      clear hV kV1 kV2 bV hn22 a0 a1 L18 HS4 HK4 hmx hmy htx hty
      go_cut [185] from 144 to 185 (fun s wx => s = .bool ob ∧ wx = V)
      case first =>
        by_cases c1 : tx < 0
        · have H1 : Hid (true = ob) := by unfold Hid; rw [← HOB.out]; simp [c1]
          go_wp2_with fail
          go_meet
          exact ⟨by rw [H1.out], rfl⟩
        · by_cases c2 : ty < 0
          · have H1 : Hid (true = ob) := by unfold Hid; rw [← HOB.out]; simp [c2]
            go_wp2_with fail
            go_meet
            exact ⟨by rw [H1.out], rfl⟩
          · by_cases c3 : (W : Int) ≤ tx
            · have H1 : Hid (true = ob) := by unfold Hid; rw [← HOB.out]; simp [c3]
              go_wp2_with fail
              go_meet
              exact ⟨by rw [H1.out], rfl⟩
            · by_cases c4 : (H : Int) ≤ ty
              · have H1 : Hid (true = ob) := by unfold Hid; rw [← HOB.out]; simp [c4]
                go_wp2_with fail
                go_meet
                exact ⟨by rw [H1.out], rfl⟩
              · by_cases c5 : mx < 0
                · have H1 : Hid (true = ob) := by unfold Hid; rw [← HOB.out]; simp [c5]
                  go_wp2_with fail
                  go_meet
                  exact ⟨by rw [H1.out], rfl⟩
                · by_cases c6 : my < 0
                  · have H1 : Hid (true = ob) := by unfold Hid; rw [← HOB.out]; simp [c6]
                    go_wp2_with fail
                    go_meet
                    exact ⟨by rw [H1.out], rfl⟩
                  · by_cases c7 : (W : Int) ≤ mx
                    · have H1 : Hid (true = ob) := by unfold Hid; rw [← HOB.out]; simp [c7]
                      go_wp2_with fail
                      go_meet
                      exact ⟨by rw [H1.out], rfl⟩
                    · by_cases c8 : (H : Int) ≤ my
                      · have H1 : Hid (true = ob) := by unfold Hid; rw [← HOB.out]; simp [c8]
                        go_wp2_with fail
                        go_meet
                        exact ⟨by rw [H1.out], rfl⟩
                      · have H1 : Hid (false = ob) := by unfold Hid; rw [← HOB.out]; simp [c1, c2, c3, c4, c5, c6, c7, c8]
                        go_wp2_with fail
                        go_meet
                        exact ⟨by rw [H1.out], rfl⟩
      case rest =>
        obtain ⟨rfl, rfl⟩ := hcut
        have HP1 : Hid (pad (cx, cy) (X, Y) = (mx, my)) := by unfold Hid pad; rw [← HMX.out, ← HMY.out]
        have HP2 : Hid (pad (mx, my) (X, Y) = (tx, ty)) := by unfold Hid pad; rw [← HMX.out, ← HMY.out, ← HTX.out, ← HTY.out]; ext <;> simp <;> omega
        have HCO : Hid (∀ T', (inW W H (tx, ty) → inW W H (mx, my) → hs (mx, my) = true → (tx, ty) ∈ T') → CloAt W H hs T' (cx, cy) (wy m)) := fun T' h => by
          rw [HXY.out]; unfold CloAt; rw [HP1.out, HP2.out]; exact h
        cases ob
        · have hin : (0 ≤ tx ∧ tx < (W : Int)) ∧ (0 ≤ ty ∧ ty < (H : Int)) ∧ (0 ≤ mx ∧ mx < (W : Int)) ∧ 0 ≤ my ∧ my < (H : Int) := by
            have := HOB.out
            simp only [Bool.or_eq_false_iff, decide_eq_false_iff_not] at this
            omega
          have HIN := Lib.hid hin
          obtain ⟨⟨i1, i2⟩, ⟨i3, i4⟩, ⟨i5, i6⟩, i7, i8⟩ := hin
          have hext : extW W H (tx, ty) := by unfold extW; simp only; omega
          have HEXT := Lib.hid hext
          have hnat := (ix_nat hext).2.2.2
          have hnlt := ix_lt hext
          rw [HNN.out] at hnlt
          have HDN := Lib.hid (HD.out (tx, ty) hext)
          obtain ⟨n, hn⟩ : ∃ n, ixD W (tx, ty) = n := ⟨_, rfl⟩
          rw [hn] at hnat hnlt HDN
          have HN1 := Lib.hid hn
          simp only at hnat
          obtain ⟨p0, p1⟩ := mul_bdP (a := ty + 1) (b := (W : Int) + 2) (A := 8) (B := 9) (by omega) (by omega) (by omega) (by omega)
          have hn0 : (0 : Int) ≤ (n : Int) := by omega
          have hn1 : (n : Int) < (N : Int) := by omega
          have hnn : (ty + 1) * ((W : Int) + 2) + tx + 1 = (n : Int) := hnat.symm
          obtain ⟨d1, d2⟩ := HS5.out.cells
          obtain ⟨kd, HKD⟩ : ∃ kd, Hid (kn n = kd) := ⟨_, rfl⟩
          have d1' := d1 n hnlt
          rw [HKD.out] at d1' HDN
          obtain ⟨hb, HHB⟩ : ∃ hb, Hid (decide ((mx, my) ∈ ls.map lkC) = hb) := ⟨_, rfl⟩
          have HHM : Hid (hs (mx, my) = (hb == rb)) := by unfold Hid; rw [HHS2.out, HHB.out]
          have HNLT := Lib.hid hnlt
          have HHAS := Lib.hid (fun (V : World) (hV : Below w.heap.size w V) => l24Has_any ls (.slice A ls.length c) mx my (by omega) (by omega) HL.out B V (HU.out.below (hV.mono hB)) (Nat.le_trans hB hV.size))
          have HBW := Lib.hid HS5.out.t.2.1
          clear hn hnat d1 hext HOB
          go_upto_region 32 with (fail)
          go_cut [206] from 186 to 206 (fun s wx => s = .bool (kd || (hb != rb)) ∧ Hid (SM w wx w.heap.size N kn (.slice AT T.length cT) T (.slice AO out.length cO) out) ∧ Hid (wx.heap[n18]? = some (.cells #[.int .i64 cx, .int .i64 cy] 44 (0, 0))) ∧ Hid (wx.heap[n22]? = some (.cells #[.int .i64 mx, .int .i64 my] 44 (0, 0))) ∧ Hid (wx.heap[n22 + 1]? = some (.cells #[.int .i64 tx, .int .i64 ty] 44 (0, 0))))
          case first =>
            cases kd
            · go_wp2_with fail
              refine (HHAS.out _ HBW.out).mono ?_
              rintro e w5 ⟨rfl, hb5⟩
              rw [HHB.out]
              have HS6 := Lib.hid (HS5.out.below hb5)
              have HK6 := Lib.hid (blk_below HK5.out hb5)
              have HK26 := Lib.hid (blk_below HK22.out hb5)
              have HK27 := Lib.hid (blk_below HK23.out hb5)
              clear hb5 b0 b1 b2 b3 d1' d2
              cases hb <;> cases rb
              all_goals
                go_wp2_with fail
                go_meet
                exact ⟨rfl, HS6, HK6, HK26, HK27⟩
            · go_wp2_with fail
              go_meet
              exact ⟨rfl, HS5, HK5, HK22, HK23⟩
          case rest =>
            obtain ⟨rfl, HS6, HK6, HK26, HK27⟩ := hcut
            clear HS5 HK5 HK22 HK23 b0 b1 b2 b3 d1' d2 HHAS HBW
            rename_i wc1 wc
            obtain ⟨sk, HSK⟩ : ∃ sk, Hid ((kd || (hb != rb)) = sk) := ⟨_, rfl⟩
            rw [HSK.out]
            cases sk
            · have hkd : kd = false ∧ hb = rb := by
                have := HSK.out
                cases kd <;> cases hb <;> cases rb <;> simp at this ⊢
              obtain ⟨rfl, rfl⟩ := hkd
              obtain ⟨d1, d2⟩ := HS6.out.cells
              have d1' := d1 n HNLT.out
              rw [HKD.out] at d1'
              have b2 : wc.cell? ⟨n22 + 1, 0, none⟩ = some (.int .i64 tx) := by rw [blk_cell HK27.out]; rfl
              have b3 : wc.cell? ⟨n22 + 1, 1, none⟩ = some (.int .i64 ty) := by rw [blk_cell HK27.out]; rfl
              have HNT : Hid ((tx, ty) ∉ T) := by unfold Hid; have := HDN.out; simpa using this.symm
              clear d1
              go_upto_region 34 with (fail)
              generalize hV6 : World.setCell wc _ _ = V6
              have HS7 : Hid (SM w V6 w.heap.size N (updB kn n) (.slice AT T.length cT) T (.slice AO out.length cO) out) := by unfold Hid; rw [← hV6]; exact HS6.out.set HNLT.out
              have HK7 : Hid (V6.heap[n18]? = some (.cells #[.int .i64 cx, .int .i64 cy] 44 (0, 0))) := by unfold Hid; rw [← hV6]; exact (Below.heap_setCell _ _ _ _ (by show n18 ≠ w.heap.size; have := HGD18.out; omega)).trans HK6.out
              have HK36 : Hid (V6.heap[n22]? = some (.cells #[.int .i64 mx, .int .i64 my] 44 (0, 0))) := by unfold Hid; rw [← hV6]; exact (Below.heap_setCell _ _ _ _ (by show n22 ≠ w.heap.size; have := HGD22.out; omega)).trans HK26.out
              have HK37 : Hid (V6.heap[n22 + 1]? = some (.cells #[.int .i64 tx, .int .i64 ty] 44 (0, 0))) := by unfold Hid; rw [← hV6]; exact (Below.heap_setCell _ _ _ _ (by show n22 + 1 ≠ w.heap.size; have := HGD22.out; omega)).trans HK27.out
              clear hV6 HS6 HK6 HK26 HK27 b2 b3 d1' d2
              have b2 : V6.cell? ⟨n22 + 1, 0, none⟩ = some (.int .i64 tx) := by rw [blk_cell HK37.out]; rfl
              have b3 : V6.cell? ⟨n22 + 1, 1, none⟩ = some (.int .i64 ty) := by rw [blk_cell HK37.out]; rfl
              go_upto_region 35 with (at_builtin; refine wpList_push okCell rfl _ _ rfl HS7.out.t rfl (tx, ty) _ rfl _ rfl rfl (by omega) ?_; intro v7 w7 HA7 HG7)
              have HS8 := Lib.hid (HS7.out.pushT HA7.out HG7.out)
              obtain ⟨g8, ob8⟩ := blk_grew2 HK7.out HG7.out HOB1.out
              obtain ⟨g9, _⟩ := blk_grew2 HK36.out HG7.out HOT.out.1
              obtain ⟨g10, _⟩ := blk_grew2 HK37.out HG7.out HOT.out.2.1
              have HK8 := Lib.hid g8; have HO8 := Lib.hid ob8
              have c0' : w7.cell? ⟨n22, 0, none⟩ = some (.int .i64 mx) := by rw [blk_cell g9]; rfl
              have c1' : w7.cell? ⟨n22, 1, none⟩ = some (.int .i64 my) := by rw [blk_cell g9]; rfl
              have c2' : w7.cell? ⟨n22 + 1, 0, none⟩ = some (.int .i64 tx) := by rw [blk_cell g10]; rfl
              have c3' : w7.cell? ⟨n22 + 1, 1, none⟩ = some (.int .i64 ty) := by rw [blk_cell g10]; rfl
              have HNX : Hid (nextB mx my tx ty) := by
                have h9 := HIN.out
                have e1 := HMX.out; have e2 := HMY.out; have e3 := HTX.out; have e4 := HTY.out
                have h8 := HDIR.out
                rw [HXY.out] at h8
                unfold Hid nextB
                rcases (dirs4_iff _).1 h8 with e | e | e | e <;> simp at e <;> obtain ⟨rfl, rfl⟩ := e <;> omega
              obtain ⟨ox, oy, od, HOX⟩ : ∃ ox oy od, Hid (overL mx my tx ty = (ox, oy, od)) := ⟨_, _, _, rfl⟩
              clear g8 ob8 g9 g10 HS7 HK7 HK36 HK37 b2 b3
              go_wp2_with fail
              refine (specDominoOver_yes mx my tx ty HNX.out _).mono ?_
              rintro e w8 ⟨rfl, hb8⟩
              rw [HOX.out]
              have HS9 := Lib.hid (HS8.out.below hb8)
              have HK9 := Lib.hid (blk_below HK8.out hb8)
              clear hb8 c0' c1' c2' c3'
              go_upto_region 36 with (fail)
              obtain ⟨V9, hV9, kV9, bV9⟩ := one_alloc w8 (triO ox oy od 46)
              rw [← hV9]
              obtain ⟨n24, hn24⟩ : ∃ n24, w8.heap.size = n24 := ⟨_, rfl⟩
              rw [hn24] at kV9 ⊢
              have HS10 := Lib.hid (HS9.out.below bV9)
              have HK10 := Lib.hid (blk_below HK9.out bV9)
              obtain ⟨f0, f1, f2⟩ := tri_cells kV9
              have hol : out.length + 1 ≤ 1073741824 := by have := HOL.out; have : N ≤ 81 := by rw [← HNN.out]; exact Nat.mul_le_mul (show W + 2 ≤ 9 by omega) (show H + 2 ≤ 9 by omega)
                                                           omega
              clear hV9 kV9 bV9 hn24
              go_wp2_with (at_builtin; refine wpList_push okDomino rfl _ _ rfl HS10.out.o rfl (ox, oy, od) _ rfl _ rfl rfl hol ?_; intro v11 w11 HA11 HG11)
              have HS11 := HS10.out.pushO HA11.out HG11.out
              obtain ⟨g11, ob11⟩ := blk_grew2 HK10.out HG11.out HOB2.out
              have hneg : pad (pad (tx, ty) (neg (X, Y))) (neg (X, Y)) = (cx, cy) := by rw [← HP2.out, pad_back.1, ← HP1.out, pad_back.1]
              have hmid : pad (tx, ty) (neg (X, Y)) = (mx, my) := by rw [← HP2.out, pad_back.1]
              have hSI := HSI.out.step (t := (tx, ty)) (d := neg (X, Y)) (by have := HDIR.out; rw [HXY.out] at this; exact neg_dir this) (by have := HIN.out; unfold inW; simp only; omega) (by rw [hmid]; have := HIN.out; unfold inW; simp only; omega) (by rw [hmid, HHM.out]; simp) (by rw [hneg]; exact List.mem_of_getElem? HGET.out) HNT.out
              rw [hmid, HOX.out] at hSI
              have hun := unk_upd (F := N) (kn := kn) HNLT.out HKD.out
              refine HP.out (updB kn n) (T ++ [(tx, ty)]) (out ++ [(ox, oy, od)]) _ _ _ _ _ _ _ _ _ _ _ _ _ _ _ _ _ _ _ _ _ _ _ _ _ _ _ _ _ _ _ _ _ _ _ _ _ _ _ _ _ _ _ _ _ _ _ _ _ _ _ _ _ _ _ _ _ _ _ _ _ _ _ _ _ _ _ _ _ _ _ _ _ _ _ _ _ _ _ _ _ _ _ _ _ _ _ _ _ _ _ _ _ _ _ _ _ _ _ _ _ _ _ _ _ _ _ _ _ _ _ _ _ _ _ _ _ _ _ _ _ _ _ _ _ _ _ _ _ _ _ (int_eq (by omega)) ⟨HS11, ?_, hSI, ?_, ?_, ?_, ?_, ?_, g11, HO8.out, ob11⟩
              · rw [← HN1.out]; exact HD.out.step HEXT.out
              · refine HCL.out.grow HGET.out ?_
                rw [HXY.out, HP1.out, HP2.out]
              · rw [List.getElem?_append_left (List.getElem?_eq_some_iff.1 HGET.out).1]; exact HGET.out
              · have := HUK.out; simp; omega
              · intro e he
                rcases List.mem_append.1 he with he | he
                · exact HEX.out e he
                · simp only [List.mem_singleton] at he; subst he; exact HEXT.out
              · have := HOL.out; simp; omega
            · have HCN : Hid (Closed W H hs T k (m + 1)) := HCL.out.skip HGET.out (HCO.out T fun _ _ h3 => by
                have h1 := HSK.out
                have h2 := HDN.out
                rw [HHM.out] at h3
                cases kd
                · cases hb <;> cases rb <;> simp at h1 h3
                · simpa using h2.symm)
              go_wp2_with fail
              exact HP.out kn T out _ _ _ _ _ _ _ _ _ _ _ _ _ _ _ _ _ _ _ _ _ _ _ _ _ _ _ _ _ _ _ _ _ _ _ _ _ _ _ _ _ _ _ _ _ _ _ _ _ _ _ _ _ _ _ _ _ _ _ _ _ _ _ _ _ _ _ _ _ _ _ _ _ _ _ _ _ _ _ _ _ _ _ _ _ _ _ _ _ _ _ _ _ _ _ _ _ _ _ _ _ _ _ _ _ _ _ _ _ _ _ _ _ _ _ _ _ _ _ _ _ _ _ _ _ _ _ _ _ _ _ (int_eq (by omega)) ⟨HS6.out, HD.out, HSI.out, HCN.out, HGET.out, HUK.out, HEX.out, HOL.out, HK6.out, HOB1.out, HOB2.out⟩
        · have HCN : Hid (Closed W H hs T k (m + 1)) := HCL.out.skip HGET.out (HCO.out T fun h1 h2 _ => by
            exfalso
            have := HOB.out
            unfold inW at h1 h2
            simp only at h1 h2
            simp only [Bool.or_eq_true, decide_eq_true_eq] at this
            omega)
          go_wp2_with fail
          exact HP.out kn T out _ _ _ _ _ _ _ _ _ _ _ _ _ _ _ _ _ _ _ _ _ _ _ _ _ _ _ _ _ _ _ _ _ _ _ _ _ _ _ _ _ _ _ _ _ _ _ _ _ _ _ _ _ _ _ _ _ _ _ _ _ _ _ _ _ _ _ _ _ _ _ _ _ _ _ _ _ _ _ _ _ _ _ _ _ _ _ _ _ _ _ _ _ _ _ _ _ _ _ _ _ _ _ _ _ _ _ _ _ _ _ _ _ _ _ _ _ _ _ _ _ _ _ _ _ _ _ _ _ _ _ (int_eq (by omega)) ⟨HS5.out, HD.out, HSI.out, HCN.out, HGET.out, HUK.out, HEX.out, HOL.out, HK5.out, HOB1.out, HOB2.out⟩
end Go.Proofs.Ytehnbalbpfmijaa

namespace Go.Proofs.Ytehnbalbpfmijaa
open Go.RowKit
set_option linter.unusedVariables false

/-- What the search returns. -/
def RetStp (w : World) (W H : Int) (hs : Int × Int → Bool) (ini : List (Int × Int)) (e : Ending) (w' : World) : Prop :=
  ∃ (v : Value) (T : List (Int × Int)) (out : List Lk), e = .returned v ∧ OwnF elDomino w' w.heap.size v out ∧ SInv W H hs ini T out ∧ Closed W H hs T T.length 0 ∧ out.length ≤ 100 ∧ Below w.heap.size w w'
set_option maxRecDepth 100000 in
set_option maxHeartbeats 8000000 in
theorem Steps_any (gw gh W H N : Nat) (rest : Int) (rb : Bool) (hrb : (rest == 0) = rb) (hw1 : 1 ≤ gw ∧ gw ≤ 4) (hh1 : 1 ≤ gh ∧ gh ≤ 4) (hW : 2 * gw = W + 1) (hH : 2 * gh = H + 1) (hN : (W + 2) * (H + 2) = N) (u : Value) (ls : List Lk)
    (hl : ∀ l ∈ ls, (0 ≤ l.1 ∧ l.1 ≤ 4) ∧ 0 ≤ l.2.1 ∧ l.2.1 ≤ 4) (B : Nat) (w : World) (hu : RdF elLink w B u ls) (hB : B ≤ w.heap.size) :
    Calls Try.prog 97 #[.int .i64 gw, .int .i64 gh, u, .int .i64 rest] w (RetStp w W H (fun c => decide (c ∈ ls.map lkC) == rb) (iniZ gw gh rb)) := by
  have HU := Lib.hid hu
  have HL := Lib.hid hl
  obtain ⟨A, c, rfl, g1, g2, _⟩ := hu
  unfold maxLen at g2
  have hw2 : 2 * (gw : Int) - 1 = (W : Int) := by omega
  have hh2 : 2 * (gh : Int) - 1 = (H : Int) := by omega
  have hW7 : W ≤ 7 := by omega
  have hH7 : H ≤ 7 := by omega
  have hN81 : N ≤ 81 := by rw [← hN]; exact Nat.mul_le_mul (show W + 2 ≤ 9 by omega) (show H + 2 ≤ 9 by omega)
  have hN2 : ((W : Int) + 2) * ((H : Int) + 2) = (N : Int) := by rw [← hN]; simp
  have hN0 : 0 ≤ ((W : Int) + 2) * ((H : Int) + 2) := by omega
  have hN9 : ((W : Int) + 2) * ((H : Int) + 2) ≤ 81 := by omega
  have HNN := Lib.hid hN
  have HWW := Lib.hid hW
  have HHH := Lib.hid hH
  have HINI := Lib.hid (ini_facts hw1.1 hh1.1 rb)
  obtain ⟨hs, HHS⟩ : ∃ hs : Int × Int → Bool, Hid ((fun c => decide (c ∈ ls.map lkC) == rb) = hs) := ⟨_, rfl⟩
  rw [HHS.out]
  have HHS2 : Hid (∀ c, hs c = (decide (c ∈ ls.map lkC) == rb)) := fun c => by rw [← HHS.out]
  have HM0 := Lib.hid (SM.start w N)
  have hmK : ∀ W : World, (Instr.makeSlice 101 (.int .i64 (N : Int)) (.int .i64 (N : Int))).run Try.prog W = .ok (.slice (some ⟨W.heap.size, 0, none⟩) N N) (W.alloc (.cells (bRow N fun _ => false) 4)) := fun W => by
    rw [← bRow_made]
    exact run_make_row' (P := Try.prog) 101 4 (.bool false) 1 Try.underlying101 infoBoolO rfl .i64 .i64 N (by omega) (by omega) W
  clear hl hW hH hN HHS
  obtain ⟨ini, HIN⟩ : ∃ ini, Hid (iniZ gw gh rb = ini) := ⟨_, rfl⟩
  rw [HIN.out] at HINI ⊢
  have HIL : Hid (ini.length ≤ 100) := by
    unfold Hid
    rw [← HIN.out]
    have h1 := rgAll_len gw gh (gh + 1)
    have h2 : (gh + 1) * (gw + 1) ≤ 5 * 5 := Nat.mul_le_mul (by omega) (by omega)
    unfold iniZ
    split
    · simp
    · omega
  go_enter Try.func97, Try.ntmps97
  go_upto_if 41 with (fail)
  generalize World.alloc (World.alloc (World.alloc w _) _) _ = W1 at *
  generalize w.heap.size + 1 + 1 = n2 at *
  generalize w.heap.size + 1 = n1 at *
  go_cut [12] (fun s wx => Hid (SM w wx w.heap.size N (fun _ => false) s ini (.slice (some ⟨n2, 0, none⟩) 0 0) []))
  case first =>
    cases rb
    · have HIN2 : Hid (ini = rgAll gw gh (gh + 1)) := HIN.out.symm
      go_wp2_with fail
      go_loopw [12, 14] (fun s y wr => ∃ (j : Nat) (v : Value), v = s ∧ j ≤ gh + 1 ∧ y = .int .i64 (2 * (j : Int) - 1) ∧ Hid (SM w wr w.heap.size N (fun _ => false) v (rgAll gw gh j) (.slice (some ⟨n2, 0, none⟩) 0 0) [])) (fun _ y _ => ((gh : Int) * 2 + 1 - intOf y).toNat)
      case atStart => exact ⟨0, _, rfl, Nat.zero_le _, rfl, HM0⟩
      case round =>
        obtain ⟨j, v, rfl, hj, rfl, HS⟩ := hrel
        clear HM0
        by_cases hlt : j < gh + 1
        · have hy1 : 2 * (j : Int) - 1 ≤ (H : Int) := by omega
          have hjw : IntKind.i64.wrap (2 * (j : Int) - 1 + 2) = 2 * ((j + 1 : Nat) : Int) - 1 := by rw [IntWalk.i64_in _ (by omega)]; omega
          have hj0 : (0 : Int) ≤ (j : Int) := by omega
          have hj5 : (j : Int) ≤ 4 := by omega
          have hjl := rgAll_len gw gh j
          have hj25 : j * (gw + 1) ≤ 4 * 5 := Nat.mul_le_mul (by omega) (by omega)
          go_wp2_with fail
          go_loopw [12, 15] (fun s x wr => ∃ (i : Nat) (v2 : Value), v2 = s ∧ i ≤ gw + 1 ∧ x = .int .i64 (2 * (i : Int) - 1) ∧ Hid (SM w wr w.heap.size N (fun _ => false) v2 (rgAll gw gh j ++ rgRow gw gh j i) (.slice (some ⟨n2, 0, none⟩) 0 0) [])) (fun _ x _ => ((gw : Int) * 2 + 1 - intOf x).toNat)
          case atStart => exact ⟨0, _, rfl, Nat.zero_le _, rfl, by rw [rgRow, List.append_nil]; exact HS⟩
          case round =>
            obtain ⟨i, v2, rfl, hi, rfl, HS2⟩ := hrel
            clear HS
            by_cases hli : i < gw + 1
            · have hx1 : 2 * (i : Int) - 1 ≤ (W : Int) := by omega
              have hi0 : (0 : Int) ≤ (i : Int) := by omega
              have hi5 : (i : Int) ≤ 4 := by omega
              have hil := rgRow_len gw gh j i
              have hiw : IntKind.i64.wrap (2 * (i : Int) - 1 + 2) = 2 * ((i + 1 : Nat) : Int) - 1 := by rw [IntWalk.i64_in _ (by omega)]; omega
              have hit : 2 * (i : Int) - 1 + 2 = 2 * ((i + 1 : Nat) : Int) - 1 := by omega
              have HR : Hid (rgRow gw gh j (i + 1) = rgRow gw gh j i ++ rgAt gw gh i j) := rfl
              have HLB : Hid ((rgAll gw gh j ++ rgRow gw gh j i).length + 1 ≤ 1073741824) := by unfold Hid; rw [List.length_append]; omega
              obtain ⟨px, hpx⟩ : ∃ px, 2 * (i : Int) - 1 = px := ⟨_, rfl⟩
              obtain ⟨py, hpy⟩ : ∃ py, 2 * (j : Int) - 1 = py := ⟨_, rfl⟩
              have HPX := Lib.hid hpx
              have HPY := Lib.hid hpy
              obtain ⟨ob, HOB⟩ : ∃ ob, Hid ((decide (px < 0) || (decide (py < 0) || (decide ((W : Int) ≤ px) || decide ((H : Int) ≤ py)))) = ob) := ⟨_, rfl⟩
              have HAT : Hid (rgAt gw gh i j = if ob then [(px, py)] else []) := by
                unfold Hid rgAt
                rw [← HOB.out, hpx, hpy, hw2, hh2]
                by_cases c1 : px < 0 <;> by_cases c2 : py < 0 <;> by_cases c3 : (W : Int) ≤ px <;> by_cases c4 : (H : Int) ≤ py <;> simp [c1, c2, c3, c4]
              have hpb : (-1 ≤ px ∧ px ≤ 7) ∧ -1 ≤ py ∧ py ≤ 7 := by omega
              obtain ⟨⟨hp1, hp2⟩, hp3, hp4⟩ := hpb
              rw [hpx] at hx1 hiw hit ⊢
              rw [hpy] at hy1 hjw ⊢
              clear hpx hpy
              have GO : ∀ (k : Unit), True := fun _ => trivial
              by_cases c1 : px < 0
              · have H1 : Hid (ob = true) := by unfold Hid; rw [← HOB.out]; simp [c1]
                have HE : Hid (rgAll gw gh j ++ rgRow gw gh j (i + 1) = (rgAll gw gh j ++ rgRow gw gh j i) ++ [(px, py)]) := by unfold Hid; rw [HR.out, HAT.out, H1.out]; simp
                go_wp2_with (at_builtin; refine wpList_push okCell rfl _ _ rfl HS2.out.t rfl (px, py) _ rfl _ rfl rfl HLB.out ?_; intro v3 w3 HA3 HG3)
                have HS3 := Lib.hid (HS2.out.pushT HA3.out HG3.out)
                go_roundw
                case rel => exact ⟨i + 1, _, rfl, by omega, int_eq (by have := HPX.out; omega), by rw [HE.out]; exact HS3⟩
                case measure => simp [intOf]; omega
              · by_cases c2 : py < 0
                · have H1 : Hid (ob = true) := by unfold Hid; rw [← HOB.out]; simp [c2]
                  have HE : Hid (rgAll gw gh j ++ rgRow gw gh j (i + 1) = (rgAll gw gh j ++ rgRow gw gh j i) ++ [(px, py)]) := by unfold Hid; rw [HR.out, HAT.out, H1.out]; simp
                  go_wp2_with (at_builtin; refine wpList_push okCell rfl _ _ rfl HS2.out.t rfl (px, py) _ rfl _ rfl rfl HLB.out ?_; intro v3 w3 HA3 HG3)
                  have HS3 := Lib.hid (HS2.out.pushT HA3.out HG3.out)
                  go_roundw
                  case rel => exact ⟨i + 1, _, rfl, by omega, int_eq (by have := HPX.out; omega), by rw [HE.out]; exact HS3⟩
                  case measure => simp [intOf]; omega
                · by_cases c3 : (W : Int) ≤ px
                  · have H1 : Hid (ob = true) := by unfold Hid; rw [← HOB.out]; simp [c3]
                    have HE : Hid (rgAll gw gh j ++ rgRow gw gh j (i + 1) = (rgAll gw gh j ++ rgRow gw gh j i) ++ [(px, py)]) := by unfold Hid; rw [HR.out, HAT.out, H1.out]; simp
                    go_wp2_with (at_builtin; refine wpList_push okCell rfl _ _ rfl HS2.out.t rfl (px, py) _ rfl _ rfl rfl HLB.out ?_; intro v3 w3 HA3 HG3)
                    have HS3 := Lib.hid (HS2.out.pushT HA3.out HG3.out)
                    go_roundw
                    case rel => exact ⟨i + 1, _, rfl, by omega, int_eq (by have := HPX.out; omega), by rw [HE.out]; exact HS3⟩
                    case measure => simp [intOf]; omega
                  · by_cases c4 : (H : Int) ≤ py
                    · have H1 : Hid (ob = true) := by unfold Hid; rw [← HOB.out]; simp [c4]
                      have HE : Hid (rgAll gw gh j ++ rgRow gw gh j (i + 1) = (rgAll gw gh j ++ rgRow gw gh j i) ++ [(px, py)]) := by unfold Hid; rw [HR.out, HAT.out, H1.out]; simp
                      go_wp2_with (at_builtin; refine wpList_push okCell rfl _ _ rfl HS2.out.t rfl (px, py) _ rfl _ rfl rfl HLB.out ?_; intro v3 w3 HA3 HG3)
                      have HS3 := Lib.hid (HS2.out.pushT HA3.out HG3.out)
                      go_roundw
                      case rel => exact ⟨i + 1, _, rfl, by omega, int_eq (by have := HPX.out; omega), by rw [HE.out]; exact HS3⟩
                      case measure => simp [intOf]; omega
                    · have H1 : Hid (ob = false) := by unfold Hid; rw [← HOB.out]; simp [c1, c2, c3, c4]
                      have HE : Hid (rgAll gw gh j ++ rgRow gw gh j (i + 1) = rgAll gw gh j ++ rgRow gw gh j i) := by unfold Hid; rw [HR.out, HAT.out, H1.out]; simp
                      go_wp2_with fail
                      go_roundw
                      case rel => exact ⟨i + 1, _, rfl, by omega, int_eq (by have := HPX.out; omega), by rw [HE.out]; exact HS2⟩
                      case measure => simp [intOf]; omega
            · obtain rfl : i = gw + 1 := by omega
              have hx1 : ¬ (2 * ((gw + 1 : Nat) : Int) - 1 ≤ (W : Int)) := by omega
              have hjt : 2 * (j : Int) - 1 + 2 = 2 * ((j + 1 : Nat) : Int) - 1 := by omega
              go_wp2_with fail
              go_roundw
              case rel => exact ⟨j + 1, _, rfl, by omega, int_eq (by omega), HS2⟩
              case measure => simp [intOf]; omega
        · obtain rfl : j = gh + 1 := by omega
          have hy1 : ¬ (2 * ((gh + 1 : Nat) : Int) - 1 ≤ (H : Int)) := by omega
          go_wp2_with fail
          go_meet
          rw [HIN2.out]
          exact HS
    · have HIN2 : Hid (ini = [(0, 0)]) := HIN.out.symm
      go_wp2_with (at_builtin; refine wpList_push okCell rfl _ _ rfl HM0.out.t rfl ((0 : Int), (0 : Int)) _ rfl _ rfl rfl (by simp) ?_; intro v2 w2 HA2 HG2)
      go_meet
      rw [HIN2.out]
      exact HM0.out.pushT HA2.out HG2.out
  case rest =>
    have HST := Lib.hid hcut
    clear HM0 hcut
    rename_i vT0
    obtain ⟨AT, cT, hvT, qT1, qT2, _⟩ := HST.out.t.1.rd okCell
    subst hvT
    unfold maxLen at qT2
    have hW21 : 2 * gw - 1 = W := by have := HWW.out; omega
    have hH21 : 2 * gh - 1 = H := by have := HHH.out; omega
    rw [hW21, hH21, hw2, hh2] at HINI
    have HD0 := Lib.hid (DInv.start W H)
    have hil := HIL.out
    clear hW21 hH21
    go_wp2_with fail
    go_loopw [16] (fun s wr => ∃ (k : Nat) (kn : Nat → Bool), k ≤ ini.length ∧ s = .int .i64 (k : Int) ∧ Hid (SM w wr w.heap.size N kn (.slice AT ini.length cT) ini (.slice (some ⟨n2, 0, none⟩) 0 0) []) ∧ Hid (DInv W H kn (ini.take k))) (fun s _ => ini.length - (intOf s).toNat)
    case atStart => exact ⟨0, _, Nat.zero_le _, rfl, HST, HD0⟩
    case round =>
      obtain ⟨k, kn, hk, rfl, HS, HD⟩ := hrel
      clear HST HD0
      by_cases hlt : k < ini.length
      · have ht : decide ((k : Int) < (ini.length : Int)) = true := by simp only [decide_eq_true_eq]; omega
        obtain ⟨gT, cap, hv, hgT, hlT, hc1, hc2, mx, my⟩ := HS.out.tcell hlt
        simp only [Value.slice.injEq, true_and] at hv
        obtain ⟨rfl, rfl⟩ := hv
        have hget : ini[k]? = some (dx ini k, dy ini k) := duo_get ini k hlt
        have hext : extW W H (dx ini k, dy ini k) := HINI.out.2.2.2 _ (List.mem_of_getElem? hget)
        have HTK : Hid (ini.take (k + 1) = ini.take k ++ [(dx ini k, dy ini k)]) := by unfold Hid; rw [List.take_add_one, hget]; rfl
        have HEXT := Lib.hid hext
        generalize dx ini k = X at *
        generalize dy ini k = Y at *
        obtain ⟨⟨x1, x2⟩, y1, y2⟩ := hext
        simp only at x1 x2 y1 y2
        have hnat := (ix_nat HEXT.out).2.2.2
        have hnlt := ix_lt HEXT.out
        rw [HNN.out] at hnlt
        have HNI : Hid (∃ n, ixD W (X, Y) = n) := ⟨_, rfl⟩
        obtain ⟨n, hn⟩ := HNI.out
        rw [hn] at hnat hnlt
        simp only at hnat
        have HN1 := Lib.hid hn
        obtain ⟨m0, m1⟩ := mul_bdP (a := Y + 1) (b := (W : Int) + 2) (A := 8) (B := 9) (by omega) (by omega) (by omega) (by omega)
        have hn0 : (0 : Int) ≤ (n : Int) := by omega
        have hn1 : (n : Int) < (N : Int) := by omega
        have w1 : IntKind.i64.wrap (Y + 1) = Y + 1 := IntWalk.i64_in _ (by omega)
        have w2 : IntKind.i64.wrap ((W : Int) + 2) = (W : Int) + 2 := IntWalk.i64_in _ (by omega)
        have w3 : IntKind.i64.wrap ((Y + 1) * ((W : Int) + 2)) = (Y + 1) * ((W : Int) + 2) := IntWalk.i64_in _ (by omega)
        have w4 : IntKind.i64.wrap ((Y + 1) * ((W : Int) + 2) + X) = (Y + 1) * ((W : Int) + 2) + X := IntWalk.i64_in _ (by omega)
        have w5 : IntKind.i64.wrap ((Y + 1) * ((W : Int) + 2) + X + 1) = (n : Int) := by rw [IntWalk.i64_in _ (by omega), hnat]
        have hk0 : (0 : Int) ≤ (k : Int) := by omega
        have hk1 : (k : Int) < (ini.length : Int) := by omega
        obtain ⟨d1, d2⟩ := HS.out.cells
        have d1' := d1 n hnlt
        have HGT := Lib.hid hgT
        have HSET := Lib.hid (HS.out.set hnlt)
        have HDN : Hid (DInv W H (updB kn n) (ini.take (k + 1))) := by unfold Hid; rw [HTK.out, ← HN1.out]; exact HD.out.step HEXT.out
        clear hn hnat hget d1 m0 m1 hgT HNI
        go_wp2_with fail
        refine wp_region_held_drew (S := fun w' => w'.cell? ⟨gT, k * 2, none⟩ = some (.int .i64 X) ∧ w'.cell? ⟨gT, k * 2 + 1, none⟩ = some (.int .i64 Y)) (by kernel_rfl) (by exact ⟨mx, my⟩) (fun hHeld => ?_)
        refine wpAnyH_take (i := 0) (oi := ⟨_, _, _, _, _, _⟩) (v := ?vap22578q1n0) rfl (by kernel_rfl) (by kernel_rfl) (by kernel_rfl) (fun _ _ _ h => h) (Or.inl ⟨by rfl, ?hap22578q1n0⟩) (by assumption) ?_
        case hap22578q1n0 => (intro w hSw; (try dsimp only at hSw); go_simp; try with_reducible rfl)
        try simp only [Act.put, List.setIfInBounds_toArray, List.set_cons_zero, List.set_cons_succ]
        refine wpAnyH_take (i := 1) (oi := ⟨_, _, _, _, _, _⟩) (v := ?vap22578q2n1) rfl (by kernel_rfl) (by kernel_rfl) (by kernel_rfl) (fun _ _ _ h => h) (Or.inl ⟨by rfl, ?hap22578q2n1⟩) (by assumption) ?_
        case hap22578q2n1 => (intro w hSw; (try dsimp only at hSw); go_simp; try with_reducible rfl)
        try simp only [Act.put, List.setIfInBounds_toArray, List.set_cons_zero, List.set_cons_succ]
        refine wpAnyH_take (i := 2) (oi := ⟨_, _, _, _, _, _⟩) (v := ?vap22578q3n2) rfl (by kernel_rfl) (by kernel_rfl) (by kernel_rfl) (fun _ _ _ h => h) (Or.inl ⟨by rfl, ?hap22578q3n2⟩) (by assumption) ?_
        case hap22578q3n2 => (intro w hSw; (try dsimp only at hSw); go_simp; try with_reducible rfl)
        try simp only [Act.put, List.setIfInBounds_toArray, List.set_cons_zero, List.set_cons_succ]
        refine wpAnyH_take (i := 3) (oi := ⟨_, _, _, _, _, _⟩) (v := ?vap22578q4n3) rfl (by kernel_rfl) (by kernel_rfl) (by kernel_rfl) (fun _ _ _ h => h) (Or.inl ⟨by rfl, ?hap22578q4n3⟩) (by assumption) ?_
        case hap22578q4n3 => (intro w hSw; (try dsimp only at hSw); go_simp; try with_reducible rfl)
        try simp only [Act.put, List.setIfInBounds_toArray, List.set_cons_zero, List.set_cons_succ]
        refine wpAnyH_take (i := 4) (oi := ⟨_, _, _, _, _, _⟩) (v := ?vap22578q5n4) rfl (by kernel_rfl) (by kernel_rfl) (by kernel_rfl) (fun _ _ _ h => h) (Or.inl ⟨by rfl, ?hap22578q5n4⟩) (by assumption) ?_
        case hap22578q5n4 => (intro w hSw; (try dsimp only at hSw); go_simp; try with_reducible rfl)
        try simp only [Act.put, List.setIfInBounds_toArray, List.set_cons_zero, List.set_cons_succ]
        refine wpAnyH_take (i := 5) (oi := ⟨_, _, _, _, _, _⟩) (v := ?vap22578q6n5) rfl (by kernel_rfl) (by kernel_rfl) (by kernel_rfl) (fun _ _ _ h => h) (Or.inl ⟨by rfl, ?hap22578q6n5⟩) (by assumption) ?_
        case hap22578q6n5 => (intro w hSw; (try dsimp only at hSw); go_simp; try with_reducible rfl)
        try simp only [Act.put, List.setIfInBounds_toArray, List.set_cons_zero, List.set_cons_succ]
        refine wpAnyH_take (i := 6) (oi := ⟨_, _, _, _, _, _⟩) (v := ?vap22578q7n6) rfl (by kernel_rfl) (by kernel_rfl) (by kernel_rfl) (fun _ _ _ h => h) (Or.inl ⟨by rfl, ?hap22578q7n6⟩) (by assumption) ?_
        case hap22578q7n6 => (intro w hSw; (try dsimp only at hSw); go_simp; try with_reducible rfl)
        try simp only [Act.put, List.setIfInBounds_toArray, List.set_cons_zero, List.set_cons_succ]
        refine wpAnyH_take (i := 7) (oi := ⟨_, _, _, _, _, _⟩) (v := ?vap22578q8n7) rfl (by kernel_rfl) (by kernel_rfl) (by kernel_rfl) (fun _ _ _ h => h) (Or.inl ⟨by rfl, ?hap22578q8n7⟩) (by assumption) ?_
        case hap22578q8n7 => (intro w hSw; (try dsimp only at hSw); go_simp; try with_reducible rfl)
        try simp only [Act.put, List.setIfInBounds_toArray, List.set_cons_zero, List.set_cons_succ]
        refine wpAnyH_take (i := 8) (oi := ⟨_, _, _, _, _, _⟩) (v := ?vap22578q9n8) rfl (by kernel_rfl) (by kernel_rfl) (by kernel_rfl) (fun _ _ _ h => h) (Or.inl ⟨by rfl, ?hap22578q9n8⟩) (by assumption) ?_
        case hap22578q9n8 => (intro w hSw; (try dsimp only at hSw); go_simp; try with_reducible rfl)
        try simp only [Act.put, List.setIfInBounds_toArray, List.set_cons_zero, List.set_cons_succ]
        refine wpAnyH_take (i := 9) (oi := ⟨_, _, _, _, _, _⟩) (v := ?vap22578q10n9) rfl (by kernel_rfl) (by kernel_rfl) (by kernel_rfl) (fun _ _ _ h => h) (Or.inl ⟨by rfl, ?hap22578q10n9⟩) (by assumption) ?_
        case hap22578q10n9 => (intro w hSw; (try dsimp only at hSw); go_simp; try with_reducible rfl)
        try simp only [Act.put, List.setIfInBounds_toArray, List.set_cons_zero, List.set_cons_succ]
        refine wpAnyH_take (i := 10) (oi := ⟨_, _, _, _, _, _⟩) (v := ?vap22578q11n10) rfl (by kernel_rfl) (by kernel_rfl) (by kernel_rfl) (fun _ _ _ h => h) (Or.inl ⟨by rfl, ?hap22578q11n10⟩) (by assumption) ?_
        case hap22578q11n10 => (intro w hSw; (try dsimp only at hSw); go_simp; try with_reducible rfl)
        try simp only [Act.put, List.setIfInBounds_toArray, List.set_cons_zero, List.set_cons_succ]
        refine wpAnyH_take (i := 11) (oi := ⟨_, _, _, _, _, _⟩) (v := ?vap22578q12n11) rfl (by kernel_rfl) (by kernel_rfl) (by kernel_rfl) (fun _ _ _ h => h) (Or.inl ⟨by rfl, ?hap22578q12n11⟩) (by assumption) ?_
        case hap22578q12n11 => (intro w hSw; (try dsimp only at hSw); go_simp; try with_reducible rfl)
        try simp only [Act.put, List.setIfInBounds_toArray, List.set_cons_zero, List.set_cons_succ]
        refine wpAnyH_take (i := 12) (oi := ⟨_, _, _, _, _, _⟩) (v := ?vap22578q13n12) rfl (by kernel_rfl) (by kernel_rfl) (by kernel_rfl) (fun _ _ _ h => h) (Or.inl ⟨by rfl, ?hap22578q13n12⟩) (by assumption) ?_
        case hap22578q13n12 => (intro w hSw; (try dsimp only at hSw); go_simp; try with_reducible rfl)
        try simp only [Act.put, List.setIfInBounds_toArray, List.set_cons_zero, List.set_cons_succ]
        refine wpAnyH_take (i := 13) (oi := ⟨_, _, _, _, _, _⟩) (v := ?vap22578q14n13) rfl (by kernel_rfl) (by kernel_rfl) (by kernel_rfl) (fun _ _ _ h => h) (Or.inl ⟨by rfl, ?hap22578q14n13⟩) (by assumption) ?_
        case hap22578q14n13 => (intro w hSw; (try dsimp only at hSw); go_simp; try with_reducible rfl)
        try simp only [Act.put, List.setIfInBounds_toArray, List.set_cons_zero, List.set_cons_succ]
        refine wpAnyH_take (i := 14) (oi := ⟨_, _, _, _, _, _⟩) (v := ?vap22578q15n14) rfl (by kernel_rfl) (by kernel_rfl) (by kernel_rfl) (fun _ _ _ h => h) (Or.inl ⟨by rfl, ?hap22578q15n14⟩) (by assumption) ?_
        case hap22578q15n14 => (intro w hSw; (try dsimp only at hSw); go_simp; try with_reducible rfl)
        try simp only [Act.put, List.setIfInBounds_toArray, List.set_cons_zero, List.set_cons_succ]
        refine wpAnyH_take (i := 15) (oi := ⟨_, _, _, _, _, _⟩) (v := ?vap22578q16n15) rfl (by kernel_rfl) (by kernel_rfl) (by kernel_rfl) (fun _ _ _ h => h) (Or.inl ⟨by rfl, ?hap22578q16n15⟩) (by assumption) ?_
        case hap22578q16n15 => (intro w hSw; (try dsimp only at hSw); go_simp; try with_reducible rfl)
        try simp only [Act.put, List.setIfInBounds_toArray, List.set_cons_zero, List.set_cons_succ]
        refine wpAnyH_take (i := 16) (oi := ⟨_, _, _, _, _, _⟩) (v := ?vap22578q17n16) rfl (by kernel_rfl) (by kernel_rfl) (by kernel_rfl) (fun _ _ _ h => h) (Or.inl ⟨by rfl, ?hap22578q17n16⟩) (by assumption) ?_
        case hap22578q17n16 => (intro w hSw; (try dsimp only at hSw); go_simp; try with_reducible rfl)
        try simp only [Act.put, List.setIfInBounds_toArray, List.set_cons_zero, List.set_cons_succ]
        refine wpAnyH_take (i := 17) (oi := ⟨_, _, _, _, _, _⟩) (v := ?vap22578q18n17) rfl (by kernel_rfl) (by kernel_rfl) (by kernel_rfl) (fun _ _ _ h => h) (Or.inl ⟨by rfl, ?hap22578q18n17⟩) (by assumption) ?_
        case hap22578q18n17 => (intro w hSw; (try dsimp only at hSw); go_simp; try with_reducible rfl)
        try simp only [Act.put, List.setIfInBounds_toArray, List.set_cons_zero, List.set_cons_succ]
        refine wpAnyH_ready (rs := [18]) (by kernel_rfl) (by simp) ?_
        refine AllReadyH.cons (o := ⟨_, _, _, _, _, _⟩) rfl (fun K hK => ?_) AllReadyH.nil
        go_simp
        refine hK.out _ _ (by first | exact keepO HGT.out hHeld | exact hHeld) (fun hHeld => ?_)
        clear hK K
        try simp only [Act.put, List.setIfInBounds_toArray, List.set_cons_zero, List.set_cons_succ]
        refine wpAnyH_done (by kernel_rfl) ?_ _
        generalize hX : World.drew _ = V
        have HSV : Hid (SM w V w.heap.size N (updB kn n) (.slice (some ⟨gT, 0, none⟩) ini.length cT) ini (.slice (some ⟨n2, 0, none⟩) 0 0) []) := by unfold Hid; rw [← hX]; exact HSET.out.below (Below.refl _ _).drew
        clear hX mx my d1' d2 w1 w2 w3 w4 w5 HSET
        go_wp2_with fail
        go_roundw
        case rel => exact ⟨k + 1, _, by omega, by go_num, HSV, HDN⟩
        case measure => simp [intOf]; omega
      · obtain rfl : k = ini.length := by omega
        have ht : decide ((ini.length : Int) < (ini.length : Int)) = false := by simp
        have HD1 : Hid (DInv W H kn ini) := by have := HD.out; rw [List.take_length] at this; exact this
        have HUK : Hid (ini.length + unk N kn ≤ 200) := by have := unk_le N kn; unfold Hid; omega
        have HEX : Hid (∀ c ∈ ini, extW W H c) := HINI.out.2.2.2
        have HSI := Lib.hid (SInv.start W H hs ini)
        have HCL := Lib.hid (Closed.start W H hs ini)
        clear HD
        go_wp2_with fail
        clear hk
        go_loopw [12, 13, 17] (fun vt vo s wr => ∃ (k : Nat) (T : List (Int × Int)) (out : List Lk) (kn : Nat → Bool) (vT vO : Value), vT = vt ∧ vO = vo ∧ k ≤ T.length ∧ s = .int .i64 (k : Int) ∧ Hid (SM w wr w.heap.size N kn vT T vO out) ∧ Hid (DInv W H kn T) ∧ Hid (SInv W H hs ini T out) ∧ Hid (Closed W H hs T k 0) ∧ Hid (T.length + unk N kn ≤ 200) ∧ Hid (∀ c ∈ T, extW W H c) ∧ Hid (out.length ≤ N ∧ out.length + unk N kn ≤ N)) (fun _ _ s _ => 200 - (intOf s).toNat)
        case atStart => exact ⟨0, ini, [], kn, _, _, rfl, rfl, Nat.zero_le _, rfl, HS, HD1, HSI, HCL, HUK, HEX, by have := unk_le N kn; unfold Hid; simp; exact this⟩
        case round =>
          obtain ⟨k, T, out, kn, vT, vO, rfl, rfl, hk, rfl, HS, HD, HSI, HCL, HUK, HEX, HOL⟩ := hrel
          clear HIN HINI
          obtain ⟨AT, cT, hvT, qT1, qT2, _⟩ := HS.out.t.1.rd okCell
          obtain ⟨AO, cO, hvO, qO1, qO2, _⟩ := HS.out.o.1.rd okDomino
          subst hvT hvO
          unfold maxLen at qT2 qO2
          have hT200 : T.length ≤ 200 := by have := HUK.out; omega
          by_cases hlt : k < T.length
          · have ht : decide ((k : Int) < (T.length : Int)) = true := by simp only [decide_eq_true_eq]; omega
            obtain ⟨gT, cap, hv, hgT, hlT, hc1, hc2, mx, my⟩ := HS.out.tcell hlt
            simp only [Value.slice.injEq, true_and] at hv
            obtain ⟨rfl, rfl⟩ := hv
            have HGET : Hid (T[k]? = some (dx T k, dy T k)) := duo_get T k hlt
            have hext : extW W H (dx T k, dy T k) := HEX.out _ (List.mem_of_getElem? HGET.out)
            generalize dx T k = cx at *
            generalize dy T k = cy at *
            obtain ⟨⟨x1, x2⟩, y1, y2⟩ := hext
            simp only at x1 x2 y1 y2
            have hk0 : (0 : Int) ≤ (k : Int) := by omega
            have hk1 : (k : Int) < (T.length : Int) := by omega
            go_upto_region 24 with (fail)
            obtain ⟨V1, hV1, kV1, bV1⟩ := one_alloc wr (.cells #[.int .i64 cx, .int .i64 cy] 44)
            rw [← hV1]
            obtain ⟨n18, hn18⟩ : ∃ n18, wr.heap.size = n18 := ⟨_, rfl⟩
            have HS1 := Lib.hid (HS.out.below bV1)
            rw [hn18] at kV1 hlT ⊢
            have HK18 := Lib.hid kV1
            have HGD18 : Hid (w.heap.size < n18) := by unfold Hid; rw [← hn18]; exact lt_of_block HS.out.d
            have HOB : Hid ((Value.slice (some ⟨gT, 0, none⟩) T.length cT).ownBlock ≠ some n18 ∧ (Value.slice AO out.length cO).ownBlock ≠ some n18) := by
              refine ⟨fun e => ?_, fun e => ?_⟩
              · have := (HS.out.t.1.lt _ e).2; omega
              · have := (HS.out.o.1.lt _ e).2; omega
            clear hV1 kV1 bV1 HS mx my hn18
            go_wp2_with fail
            go_loopw [12, 13, 19] (fun vt vo s wr2 => ∃ (m : Nat) (T2 : List (Int × Int)) (out2 : List Lk) (kn2 : Nat → Bool) (vT vO : Value), vT = vt ∧ vO = vo ∧ m ≤ 4 ∧ s = .int .i64 (m : Int) ∧ Hid (SM w wr2 w.heap.size N kn2 vT T2 vO out2) ∧ Hid (DInv W H kn2 T2) ∧ Hid (SInv W H hs ini T2 out2) ∧ Hid (Closed W H hs T2 k m) ∧ Hid (T2[k]? = some (cx, cy)) ∧ Hid (T2.length + unk N kn2 ≤ 200) ∧ Hid (∀ c ∈ T2, extW W H c) ∧ Hid (out2.length ≤ N ∧ out2.length + unk N kn2 ≤ N) ∧ Hid (wr2.heap[n18]? = some (.cells #[.int .i64 cx, .int .i64 cy] 44 (0, 0))) ∧ Hid (vT.ownBlock ≠ some n18 ∧ vO.ownBlock ≠ some n18)) (fun _ _ s _ => 4 - (intOf s).toNat)
            case atStart => exact ⟨0, T, out, kn, _, _, rfl, rfl, Nat.zero_le _, rfl, HS1, HD, HSI, HCL, HGET, HUK, HEX, HOL, HK18, HOB⟩
            case round =>
              obtain ⟨m, T2, out2, kn2, vT2, vO2, rfl, rfl, hm, rfl, HS2, HD2, HSI2, HCL2, HGET2, HUK2, HEX2, HOL2, HK2, HOB2⟩ := hrel
              clear HS1 HD HSI HCL HUK HEX HOL HK18 HOB HGET
              by_cases hlm : m < 4
              · have htm : decide ((m : Int) < 4) = true := by simp only [decide_eq_true_eq]; omega
                have HRR : Hid (R5 w W H N hs ini k n18 cx cy m wr kn2 T2 out2 vT2 vO2) := ⟨HS2.out, HD2.out, HSI2.out, HCL2.out, HGET2.out, HUK2.out, HEX2.out, HOL2.out, HK2.out, HOB2.out.1, HOB2.out.2⟩
                clear HS2 HD2 HSI2 HCL2 HGET2 HUK2 HEX2 HOL2 HK2 HOB2
                refine Round5 W H N rest rb hrb hW7 hH7 HNN.out A c ls HL.out B w HU.out hB ini k n18 cx cy HGD18.out m hlm hs HHS2.out wr kn2 T2 out2 vT2 vO2 HRR.out _ _ _ _ _ _ _ _ _ _ _ _ _ _ _ _ _ _ _ _ _ _ _ _ _ _ _ _ _ _ _ _ _ _ _ _ _ _ _ _ _ _ _ _ _ _ _ _ _ _ _ _ _ _ _ _ _ _ _ _ _ _ _ _ _ _ _ _ _ _ _ _ _ _ _ _ _ _ _ _ _ _ _ _ _ _ _ _ _ _ _ _ _ _ _ _ _ _ _ _ _ _ _ _ _ _ _ _ _ _ _ _ _ _ _ _ _ _ _ _ _ _ _ _ _ _ _ _ _ _ _ _ _ _ _ _ _ _ _ _ _ _ _ _ _ _ _ _ _ _ _ _ _ _ _ _ _ _ _ _ _ _ _ _ _ _ _ _ _ _ _ _ _ _ _ _ _ _ _ _ _ _ _ _ _ _ _ _ _ _ _ _ _ _ _ _ _ _ _ _ _ _ _ _ _ _ _ _ _ _ _ _ _ _ _ _ _ _ _ _ _ _ _ _ _ _ _ ?_
                intro kn' T' out' vT' vO' v19 b20 b21 b22 b23 b24 b25 b112 b113 b114 b115 b116 b117 b118 b119 b120 b121 b122 b123 b124 b125 b126 b127 b128 b129 b130 b131 b132 b133 b134 b135 b136 b137 b138 b139 b140 b141 b142 b143 b144 b145 b146 b147 b148 b149 b150 b151 b152 b153 b154 b155 b156 b157 b158 b159 b160 b161 b162 b163 b164 b165 b166 b167 b168 b169 b170 b171 b172 b173 b174 b175 b176 b177 b178 b179 b180 b181 b182 b183 b184 b185 b186 b187 b188 b189 b190 b191 b192 b193 b194 b195 b196 b197 b198 b199 b200 b201 b202 b203 b204 b205 b206 b207 b208 b209 b210 b211 b212 b213 b214 b215 b216 b217 b218 b219 b220 b221 b222 b223 b224 b225 b226 b227 b228 b229 b230 b231 b232 w'' hv19 hR'
                subst hv19
                obtain ⟨r1, r2, r3, r4, r5, r6, r7, r8, r9, r10, r11⟩ := hR'
                dsimp only
                go_roundw
                case rel => exact ⟨m + 1, T', out', kn', vT', vO', rfl, rfl, by omega, rfl, r1, r2, r3, r4, r5, r6, r7, r8, r9, r10, r11⟩
                case measure => simp [intOf]; omega
              · obtain rfl : m = 4 := by omega
                have HCLN : Hid (Closed W H hs T2 (k + 1) 0) := HCL2.out.next
                have hkl : k < T2.length := (List.getElem?_eq_some_iff.1 HGET2.out).1
                go_wp2_with fail
                go_roundw
                case rel => exact ⟨k + 1, T2, out2, kn2, _, _, rfl, rfl, by omega, by go_num, HS2, HD2, HSI2, HCLN, HUK2, HEX2, HOL2⟩
                case measure => simp [intOf]; omega
          · obtain rfl : k = T.length := by omega
            have ht : decide ((T.length : Int) < (T.length : Int)) = false := by simp
            go_wp2_with fail
            go_ret
            exact ⟨_, T, out, rfl, HS.out.o.1, HSI.out, HCL.out, by have := HOL.out; omega, HS.out.o.2.1⟩
end Go.Proofs.Ytehnbalbpfmijaa

namespace Go.Proofs.Ytehnbalbpfmijaa
open Go.RowKit

section
variable {α : Type} {E : El α} {P : Program}
theorem flat_back (h : ∀ x, (E.f x).length = E.s) (hs : 0 < E.s) (xs : List α) (k : Nat) (u : Value) (hu : (xs.flatMap E.f)[k]? = some u) : ∃ x, xs[k / E.s]? = some x ∧ (E.f x)[k % E.s]? = some u := by
  have hk : k < xs.length * E.s := by rw [← flat_length h]; exact (List.getElem?_eq_some_iff.1 hu).1
  have h1 : k / E.s < xs.length := (Nat.div_lt_iff_lt_mul hs).2 hk
  refine ⟨xs[k / E.s], List.getElem?_eq_getElem h1, ?_⟩
  have h2 := flat_get h xs (k / E.s) (k % E.s) _ (List.getElem?_eq_getElem h1) (Nat.mod_lt _ hs)
  rw [Nat.mul_comm, Nat.div_add_mod] at h2
  rw [← h2]; exact hu
theorem run_append_srcF (hE : E.Ok P) (w : World) (lo : Nat) (ty : TypeId) {v u : Value} {xs ys : List α} {B : Nat} (hown : OwnF E w lo v xs) (hu : RdF E w B u ys) (hl : xs.length + ys.length ≤ 1073741824) (hbase : lo ≤ w.heap.size) :
    ∃ v' w', (Builtin.append_ #[E.t, E.t] ty #[v, u]).run P w = .ok v' w' ∧ OwnF E w' lo v' (xs ++ ys) ∧ w.grownBy w' v.ownBlock ∧ (v'.ownBlock = v.ownBlock ∨ v'.ownBlock = some w.heap.size) := by
  obtain ⟨i, hi, hzz⟩ := Option.map_eq_some_iff.1 hE.info
  simp only [Prod.mk.injEq] at hzz
  obtain ⟨hz, hsz, hby⟩ := hzz
  obtain ⟨A, c, rfl, _, _, hr⟩ := hu
  have hgo : ∀ ad, (∀ j u, (ys.flatMap E.f)[j]? = some u → w.cell? (ad.add j) = some u) → ∃ v' w', (Builtin.append_ #[E.t, E.t] ty #[v, .slice (some ad) ys.length c]).run P w = .ok v' w' ∧ OwnF E w' lo v' (xs ++ ys) ∧ w.grownBy w' v.ownBlock ∧ (v'.ownBlock = v.ownBlock ∨ v'.ownBlock = some w.heap.size) := fun ad hcells => by
    have h5 := hE.few
    have h6 : (xs.length + ys.length) * E.b ≤ 1073741824 * 1024 := Nat.mul_le_mul hl h5
    obtain ⟨v', w', hrun, h2, h3, _, h5⟩ := run_append_own_at (P := P) w lo E.t ty E.e i E.z E.s E.b hE.und hi hz hsz hby hE.zs hE.pos v xs.length (xs.flatMap E.f) hown ad ys.length c (ys.flatMap E.f) (flat_length hE.len ys) hcells (fun u hu => by
      obtain ⟨y, _, hy⟩ := List.mem_flatMap.1 hu
      exact hE.one y u hy) (by unfold maxLen; omega) (by omega) hbase
    refine ⟨v', w', hrun, ?_, h3, h5⟩
    unfold OwnF; rw [List.length_append, List.flatMap_append]; exact h2
  cases ys with
  | nil =>
    cases A with
    | none => exact ⟨v, w, run_append_nilsrc w lo E.t ty E.e i E.s hE.und hi v xs.length _ hown c, by simpa using hown, World.grownBy.refl w _, .inl rfl⟩
    | some ad => exact hgo ad (fun j u hu => by simp at hu)
  | cons y ys =>
    obtain ⟨ad, rfl, _, _⟩ := hr 0 y rfl
    refine hgo ad fun j u hu => ?_
    obtain ⟨x, h1, h2⟩ := flat_back hE.len hE.pos (y :: ys) j u hu
    obtain ⟨ad', e, _, h3⟩ := hr _ x h1
    obtain rfl := Option.some.inj e
    have := h3 _ u h2
    rwa [Nat.mul_comm, Nat.div_add_mod] at this
def GrewS (wr w' : World) (v v' : Value) : Prop := wr.grownBy w' v.ownBlock ∧ (v'.ownBlock = v.ownBlock ∨ v'.ownBlock = some wr.heap.size)
theorem acc_src {w wr w' : World} {lo : Nat} {v v' : Value} {xs zs : List α} (H : Acc E w lo wr v xs) (h2 : OwnF E w' lo v' zs) (h3 : wr.grownBy w' v.ownBlock) : Acc E w lo w' v' zs := by
  obtain ⟨h1, h4, h5, h6⟩ := H
  exact ⟨h2, h4.grown h3 h4.size fun k hk => by have := (h1.lt k hk).1; omega, h5, by have := h3.size; omega⟩
theorem wpList_pushSrcF (hE : E.Ok P) {ops : Array Oper} {rest : List Oper} {o : Oper} {a : Act} {Q : Exit → Act → World → Prop} (hgd : o.guard = none) (s x : Operand)
    (ho : o.op = .call { callee := .builtin .append, args := #[s, x], argTypes := #[E.t, E.t] }) {w wr : World} {lo : Nat} {v : Value} {xs : List α} (H : Acc E w lo wr v xs) (hs : a.eval s = v)
    (ys : List α) (B : Nat) (u : Value) (hr : RdF E wr B u ys) (hx : a.eval x = u) (hl : xs.length + ys.length ≤ 1073741824)
    (h : ∀ v' w', Hid (Acc E w lo w' v' (xs ++ ys)) → Hid (GrewS wr w' v v') → wpList P ops Q rest (a.put o.dst v') w') :
    wpList P ops Q (o :: rest) a wr := by
  refine wpList_plain hgd fun K hK => ?_
  obtain ⟨v', w', hrun, h2, h3, h4⟩ := run_append_srcF hE wr lo o.type H.1 hr hl H.2.2.2
  unfold Oper.wp execOp
  simp only [ho, resolve, invoke, builtin, Sem.run_bind, Sem.run_pure, Result.andThen_ok, List.map_toArray, List.map_cons, List.map_nil, hs, hx, hrun]
  exact hK _ _ (h v' w' (acc_src H h2 h3) ⟨h3, h4⟩)
theorem step_pushSrcF (hE : E.Ok P) {ops : Array Oper} {o : Oper} {a : Act} {K : Act → World → Prop} {Q : Exit → Act → World → Prop} {X : Prop} (hgd : o.guard = none) (s x : Operand)
    (ho : o.op = .call { callee := .builtin .append, args := #[s, x], argTypes := #[E.t, E.t] }) {w wr : World} {lo : Nat} {v : Value} {xs : List α} (H : Acc E w lo wr v xs) (hs : a.eval s = v)
    (ys : List α) (B : Nat) (u : Value) (hr : RdF E wr B u ys) (hx : a.eval x = u) (hl : xs.length + ys.length ≤ 1073741824)
    (h : ∀ v' w', Hid (Acc E w lo w' v' (xs ++ ys)) → Hid (GrewS wr w' v v') → K (a.put o.dst v') w') :
    if Region.wanted o (yielded ops a.tmps) = true then Oper.wp P o a wr K Q else X := by
  have hw : Region.wanted o (yielded ops a.tmps) = true := by unfold Region.wanted; rw [hgd]
  rw [if_pos hw]
  obtain ⟨v', w', hrun, h2, h3, h4⟩ := run_append_srcF hE wr lo o.type H.1 hr hl H.2.2.2
  unfold Oper.wp execOp
  simp only [ho, resolve, invoke, builtin, Sem.run_bind, Sem.run_pure, Result.andThen_ok, List.map_toArray, List.map_cons, List.map_nil, hs, hx, hrun]
  exact h v' w' (acc_src H h2 h3) ⟨h3, h4⟩
end
end Go.Proofs.Ytehnbalbpfmijaa

namespace Go.Proofs.Ytehnbalbpfmijaa
open Go.RowKit
set_option linter.unusedVariables false

theorem addOff (g a n : Nat) : (⟨g, a, none⟩ : Addr).add n = ⟨g, a + n, none⟩ := by unfold Addr.add; split <;> simp_all
section
variable {α : Type} {E : El α}
theorem RdF.take {w : World} {B c : Nat} {A : Option Addr} {xs : List α} (h : RdF E w B (.slice A xs.length c) xs) {j : Nat} (hj : j ≤ xs.length) : RdF E w B (.slice A j c) (xs.take j) := by
  obtain ⟨A', c', hv, h1, h2, h3⟩ := h
  obtain ⟨rfl, rfl⟩ : A = A' ∧ c = c' := by simp at hv; exact hv
  have hl : (xs.take j).length = j := by simp; omega
  refine ⟨A, c, by rw [hl], by omega, h2, fun i x hx => h3 i x ?_⟩
  rw [List.getElem?_take] at hx
  split at hx
  · exact hx
  · simp at hx
theorem RdF.drop {w : World} {B c g : Nat} {xs : List α} (h : RdF E w B (.slice (some ⟨g, 0, none⟩) xs.length c) xs) {j : Nat} (hj : j ≤ xs.length) : RdF E w B (.slice (if c = j then some ⟨g, 0, none⟩ else some ⟨g, j * E.s, none⟩) (xs.length - j) (c - j)) (xs.drop j) := by
  obtain ⟨A', c', hv, h1, h2, h3⟩ := h
  obtain ⟨rfl, rfl⟩ : some (⟨g, 0, none⟩ : Addr) = A' ∧ c = c' := by simp at hv; exact ⟨hv.1, hv.2⟩
  have hl : (xs.drop j).length = xs.length - j := by simp
  refine ⟨_, c - j, by rw [hl], by omega, by omega, fun i x hx => ?_⟩
  have hi := (List.getElem?_eq_some_iff.1 hx).1
  rw [hl] at hi
  rw [List.getElem?_drop] at hx
  obtain ⟨ad, e, hb, hc⟩ := h3 (j + i) x hx
  obtain rfl := Option.some.inj e
  refine ⟨⟨g, j * E.s, none⟩, by rw [if_neg (by omega)], hb, fun q u hu => ?_⟩
  have := hc q u hu
  rw [addOff] at this
  rw [addOff]
  rw [show 0 + ((j + i) * E.s + q) = j * E.s + (i * E.s + q) by rw [Nat.add_mul]; omega] at this
  exact this
theorem RdF.void {w : World} {B c n : Nat} {A : Option Addr} (hn : n = 0) (hc : c ≤ maxLen) : RdF E w B (.slice A n c) ([] : List α) := ⟨A, c, by rw [hn]; rfl, Nat.zero_le _, hc, fun j x hx => by simp at hx⟩
end
/-- Two elements of rows, in a world that grows. -/
abbrev TwoE (V w' : World) (p : Addr) (x y : Int) (d : Bool) (q : Addr) (x' y' : Int) (d' : Bool) : Prop := w'.cell? p = some (.int .i64 x) ∧ w'.cell? ⟨p.block, p.off + 1, none⟩ = some (.int .i64 y) ∧ w'.cell? ⟨p.block, p.off + 2, none⟩ = some (.bool d) ∧
  w'.cell? q = some (.int .i64 x') ∧ w'.cell? ⟨q.block, q.off + 1, none⟩ = some (.int .i64 y') ∧ w'.cell? ⟨q.block, q.off + 2, none⟩ = some (.bool d') ∧ V.heap.size ≤ w'.heap.size ∧ Below V.heap.size V w'
theorem TwoE.keep {V W0 w1 : World} {p : Addr} {x y : Int} {d : Bool} {q : Addr} {x' y' : Int} {d' : Bool} (hb : Below W0.heap.size W0 w1) (ha : p.block < V.heap.size) (hp : q.block < V.heap.size) (h : TwoE V W0 p x y d q x' y' d') : TwoE V w1 p x y d q x' y' d' := by
  obtain ⟨h1, h2, h3, h4, h5, h6, h7, h8⟩ := h
  exact ⟨(hb.cell (by omega)).trans h1, (hb.cell (by simp; omega)).trans h2, (hb.cell (by simp; omega)).trans h3, (hb.cell (by omega)).trans h4, (hb.cell (by simp; omega)).trans h5, (hb.cell (by simp; omega)).trans h6, Nat.le_trans h7 hb.size, h8.trans (hb.mono h7)⟩
theorem TwoE.drew {V W0 : World} {p : Addr} {x y : Int} {d : Bool} {q : Addr} {x' y' : Int} {d' : Bool} (h : TwoE V W0 p x y d q x' y' d') : TwoE V W0.drew p x y d q x' y' d' := ⟨h.1, h.2.1, h.2.2.1, h.2.2.2.1, h.2.2.2.2.1, h.2.2.2.2.2.1, h.2.2.2.2.2.2.1, h.2.2.2.2.2.2.2.drew⟩

set_option maxRecDepth 100000 in
set_option maxHeartbeats 4000000 in
theorem specSortDominoes_any (v : Value) (ls : List Lk) (B : Nat) (w : World) (h : RdF elDomino w B v ls) (hB : B ≤ w.heap.size) :
    Calls Try.prog 28 #[v] w fun e w' => ∃ u, e = .returned u ∧ OwnF elDomino w' w.heap.size u (sortI ls ls.length) ∧ Below w.heap.size w w' := by
  rw [(sort_same ls ls.length).1]
  obtain ⟨A, c, rfl, g1, g2, G3⟩ := RdT.of (E := elDomino) rfl (fun _ => rfl) h
  unfold maxLen at g2
  clear h
  have HA0 : Hid (Acc elDomino w w.heap.size (w.alloc (.cells #[] 46)) (.slice (some ⟨w.heap.size, 0, none⟩) 0 0) []) := Acc.start w
  have HSS := Lib.hid (sort_same ls)
  have HSI : Hid (∀ k, sortS ls (k + 1) = if domL (dAt ls k) then insS (dAt ls k) (sortS ls k) else sortS ls k) := fun k => rfl
  have HS0 : Hid (sortS ls 0 = []) := rfl
  obtain ⟨st, HST⟩ : ∃ st, Hid (st = sortS ls) := ⟨_, rfl⟩
  rw [← HST.out] at HSI HS0 ⊢
  have HSR : Hid (∀ k, (st k).length ≤ 128) := fun k => by rw [HST.out, ← (HSS.out k).1]; exact (HSS.out k).2.short
  clear HST HSS
  go_enter Try.func28, Try.ntmps28
  go_wp2_with fail
  go_loopw [3, 4] (fun o i wr => ∃ (k g c2 : Nat), k ≤ ls.length ∧ i = .int .i64 k ∧ o = .slice (some ⟨g, 0, none⟩) (st k).length c2 ∧ Hid (Acc elDomino w w.heap.size wr (.slice (some ⟨g, 0, none⟩) (st k).length c2) (st k))) (fun _ i _ => ls.length - (intOf i).toNat)
  case atStart => exact ⟨0, _, _, Nat.zero_le _, rfl, by rw [HS0.out]; rfl, by rw [HS0.out]; exact HA0⟩
  case round =>
    obtain ⟨k, g, ca, hk, rfl, rfl, HA⟩ := hrel
    by_cases hlt : k < ls.length
    · have ht : decide ((k : Int) < (ls.length : Int)) = true := by simp only [decide_eq_true_eq]; omega
      obtain ⟨ad, rfl, hbl, hx, hy, hz⟩ := G3.out k hlt
      have hbl2 : (ad.add (k * 3)).block < w.heap.size := by rw [addBlock]; omega
      have hbw := HA.out.2.1
      have hx' := (hbw.cell (p := ad.add (k * 3)) hbl2).trans hx
      have hy' := (hbw.cell (p := ⟨(ad.add (k * 3)).block, (ad.add (k * 3)).off + 1, none⟩) hbl2).trans hy
      have hz' := (hbw.cell (p := ⟨(ad.add (k * 3)).block, (ad.add (k * 3)).off + 2, none⟩) hbl2).trans hz
      have HNX := Lib.hid (HSI.out k)
      have hshort := HSR.out k
      have HDA : Hid (dAt ls k = (lx ls k, ly ls k, ld ls k)) := rfl
      rw [HDA.out] at HNX
      have hk0 : (0 : Int) ≤ (k : Int) := by omega
      have hk1 : (k : Int) < (ls.length : Int) := by omega
      generalize lx ls k = x at *
      generalize ly ls k = y at *
      generalize ld ls k = d at *
      obtain ⟨ys, HYQ⟩ : ∃ ys, Hid (st k = ys) := ⟨_, rfl⟩
      rw [HYQ.out] at HA HNX hshort ⊢
      have hcap : ys.length ≤ ca ∧ ca ≤ maxLen := by
        obtain ⟨A9, c9, hv9, q1, q2, _⟩ := HA.out.1.rd okDomino
        simp at hv9
        omega
      obtain ⟨q1, q2⟩ := hcap
      unfold maxLen at q2
      have HXW : Hid (Three wr (ad.add (k * 3)) x y d) := ⟨hx', hy', hz'⟩
      have HADB := Lib.hid hbl2
      clear hx hy hz hbw HDA HYQ hbl2
      go_wp2_with fail
      refine (specDominoOk_any x y d _).mono ?_
      rintro e w1 ⟨rfl, hb1⟩
      have HA3 := Lib.hid (HA.out.below hb1)
      have hsz := HA.out.2.1.size
      have had : (ad.add (k * 3)).block < wr.heap.size := Nat.lt_of_lt_of_le HADB.out hsz
      have HX1 : Hid (Three w1 (ad.add (k * 3)) x y d) := ⟨(hb1.cell (p := ad.add (k * 3)) had).trans hx', (hb1.cell (p := ⟨(ad.add (k * 3)).block, (ad.add (k * 3)).off + 1, none⟩) had).trans hy', (hb1.cell (p := ⟨(ad.add (k * 3)).block, (ad.add (k * 3)).off + 2, none⟩) had).trans hz'⟩
      have HAD1 : Hid ((ad.add (k * 3)).block < w1.heap.size) := Nat.lt_of_lt_of_le had hb1.size
      clear hb1 hsz had hx' hy' hz' HXW
      obtain ⟨f1, f2, f3⟩ := HX1.out
      cases hd : domB x y d
      · have HE : Hid (st (k + 1) = ys) := by unfold Hid; rw [HNX.out, if_neg (by simp [domL, hd])]
        clear HNX hd
        go_wp2_with fail
        go_roundw
        case rel => exact ⟨k + 1, g, ca, by omega, by go_num, by rw [HE.out], by rw [HE.out]; exact HA3⟩
        case measure => simp [intOf]; omega
      · have HE : Hid (st (k + 1) = if decide (upK ys (x, y, d) ys.length 0 < ys.length) && (dAt ys (upK ys (x, y, d) ys.length 0) == (x, y, d)) then ys else ys.take (upK ys (x, y, d) ys.length 0) ++ [(x, y, d)] ++ ys.drop (upK ys (x, y, d) ys.length 0)) := by unfold Hid; rw [HNX.out, if_pos (by simp [domL, hd])]; rfl
        obtain ⟨q, HQ⟩ : ∃ q, Hid (upK ys (x, y, d) ys.length 0 = q) := ⟨_, rfl⟩
        rw [HQ.out] at HE
        clear HNX hd
        go_wp2_with fail
        go_loopw [5] (fun s wr2 => ∃ j : Nat, j ≤ ys.length ∧ s = .int .i64 j ∧ Hid (upK ys (x, y, d) (ys.length - j) j = q) ∧ Hid (Below w1.heap.size w1 wr2)) (fun s _ => ys.length - (intOf s).toNat)
        case atStart => exact ⟨0, Nat.zero_le _, rfl, HQ, Below.refl _ _⟩
        case round =>
          obtain ⟨j, hj, rfl, HJ, HB⟩ := hrel
          have HA4 := Lib.hid (HA3.out.below HB.out)
          have HX2 : Hid (Three wr (ad.add (k * 3)) x y d) := ⟨(HB.out.cell (p := ad.add (k * 3)) HAD1.out).trans HX1.out.1, (HB.out.cell (p := ⟨(ad.add (k * 3)).block, (ad.add (k * 3)).off + 1, none⟩) HAD1.out).trans HX1.out.2.1, (HB.out.cell (p := ⟨(ad.add (k * 3)).block, (ad.add (k * 3)).off + 2, none⟩) HAD1.out).trans HX1.out.2.2⟩
          have HAD2 : Hid ((ad.add (k * 3)).block < wr.heap.size) := Nat.lt_of_lt_of_le HAD1.out HB.out.size
          clear f1 f2 f3
          obtain ⟨e1, e2, e3⟩ := HX2.out
          have hj0 : (0 : Int) ≤ (j : Int) := by omega
          by_cases hjl : j < ys.length
          · have htj : decide (j < ys.length) = true := by simp only [decide_eq_true_eq]; omega
            have hj1 : (j : Int) < (ys.length : Int) := by omega
            obtain ⟨c0, c1, c2, _⟩ := triStore okDomino rfl (fun _ => rfl) HA4.out.1 hjl
            have HDM : Hid (dAt ys j = (lx ys j, ly ys j, ld ys j)) := rfl
            have HJ2 : Hid ((if domLt (lx ys j, ly ys j, ld ys j) (x, y, d) then upK ys (x, y, d) (ys.length - (j + 1)) (j + 1) else j) = q) := by
              unfold Hid; rw [← HJ.out, show ys.length - j = (ys.length - (j + 1)) + 1 by omega, upK, htj, HDM.out]; rfl
            have hgl : g < wr.heap.size := (HA4.out.1.lt g rfl).2
            have HGL := Lib.hid hgl
            generalize lx ys j = x2 at *
            generalize ly ys j = y2 at *
            generalize ld ys j = d2 at *
            have HS0 : Hid (TwoE wr wr (ad.add (k * 3)) x y d ⟨g, j * 3, none⟩ x2 y2 d2) := ⟨e1, e2, e3, c0, c1, c2, Nat.le_refl _, Below.refl _ _⟩
            clear hgl
            go_wp2_with fail
            go_region_held3 (fun w' => TwoE wr w' (ad.add (k * 3)) x y d ⟨g, j * 3, none⟩ x2 y2 d2)
              (first
                | exact HS0.out.drew
                | exact TwoE.keep hb1 HAD2.out HGL.out (by assumption))
              (first
                | (go_at_call 83; refine (specBefore_any x2 y2 d2 x y d _).mono ?_; rintro e w3 ⟨rfl, hb1⟩))
            have HP3 := Lib.hid (show TwoE wr _ (ad.add (k * 3)) x y d ⟨g, j * 3, none⟩ x2 y2 d2 from by assumption)
            clear e1 e2 e3 c0 c1 c2
            obtain ⟨e1, e2, e3, c0, c1, c2, _, hb3⟩ := HP3.out
            have HB3 := Lib.hid hb3
            clear hb3
            cases hlt2 : domLt (x2, y2, d2) (x, y, d)
            · have HQJ : Hid (q = j) := by unfold Hid; rw [← HJ2.out, if_neg (by simp [hlt2])]
              clear HJ2 hlt2
              by_cases heq : (x2, y2, d2) = (x, y, d)
              · have HE1 : Hid (st (k + 1) = ys) := by
                  unfold Hid; rw [HE.out, HQJ.out, if_pos]
                  rw [HDM.out, heq, htj]; simp
                simp only [Prod.mk.injEq] at heq
                obtain ⟨rfl, rfl, rfl⟩ := heq
                go_wp2_with fail
                go_quiet (fail)
                have HA9 := Lib.hid (HA4.out.below (HB3.out.trans (Drawn.below ⟨nq, rfl⟩ _)))
                go_wp2_with fail
                go_roundw
                case rel => exact ⟨k + 1, g, ca, by omega, by go_num, by rw [HE1.out], by rw [HE1.out]; exact HA9⟩
                case measure => simp [intOf]; omega
              · have HE0 : Hid (st (k + 1) = ys.take j ++ [(x, y, d)] ++ ys.drop j) := by
                  unfold Hid; rw [HE.out, HQJ.out, if_neg]
                  rw [HDM.out]
                  simpa [hjl] using heq
                have hsq : ∀ W : World, Sem.run Try.prog (binOp .eql 46 (.agg #[.int .i64 x2, .int .i64 y2, .bool d2]) (.agg #[.int .i64 x, .int .i64 y, .bool d])) W = .ok (.bool false) W := fun W => by
                  by_cases h1 : x2 = x
                  · by_cases h2 : y2 = y
                    · have h3 : ¬ d2 = d := fun h => heq (by rw [h1, h2, h])
                      go_simp
                    · go_simp
                  · go_simp
                clear heq HE
                go_wp2_with fail
                go_quiet (fail)
                clear hsq
                obtain ⟨W6, HW6⟩ : ∃ W6, Hid (W6 = World.drewN w3 nq) := ⟨_, rfl⟩
                rw [← HW6.out]
                have HBW : Hid (Below wr.heap.size wr W6) := by unfold Hid; rw [HW6.out]; exact HB3.out.trans (Drawn.below ⟨_, rfl⟩ _)
                clear c0 c1 c2
                have hcj : ¬ ca = j := by omega
                have HA6 := Lib.hid (HA4.out.below HBW.out)
                have hs6 := HBW.out.size
                have HX6 : Hid (Three W6 (ad.add (k * 3)) x y d) := ⟨(HBW.out.cell (p := ad.add (k * 3)) HAD2.out).trans HX2.out.1, (HBW.out.cell (p := ⟨(ad.add (k * 3)).block, (ad.add (k * 3)).off + 1, none⟩) HAD2.out).trans HX2.out.2.1, (HBW.out.cell (p := ⟨(ad.add (k * 3)).block, (ad.add (k * 3)).off + 2, none⟩) HAD2.out).trans HX2.out.2.2⟩
                have HAD6 : Hid ((ad.add (k * 3)).block < W6.heap.size) := Nat.lt_of_lt_of_le HAD2.out hs6
                have HR6 := Lib.hid (HA6.out.1.rd okDomino)
                have HN0 : Hid (Acc elDomino W6 W6.heap.size (W6.alloc (.cells #[] 46)) (.slice (some ⟨W6.heap.size, 0, none⟩) 0 0) []) := Acc.start W6
                have HR7 : Hid (RdF elDomino (W6.alloc (.cells #[] 46)) W6.heap.size (.slice (some ⟨g, 0, none⟩) j ca) (ys.take j)) := (HR6.out.below ((Below.refl _ _).alloc (Nat.le_refl _) _)).take hj
                have hjle : (j : Int) ≤ (ys.length : Int) := by omega
                have hjc : (j : Int) ≤ (ca : Int) := by omega
                clear e1 e2 e3 hs6
                go_wp2_with (first
                  | (at_builtin; refine wpList_pushSrcF okDomino rfl _ _ rfl HN0.out rfl (ys.take j) _ _ HR7.out rfl (by simp; omega) ?_; intro v8 w8 HN1 HG8; rw [List.nil_append] at HN1; obtain ⟨A8, c8, hv8, _⟩ := HN1.out.1.rd okDomino; rw [show (ys.take j).length = j by simp; omega] at hv8; subst hv8; have hb8 := HN1.out.2.1; have i1 := (hb8.cell (p := ad.add (k * 3)) HAD6.out).trans HX6.out.1; have i2 := (hb8.cell (p := ⟨(ad.add (k * 3)).block, (ad.add (k * 3)).off + 1, none⟩) HAD6.out).trans HX6.out.2.1; have i3 := (hb8.cell (p := ⟨(ad.add (k * 3)).block, (ad.add (k * 3)).off + 2, none⟩) HAD6.out).trans HX6.out.2.2; clear hb8)
                  | (at_builtin; refine wpList_push okDomino rfl _ _ rfl HN1.out rfl (x, y, d) _ rfl _ rfl rfl (by simp; omega) ?_; intro v9 w9 HN2 HG9; clear i1 i2 i3; obtain ⟨A9, c9, hv9, _⟩ := HN2.out.1.rd okDomino; rw [show (ys.take j ++ [((x, y, d) : Lk)]).length = j + 1 by simp; omega] at hv9; subst hv9; have h9 := (HR6.out.below HN2.out.2.1).drop hj; rw [if_neg hcj] at h9; have HR9 := Lib.hid h9; clear h9)
                  | (at_builtin; refine wpList_pushSrcF okDomino rfl _ _ rfl HN2.out rfl (ys.drop j) _ _ HR9.out rfl (by simp; omega) ?_; intro v10 w10 HN3 HG10; rw [← HE0.out] at HN3; have hp3 : 0 < (st (k + 1)).length := (by rw [HE0.out]; simp only [List.length_append, List.length_singleton]; omega); obtain ⟨g10, c10, hv10, _, _⟩ := World.ownsRow.form HN3.out.1 hp3; subst hv10))
                all_goals
                  have hmono := HA6.out.2.1.size
                  go_roundw
                  case rel => exact ⟨k + 1, g10, c10, by omega, by go_num, rfl, ⟨HN3.out.1.mono hmono, HA6.out.2.1.trans (HN3.out.2.1.mono hmono), Nat.le_refl _, Nat.le_trans hmono HN3.out.2.1.size⟩⟩
                  case measure => simp [intOf]; omega
            · have HJ3 : Hid (upK ys (x, y, d) (ys.length - (j + 1)) (j + 1) = q) := by unfold Hid; rw [← HJ2.out, if_pos hlt2]
              have HB4 := Lib.hid (HB.out.trans (HB3.out.mono HB.out.size))
              clear HJ2
              go_wp2_with fail
              go_roundw
              case rel => exact ⟨j + 1, by omega, by go_num, HJ3, HB4⟩
              case measure => simp [intOf]; omega
          · have htj : decide (j < ys.length) = false := by simp only [decide_eq_false_iff_not]; omega
            have HQJ : Hid (q = j) := by unfold Hid; rw [← HJ.out, show ys.length - j = 0 by omega]; rfl
            have HE0 : Hid (st (k + 1) = ys.take j ++ [(x, y, d)] ++ ys.drop j) := by
              unfold Hid; rw [HE.out, HQJ.out, htj]; simp
            go_wp2_with fail
            go_quiet (fail)
            obtain ⟨W5, HW5⟩ : ∃ W5, Hid (W5 = wr.drewN nq) := ⟨_, rfl⟩
            rw [← HW5.out]
            go_wp2_with fail
            go_quiet (fail)
            obtain ⟨W6, HW6⟩ : ∃ W6, Hid (W6 = W5.drewN nq) := ⟨_, rfl⟩
            rw [← HW6.out]
            have HBW : Hid (Below wr.heap.size wr W6) := by unfold Hid; rw [HW6.out, HW5.out]; exact (Drawn.below ⟨_, rfl⟩ _).trans ((Drawn.below ⟨_, rfl⟩ _))
            have HE9 : Hid (st (k + 1) = ys.take j ++ [(x, y, d)]) := by unfold Hid; rw [HE0.out, List.drop_of_length_le (by omega)]; simp
            have HA6 := Lib.hid (HA4.out.below HBW.out)
            have hs6 := HBW.out.size
            have HX6 : Hid (Three W6 (ad.add (k * 3)) x y d) := ⟨(HBW.out.cell (p := ad.add (k * 3)) HAD2.out).trans HX2.out.1, (HBW.out.cell (p := ⟨(ad.add (k * 3)).block, (ad.add (k * 3)).off + 1, none⟩) HAD2.out).trans HX2.out.2.1, (HBW.out.cell (p := ⟨(ad.add (k * 3)).block, (ad.add (k * 3)).off + 2, none⟩) HAD2.out).trans HX2.out.2.2⟩
            have HAD6 : Hid ((ad.add (k * 3)).block < W6.heap.size) := Nat.lt_of_lt_of_le HAD2.out hs6
            have HR6 := Lib.hid (HA6.out.1.rd okDomino)
            have HN0 : Hid (Acc elDomino W6 W6.heap.size (W6.alloc (.cells #[] 46)) (.slice (some ⟨W6.heap.size, 0, none⟩) 0 0) []) := Acc.start W6
            have HR7 : Hid (RdF elDomino (W6.alloc (.cells #[] 46)) W6.heap.size (.slice (some ⟨g, 0, none⟩) j ca) (ys.take j)) := (HR6.out.below ((Below.refl _ _).alloc (Nat.le_refl _) _)).take hj
            have hjle : (j : Int) ≤ (ys.length : Int) := by omega
            have hjc : (j : Int) ≤ (ca : Int) := by omega
            clear e1 e2 e3 hs6
            go_wp2_with (first
              | (at_builtin; refine wpList_pushSrcF okDomino rfl _ _ rfl HN0.out rfl (ys.take j) _ _ HR7.out rfl (by simp; omega) ?_; intro v8 w8 HN1 HG8; rw [List.nil_append] at HN1; obtain ⟨A8, c8, hv8, _⟩ := HN1.out.1.rd okDomino; rw [show (ys.take j).length = j by simp; omega] at hv8; subst hv8; have hb8 := HN1.out.2.1; have i1 := (hb8.cell (p := ad.add (k * 3)) HAD6.out).trans HX6.out.1; have i2 := (hb8.cell (p := ⟨(ad.add (k * 3)).block, (ad.add (k * 3)).off + 1, none⟩) HAD6.out).trans HX6.out.2.1; have i3 := (hb8.cell (p := ⟨(ad.add (k * 3)).block, (ad.add (k * 3)).off + 2, none⟩) HAD6.out).trans HX6.out.2.2; clear hb8)
              | (at_builtin; refine wpList_push okDomino rfl _ _ rfl HN1.out rfl (x, y, d) _ rfl _ rfl rfl (by simp; omega) ?_; intro v9 w9 HN2 HG9; clear i1 i2 i3; obtain ⟨A9, c9, hv9, _⟩ := HN2.out.1.rd okDomino; rw [show (ys.take j ++ [((x, y, d) : Lk)]).length = j + 1 by simp; omega] at hv9; subst hv9)
              | (at_builtin; refine wpList_pushSrcF okDomino rfl _ _ rfl HN2.out rfl [] 0 _ ?hr9 rfl (by simp; omega) ?_; (case hr9 => exact RdF.void (by omega) (by unfold maxLen; omega)); intro v10 w10 HN3 HG10; rw [List.append_nil, ← HE9.out] at HN3; have hp3 : 0 < (st (k + 1)).length := (by rw [HE9.out]; simp only [List.length_append, List.length_singleton]; omega); obtain ⟨g10, c10, hv10, _, _⟩ := World.ownsRow.form HN3.out.1 hp3; subst hv10))
            all_goals
              have hmono := HA6.out.2.1.size
              go_roundw
              case rel => exact ⟨k + 1, g10, c10, by omega, by go_num, rfl, ⟨HN3.out.1.mono hmono, HA6.out.2.1.trans (HN3.out.2.1.mono hmono), Nat.le_refl _, Nat.le_trans hmono HN3.out.2.1.size⟩⟩
              case measure => simp [intOf]; omega
    · obtain rfl : k = ls.length := by omega
      have ht : decide ((ls.length : Int) < (ls.length : Int)) = false := by simp
      go_wp2_with fail
      go_ret
      exact ⟨_, rfl, HA.out.1, HA.out.2.1⟩
end Go.Proofs.Ytehnbalbpfmijaa
