/- The contract of eqIntSS, where both sides read as one list; the marks of the laws over [][]int. -/
import Derived.Test.YtfamjhemecpgnaaIntSS
namespace Go.Proofs.Ytfamjhemecpgnaa
open Go.RowKit

theorem quietDrawn {P : Program} {f : FuncId} {args : Array Value} {w : World} {n : Nat} {v : Value}
    (h : Calls P f args (w.drewN n) fun e w' => e = .returned v ∧ Drawn (w.drewN n) w') : Calls P f args (w.drewN n) fun e w'' => e = .returned v ∧ ∃ m, w'' = w.drewN m :=
  h.mono fun _ _ ⟨he, m, hm⟩ => ⟨he, n + m, by rw [hm, World.drewN_drewN]⟩
theorem Rd.drewN {w : World} {B : Nat} {A : Option Addr} {xs : List Value} (h : Rd w B A xs) (n : Nat) : Rd (w.drewN n) B A xs := h
theorem RdI.drewN {w : World} {B : Nat} {v : Value} {zs : List Int} (h : RdI w B v zs) (n : Nat) : RdI (w.drewN n) B v zs := h
theorem eqIntS_self (u v : Value) (xs : List Int) (B C : Nat) (w : World) (hu : RdI w B u xs) (hv : RdI w C v xs) :
    Calls Try.prog 65 #[u, v] w fun e w' => e = .returned (.bool true) ∧ Drawn w w' :=
  (eqIntS_any u v xs xs B C w hu hv).mono fun _ _ ⟨he, hd⟩ => ⟨by rw [he]; simp, hd⟩

set_option maxHeartbeats 1000000 in
theorem eqIntSS_self (u v : Value) (xss : List (List Int)) (B C : Nat) (w : World) (hu : RdII w B u xss) (hv : RdII w C v xss) :
    Calls Try.prog 115 #[u, v] w fun e w' => e = .returned (.bool true) ∧ Drawn w w' := by
  obtain ⟨A, c, rfl, g1, g2, g3⟩ := hu.open_
  obtain ⟨A', c', rfl, g1', g2', g3'⟩ := hv.open_
  unfold maxLen at g2 g2'
  clear hu hv
  have G3 := Lib.hid g3; clear g3
  have G3' := Lib.hid g3'; clear g3'
  go_enter Try.func115, Try.ntmps115
  go_wp2_with fail
  go_loopw [5] (fun i wr => ∃ k : Nat, k ≤ xss.length ∧ i = .int .i64 k ∧ Drawn w wr) (fun i _ => xss.length - (intOf i).toNat)
  case atStart => exact ⟨0, Nat.zero_le _, rfl, Drawn.refl _⟩
  case round =>
    obtain ⟨k, hk, rfl, hd⟩ := hrel
    by_cases hlt : k < xss.length
    · obtain ⟨ad, u1, rfl, hb, hc, hr⟩ := G3.out k hlt
      obtain ⟨ad', u2, rfl, hb', hc', hr'⟩ := G3'.out k hlt
      have hk0 : (0 : Int) ≤ (k : Int) := by omega
      have hk1 : (k : Int) < (xss.length : Int) := by omega
      have HR := Lib.hid (hr.below (hd.below _)); have HR' := Lib.hid (hr'.below (hd.below _))
      have hcw := ((hd.below _).cell (p := ad.add k) (Nat.lt_succ_self _)).trans hc
      have hcw' := ((hd.below _).cell (p := ad'.add k) (Nat.lt_succ_self _)).trans hc'
      clear hr hr' hc hc'
      go_wp2_with fail
      go_quiet ((go_at_call 65; exact quietDrawn (eqIntS_self _ _ (rw' xss k) _ _ _ (RdI.drewN HR.out _) (RdI.drewN HR'.out _))))
      go_wp2_with fail
      go_roundw
      case rel => exact ⟨k + 1, by omega, by go_num, hd.trans ⟨_, rfl⟩⟩
      case measure => simp [intOf]; omega
    · go_wp2_with fail
      go_ret
      exact ⟨rfl, hd⟩
end Go.Proofs.Ytfamjhemecpgnaa
