/- The contract of eqIntSS, where both sides read as one list; the marks of the laws over [][]int. -/
import Derived.Test.YtpejphholomenaaIntSS
namespace Go.Proofs.Ytpejphholomenaa
open Go.RowKit

theorem quietDrawn {P : Program} {f : FuncId} {args : Array Value} {w : World} {n : Nat} {v : Value}
    (h : Calls P f args (w.drewN n) fun e w' => e = .returned v ∧ Drawn (w.drewN n) w') : Calls P f args (w.drewN n) fun e w'' => e = .returned v ∧ ∃ m, w'' = w.drewN m :=
  h.mono fun _ _ ⟨he, m, hm⟩ => ⟨he, n + m, by rw [hm, World.drewN_drewN]⟩
theorem Rd.drewN {w : World} {B : Nat} {A : Option Addr} {xs : List Value} (h : Rd w B A xs) (n : Nat) : Rd (w.drewN n) B A xs := h
theorem RdI.drewN {w : World} {B : Nat} {v : Value} {zs : List Int} (h : RdI w B v zs) (n : Nat) : RdI (w.drewN n) B v zs := h
theorem eqIntS_self (u v : Value) (xs : List Int) (B C : Nat) (w : World) (hu : RdI w B u xs) (hv : RdI w C v xs) :
    Calls Try.prog 28 #[u, v] w fun e w' => e = .returned (.bool true) ∧ Drawn w w' :=
  (eqIntS_any u v xs xs B C w hu hv).mono fun _ _ ⟨he, hd⟩ => ⟨by rw [he]; simp, hd⟩

end Go.Proofs.Ytpejphholomenaa
