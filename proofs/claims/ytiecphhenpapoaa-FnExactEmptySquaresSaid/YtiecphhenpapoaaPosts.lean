/- The posts of a link: contracts of posts and of l23Ends. -/
import Derived.Test.YtiecphhenpapoaaLinks
namespace Go.Proofs.Ytiecphhenpapoaa
open Go.RowKit

def postA (wd : Int) (l : Lk) : Int := l.2.1 * wd + l.1
def postB (wd : Int) (l : Lk) : Int := if l.2.2 then postA wd l + wd else postA wd l + 1
theorem mul_bd {a b A B : Int} (h1 : 0 ≤ a) (h2 : a ≤ A) (h3 : 0 ≤ b) (h4 : b ≤ B) : 0 ≤ a * b ∧ a * b ≤ A * B :=
  ⟨Int.mul_nonneg h1 h3, Int.mul_le_mul h2 h4 h3 (by omega)⟩
theorem posts_any (wd x y : Int) (d : Bool) (w : World) (h1 : 0 ≤ x) (h2 : x ≤ 64) (h3 : 0 ≤ y) (h4 : y ≤ 64) (h5 : 0 ≤ wd) (h6 : wd ≤ 64) :
    Calls Try.prog 99 #[triV x y d, .int .i64 wd] w fun e w' => e = .returned (.tuple #[.int .i64 (postA wd (x, y, d)), .int .i64 (postB wd (x, y, d))]) ∧ Below w.heap.size w w' := by
  obtain ⟨m1, m2⟩ := mul_bd h3 h4 h5 h6
  have m3 : y * wd + x ≤ 5000 := by omega
  have m4 : 0 ≤ y * wd + x := by omega
  cases d
  all_goals
    go_enter Try.func99, Try.ntmps99
    go_wp2
    go_ret2
    exact ⟨rfl, (Below.refl _ _).alloc (by (try simp) <;> omega) _⟩
theorem l23Ends_any (wd x y : Int) (d : Bool) (w : World) (h1 : 0 ≤ x) (h2 : x ≤ 64) (h3 : 0 ≤ y) (h4 : y ≤ 64) (h5 : 0 ≤ wd) (h6 : wd ≤ 64) :
    Calls Try.prog 159 #[.int .i64 wd, triV x y d] w fun e w' => e = .returned (.tuple #[.int .i64 (postA wd (x, y, d)), .int .i64 (postB wd (x, y, d))]) ∧ Below w.heap.size w w' := by
  obtain ⟨m1, m2⟩ := mul_bd h3 h4 h5 h6
  have m3 : y * wd + x ≤ 5000 := by omega
  have m4 : 0 ≤ y * wd + x := by omega
  cases d
  all_goals
    go_enter Try.func159, Try.ntmps159
    go_wp2
    go_ret2
    exact ⟨rfl, (Below.refl _ _).alloc (by (try simp) <;> omega) _⟩
end Go.Proofs.Ytiecphhenpapoaa
