/- The contract of the reference's RowPath. -/
import Derived.Test.YtpockbbfbnaioaaRowPath
namespace Go.Proofs.Ytpockbbfbnaioaa
open Go.RowKit

/-- One row of the call's own that grows. -/
def GrowRel (w wr : World) (v : Value) (zs : List Int) : Prop := OwnI wr w.heap.size v zs ∧ Below w.heap.size w wr
theorem GrowRel.step {w wr w1 : World} {v : Value} {zs : List Int} {z : Int} {g cap : Nat} (h : GrowRel w wr v zs)
    (hown : w1.ownsRow w.heap.size 3 1 (.slice (some ⟨g, 0, none⟩) (zs.length + 1) cap) (zs.length + 1) (zs.map (Value.int .i64) ++ [.int .i64 z]))
    (hg : (wr.alloc (.cells #[.int .i64 z] 3)).grownBy w1 v.ownBlock) : GrowRel w w1 (.slice (some ⟨g, 0, none⟩) (zs.length + 1) cap) (zs ++ [z]) :=
  ⟨OwnI.one rfl hown, (h.2.alloc h.2.size _).grown hg (by simp; have := h.2.size; omega) (fun k hk => (h.1.lt k hk).1)⟩
theorem GrowRel.start (w : World) : GrowRel w (w.alloc (.cells #[] 3)) (.slice (some ⟨w.heap.size, 0, none⟩) 0 0) [] :=
  ⟨by simpa [OwnI] using World.ownsRow_lit (base := w.heap.size) (e := 3) (size := 1) w #[] 0 (Nat.le_refl _) (by simp [maxLen]) (by simp), (Below.refl _ _).alloc (Nat.le_refl _) _⟩
theorem GrowRel.below {w wr w1 : World} {v : Value} {zs : List Int} (h : GrowRel w wr v zs) (hb : Below wr.heap.size wr w1) : GrowRel w w1 v zs :=
  ⟨h.1.below hb, h.2.trans (hb.mono h.2.size)⟩

end Go.Proofs.Ytpockbbfbnaioaa
