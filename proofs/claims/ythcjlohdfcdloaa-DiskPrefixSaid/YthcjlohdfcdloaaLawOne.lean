/- A single act as a slice of one. -/
import Derived.Test.YthcjlohdfcdloaaLawMore
set_option linter.unusedVariables false
set_option linter.unusedSimpArgs false
namespace Go.Proofs.Ythcjlohdfcdloaa
open Go.RowKit
theorem one_act (w : World) (a : Ac) (h : a.Wf) : ActsAt (w.alloc (.cells a.cells 34)) (some ⟨w.heap.size, 0, none⟩) 1 [a] :=
  ⟨rfl, by decide, fun q hq => by simp at hq; rw [hq]; exact h, fun _ => ⟨w.heap.size, 0, rfl, by simp, fun k hk j hj => by
    obtain rfl : k = 0 := by simp at hk; exact hk
    have := (Blk.new w 34 a.cells).cell (0 + 0 * 6 + j)
    rw [this]; simp⟩⟩
end Go.Proofs.Ythcjlohdfcdloaa
