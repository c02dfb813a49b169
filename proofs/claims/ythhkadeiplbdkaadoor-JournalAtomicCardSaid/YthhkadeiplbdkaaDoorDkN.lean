/- Sizes of a disk under its calls. -/
import Derived.Test.YthhkadeiplbdkaaDoorDiskAt
set_option linter.unusedVariables false
set_option linter.unusedSimpArgs false
namespace Go.Proofs.YthhkadeiplbdkaaDoor
open Go.RowKit

namespace Dk
theorem count_q (D : Dk) : D.count.1.q.length ≤ D.q.length := by
  unfold count
  split
  · exact Nat.le_refl _
  · split
    · exact Nat.le_refl _
    · unfold fail; split <;> simp
theorem write_q (D : Dk) (i : Int) (s : ByteArray) : (D.write i s).1.q.length ≤ D.q.length + 1 := by
  unfold write
  split
  · exact Nat.le_succ _
  · split
    · split
      · have := count_q { D with q := D.q ++ [(i.toNat, s)] }
        simpa using this
      · simp
    · simp
theorem sync_q (D : Dk) : D.sync.1.q.length ≤ D.q.length := by
  unfold sync
  split
  · exact Nat.le_refl _
  · split
    · simp
    · exact count_q D
theorem count_n (D : Dk) : D.count.1.st.length = D.st.length := by
  unfold count
  split
  · rfl
  · split
    · rfl
    · unfold fail; split
      · rfl
      · exact failSt_length _ _ _
theorem fail_n (D : Dk) (a b : Int) : (D.fail a b).st.length = D.st.length := by
  unfold fail; split
  · rfl
  · exact failSt_length _ _ _
theorem write_n (D : Dk) (i : Int) (s : ByteArray) : (D.write i s).1.st.length = D.st.length := by
  unfold write
  split
  · rfl
  · split
    · split
      · exact count_n _
      · rfl
    · rfl
theorem sync_n (D : Dk) : D.sync.1.st.length = D.st.length := by
  unfold sync
  split
  · rfl
  · split
    · show (settle _ _).length = _
      rw [settle_length, count_n]
    · exact count_n D
theorem start_sync (D : Dk) : D.start.sync = ({ st := settle D.st D.q, q := [], off := false, al := none }, 0) := by
  unfold sync start count
  simp
end Dk
end Go.Proofs.YthhkadeiplbdkaaDoor
