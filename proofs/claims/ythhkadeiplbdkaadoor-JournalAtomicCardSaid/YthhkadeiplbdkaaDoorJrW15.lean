/- Walks of the journal's functions, part 15: Open where there is no disk, or it is off. -/
import Derived.Test.YthhkadeiplbdkaaDoorJrW14
import Derived.OwnWalk
set_option linter.unusedVariables false
set_option linter.unusedSimpArgs false
namespace Go.Proofs.YthhkadeiplbdkaaDoor
open Go.RowKit

/-- Open fails, and nothing was written. -/
def OpenNo (w : World) (x : Int) (e : Ending) (w' : World) : Prop :=
  e = .returned (.tuple #[.pointer none, .slice none 0 0, .int .i64 x]) ∧ Below w.heap.size w w'
set_option maxRecDepth 100000 in
set_option maxHeartbeats 400000 in
theorem open_nil (w : World) : Calls Tryd.prog 15 #[.pointer none] w (OpenNo w 1) := by
  go_enter Tryd.func15, Tryd.ntmps15
  go_wp2
  go_ret3
  exact ⟨rfl, Below.refl _ _⟩
set_option maxRecDepth 100000 in
set_option maxHeartbeats 800000 in
theorem open_off (w : World) (S : Nat → Prop) (db : Nat) (D : Dk) (hD : DiskAt w S db D) (hq : D.q.length ≤ 1000000) (ho : D.off = true) : Calls Tryd.prog 15 #[.pointer (some ⟨db, 0, none⟩)] w (OpenNo w 28) := by
  have HC := Lib.hid (read_any w S db D 0 hD hq)
  have he : D.read 0 = (Dk.str [], 28) := by unfold Dk.read; rw [if_pos ho]
  have HE := Lib.hid he
  clear hD hq ho he
  go_enter Tryd.func15, Tryd.ntmps15
  go_wp2
  refine wp_loop_rounds 1 ?_
  rw [rounds_succ]
  go_wp2_with fail
  refine HC.out.mono ?_
  rintro e w1 ⟨rfl, hb⟩
  rw [HE.out]
  have HB := Lib.hid hb
  clear hb HC
  go_wp2
  go_ret3
  exact ⟨rfl, HB.out⟩
end Go.Proofs.YthhkadeiplbdkaaDoor
