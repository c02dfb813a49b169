/- Walks of the journal's functions, part 8: Room, Records. -/
import Derived.Test.YthhkadeiplbdkaaDoorJrW7
set_option linter.unusedVariables false
set_option linter.unusedSimpArgs false
namespace Go.Proofs.YthhkadeiplbdkaaDoor
open Go.RowKit

def ClonePost (w : World) (xs : List (List UInt8)) (e : Ending) (w' : World) : Prop :=
  ∃ v, e = .returned v ∧ w'.ownsRow w.heap.size 9 1 v xs.length (strL xs) ∧ Below w.heap.size w w'
theorem clone_any (w : World) (v : Value) (xs : List (List UInt8)) (h : w.ownsRow 0 9 1 v xs.length (strL xs)) (hl : xs.length ≤ 1000000) :
    Calls Tryd.prog 24 #[v] w (ClonePost w xs) := by
  rcases h.2 with ⟨rfl, h0⟩ | ⟨g, cap, cur, rfl, _, _, _, _, _, _⟩
  · refine (Tryd.slices_Clone_string_nil 0 0 w).mono ?_
    rintro e w' ⟨rfl, rfl⟩
    have : xs = [] := List.length_eq_zero_iff.1 h0
    subst this
    exact ⟨_, rfl, World.ownsRow_nil _ _ _ _, Below.refl _ _⟩
  · refine (Tryd.slices_Clone_string g 0 xs.length cap (xs.map Dk.str) w (by simp) (by omega) (fun j hj => ?_)).mono ?_
    · rw [List.length_map] at hj
      have := h.cellAt j (by omega)
      rw [Nat.zero_add, this]
      simp [strL, hj, List.getD_eq_getElem?_getD]
    · rintro e w' ⟨v', rfl, h1, _, h3⟩
      refine ⟨v', rfl, ?_, h3⟩
      rw [List.take_of_length_le (by simp), List.map_map] at h1
      exact h1

set_option maxHeartbeats 400000 in
theorem room_any (w : World) (jb db n c : Nat) (v : Value) (br : Bool) (hn : n ≤ 1000000) (hc : c ≤ 1000000)
    (hj : Blk w jb 50 #[.pointer (some ⟨db, 0, none⟩), .int .i64 (n : Int), .int .i64 (c : Int), v, .bool br]) :
    Calls Tryd.prog 16 #[.pointer (some ⟨jb, 0, none⟩)] w fun e w' => e = .returned (.int .i64 ((n : Int) - 2 - (c : Int))) ∧ Below w.heap.size w w' := by
  have h1 : w.cell? ⟨jb, 1, none⟩ = some (.int .i64 (n : Int)) := hj.cell 1
  have h2 : w.cell? ⟨jb, 2, none⟩ = some (.int .i64 (c : Int)) := hj.cell 2
  have hlt := hj.lt
  have e1 : IntKind.i64.wrap ((n : Int) - 2) = (n : Int) - 2 := by rw [IntKind.wrap_i64]; omega
  have e2 : IntKind.i64.wrap ((n : Int) - 2 - (c : Int)) = (n : Int) - 2 - (c : Int) := by rw [IntKind.wrap_i64]; omega
  go_enter Tryd.func16, Tryd.ntmps16
  go_wp2_with fail
  go_region
  go_wp2
  go_ret
  exact ⟨rfl, below_drewN (Below.refl _ _) 1⟩
set_option maxHeartbeats 400000 in
theorem records_any (w : World) (jb db n c : Nat) (v : Value) (br : Bool) (xs : List (List UInt8)) (hl : xs.length ≤ 1000000)
    (hj : Blk w jb 50 #[.pointer (some ⟨db, 0, none⟩), .int .i64 (n : Int), .int .i64 (c : Int), v, .bool br])
    (h : w.ownsRow 0 9 1 v xs.length (strL xs)) :
    Calls Tryd.prog 12 #[.pointer (some ⟨jb, 0, none⟩)] w (ClonePost w xs) := by
  have h3 := hj.cell 3
  have hlt := hj.lt
  have HC := Lib.hid (clone_any w v xs h hl)
  clear h hl
  go_enter Tryd.func12, Tryd.ntmps12
  go_wp2_with fail
  refine HC.out.mono ?_
  rintro e w1 ⟨v1, rfl, ho, hb⟩
  have HO := Lib.hid ho
  have HB := Lib.hid hb
  clear ho hb HC
  go_wp2
  go_ret
  exact ⟨v1, rfl, HO.out, HB.out⟩
set_option maxHeartbeats 400000 in
theorem records_nil (w : World) :
    Calls Tryd.prog 12 #[.pointer none] w (ClonePost w []) := by
  go_enter Tryd.func12, Tryd.ntmps12
  go_wp2
  go_ret
  exact ⟨_, rfl, World.ownsRow_nil _ _ _ _, Below.refl _ _⟩
set_option maxHeartbeats 400000 in
theorem room_nil (w : World) :
    Calls Tryd.prog 16 #[.pointer none] w fun e w' => e = .returned (.int .i64 0) ∧ Below w.heap.size w w' := by
  go_enter Tryd.func16, Tryd.ntmps16
  go_wp2
  go_ret
  exact ⟨rfl, Below.refl _ _⟩
end Go.Proofs.YthhkadeiplbdkaaDoor
