/- Walks of the disk's functions, part 1: place, at, New, Raw, Start, Arm. -/
import Derived.Test.YthhkadeiplbdkaaDoorDiskAt
namespace Go.Proofs.YthhkadeiplbdkaaDoor
open Go.RowKit

set_option maxHeartbeats 400000 in
theorem place_yes (w : World) (S : Nat → Prop) (db : Nat) (D : Dk) (i : Int) (hD : DiskAt w S db D) (hv : D.valid i = true) :
    Calls Tryd.prog 37 #[.pointer (some ⟨db, 0, none⟩), .int .i64 i] w fun e w' => e = .returned (.tuple #[.agg #[.int .i64 (i * 64), .int .i64 ((i + 1) * 64)], .bool true]) ∧ Below w.heap.size w w' := by
  obtain ⟨sb, qv, ap, h⟩ := hD
  have hi := h.inv.hi
  simp only [Dk.valid, Bool.and_eq_true, decide_eq_true_eq] at hv
  obtain ⟨h0, h1⟩ := hv
  have hc0 := h.main.cell 0
  have hdb := h.main.lt
  clear h
  obtain ⟨N, hN⟩ : ∃ N, N = 64 * D.st.length := ⟨_, rfl⟩
  rw [← hN] at hc0
  have hb : N ≤ 256000 := by omega
  have h2 : i < (N : Int) / 64 := by omega
  clear hN h1 hi
  go_enter Tryd.func37, Tryd.ntmps37
  go_wp2
  exact bodyPost_ret (v := .tuple #[.agg #[.int .i64 (i * 64), .int .i64 ((i + 1) * 64)], .bool true]) (by simp [results, Tryd.results37, go_sem]) rfl ⟨rfl, (Below.refl _ _).alloc (Nat.le_refl _) _⟩

set_option maxHeartbeats 400000 in
theorem place_no (w : World) (S : Nat → Prop) (db : Nat) (D : Dk) (i : Int) (hD : DiskAt w S db D) (hv : D.valid i = false) :
    Calls Tryd.prog 37 #[.pointer (some ⟨db, 0, none⟩), .int .i64 i] w fun e w' => e = .returned (.tuple #[.agg #[.int .i64 0, .int .i64 0], .bool false]) ∧ Below w.heap.size w w' := by
  obtain ⟨sb, qv, ap, h⟩ := hD
  have hi := h.inv.hi
  simp only [Dk.valid, Bool.and_eq_false_iff, decide_eq_false_iff_not] at hv
  have hc0 := h.main.cell 0
  have hdb := h.main.lt
  clear h
  obtain ⟨N, hN⟩ : ∃ N, N = 64 * D.st.length := ⟨_, rfl⟩
  rw [← hN] at hc0
  have hb : N ≤ 256000 := by omega
  by_cases h0 : i < 0
  · clear hv hN hi
    go_enter Tryd.func37, Tryd.ntmps37
    go_wp2
    exact bodyPost_ret (v := .tuple #[.agg #[.int .i64 0, .int .i64 0], .bool false]) (by simp [results, Tryd.results37, go_sem]) rfl ⟨rfl, (Below.refl _ _).alloc (Nat.le_refl _) _⟩
  · have h2 : (N : Int) / 64 ≤ i := by omega
    clear hv hN hi
    go_enter Tryd.func37, Tryd.ntmps37
    go_wp2
    exact bodyPost_ret (v := .tuple #[.agg #[.int .i64 0, .int .i64 0], .bool false]) (by simp [results, Tryd.results37, go_sem]) rfl ⟨rfl, (Below.refl _ _).alloc (Nat.le_refl _) _⟩

set_option maxHeartbeats 400000 in
theorem place_nil (w : World) (i : Int) :
    Calls Tryd.prog 37 #[.pointer none, .int .i64 i] w fun e w' => e = .returned (.tuple #[.agg #[.int .i64 0, .int .i64 0], .bool false]) ∧ Below w.heap.size w w' := by
  go_enter Tryd.func37, Tryd.ntmps37
  go_wp2
  exact bodyPost_ret (v := .tuple #[.agg #[.int .i64 0, .int .i64 0], .bool false]) (by simp [results, Tryd.results37, go_sem]) rfl ⟨rfl, (Below.refl _ _).alloc (Nat.le_refl _) _⟩

set_option maxHeartbeats 400000 in
theorem at_yes (w : World) (S : Nat → Prop) (db : Nat) (D : Dk) (i : Int) (hD : DiskAt w S db D) (ho : D.off = false) (hv : D.valid i = true) :
    Calls Tryd.prog 48 #[.pointer (some ⟨db, 0, none⟩), .int .i64 i] w fun e w' => e = .returned (.tuple #[.agg #[.int .i64 (i * 64), .int .i64 ((i + 1) * 64)], .int .i64 0]) ∧ Below w.heap.size w w' := by
  have hD' := hD
  obtain ⟨sb, qv, ap, h⟩ := hD'
  have hc2 := h.main.cell 2
  have hdb := h.main.lt
  rw [ho] at hc2
  clear h
  have hb0 : Below w.heap.size w (w.alloc (.cells #[.int .i64 0, .int .i64 0] 58)) := (Below.refl _ _).alloc (Nat.le_refl _) _
  have hp := place_yes _ S db D i (hD.below hb0) hv
  have HP := Lib.hid hp
  clear hp hD hv ho hb0
  go_enter Tryd.func48, Tryd.ntmps48
  go_wp2_with fail
  refine HP.out.mono ?_
  rintro e w' ⟨rfl, hb⟩
  have hL := (Touch.of_new (S := fun _ => False) hb).blk (Blk.new w 58 #[.int .i64 0, .int .i64 0]) id
  have hc4 := hL.cell 0
  have hc5 := hL.cell 1
  have hf4 := hL.frozen 0
  have hf5 := hL.frozen 1
  have hz := hL.lt
  have HB := Lib.hid hb
  clear hL hb
  go_wp2
  exact bodyPost_ret (v := .tuple #[.agg #[.int .i64 (i * 64), .int .i64 ((i + 1) * 64)], .int .i64 0]) (by simp [results, Tryd.results48, go_sem, hc4, hc5, hz]) rfl
    ⟨rfl, (((((Below.refl _ _).alloc (Nat.le_refl _) _).trans (HB.out.mono (by simp))).setCell (Nat.le_refl _) _).setCell (Nat.le_refl _) _).alloc (by simp; omega) _⟩
set_option maxHeartbeats 400000 in
theorem at_no (w : World) (S : Nat → Prop) (db : Nat) (D : Dk) (i : Int) (hD : DiskAt w S db D) (ho : D.off = false) (hv : D.valid i = false) :
    Calls Tryd.prog 48 #[.pointer (some ⟨db, 0, none⟩), .int .i64 i] w fun e w' => e = .returned (.tuple #[.agg #[.int .i64 0, .int .i64 0], .int .i64 1]) ∧ Below w.heap.size w w' := by
  have hD' := hD
  obtain ⟨sb, qv, ap, h⟩ := hD'
  have hc2 := h.main.cell 2
  have hdb := h.main.lt
  rw [ho] at hc2
  clear h
  have hb0 : Below w.heap.size w (w.alloc (.cells #[.int .i64 0, .int .i64 0] 58)) := (Below.refl _ _).alloc (Nat.le_refl _) _
  have hp := place_no _ S db D i (hD.below hb0) hv
  have HP := Lib.hid hp
  clear hp hD hv ho hb0
  go_enter Tryd.func48, Tryd.ntmps48
  go_wp2_with fail
  refine HP.out.mono ?_
  rintro e w' ⟨rfl, hb⟩
  have hL := (Touch.of_new (S := fun _ => False) hb).blk (Blk.new w 58 #[.int .i64 0, .int .i64 0]) id
  have hc4 := hL.cell 0
  have hc5 := hL.cell 1
  have hf4 := hL.frozen 0
  have hf5 := hL.frozen 1
  have hz := hL.lt
  have HB := Lib.hid hb
  clear hL hb
  go_wp2
  exact bodyPost_ret (v := .tuple #[.agg #[.int .i64 0, .int .i64 0], .int .i64 1]) (by simp [results, Tryd.results48, go_sem, hc4, hc5, hz]) rfl
    ⟨rfl, (((((Below.refl _ _).alloc (Nat.le_refl _) _).trans (HB.out.mono (by simp))).setCell (Nat.le_refl _) _).setCell (Nat.le_refl _) _).alloc (by simp; omega) _⟩

set_option maxHeartbeats 400000 in
theorem at_off (w : World) (S : Nat → Prop) (db : Nat) (D : Dk) (i : Int) (hD : DiskAt w S db D) (ho : D.off = true) :
    Calls Tryd.prog 48 #[.pointer (some ⟨db, 0, none⟩), .int .i64 i] w fun e w' => e = .returned (.tuple #[.agg #[.int .i64 0, .int .i64 0], .int .i64 28]) ∧ Below w.heap.size w w' := by
  obtain ⟨sb, qv, ap, h⟩ := hD
  have hc2 := h.main.cell 2
  have hdb := h.main.lt
  rw [ho] at hc2
  clear h ho
  go_enter Tryd.func48, Tryd.ntmps48
  go_wp2
  exact bodyPost_ret (v := .tuple #[.agg #[.int .i64 0, .int .i64 0], .int .i64 28]) (by simp [results, Tryd.results48, go_sem]) rfl ⟨rfl, (Below.refl _ _).alloc (Nat.le_refl _) _⟩

set_option maxHeartbeats 400000 in
theorem at_nil (w : World) (i : Int) :
    Calls Tryd.prog 48 #[.pointer none, .int .i64 i] w fun e w' => e = .returned (.tuple #[.agg #[.int .i64 0, .int .i64 0], .int .i64 1]) ∧ Below w.heap.size w w' := by
  have hp := place_nil (w.alloc (.cells #[.int .i64 0, .int .i64 0] 58)) i
  have HP := Lib.hid hp
  clear hp
  go_enter Tryd.func48, Tryd.ntmps48
  go_wp2_with fail
  refine HP.out.mono ?_
  rintro e w' ⟨rfl, hb⟩
  have hL := (Touch.of_new (S := fun _ => False) hb).blk (Blk.new w 58 #[.int .i64 0, .int .i64 0]) id
  have hc4 := hL.cell 0
  have hc5 := hL.cell 1
  have hf4 := hL.frozen 0
  have hf5 := hL.frozen 1
  have hz := hL.lt
  have HB := Lib.hid hb
  clear hL hb
  go_wp2
  exact bodyPost_ret (v := .tuple #[.agg #[.int .i64 0, .int .i64 0], .int .i64 1]) (by simp [results, Tryd.results48, go_sem, hc4, hc5, hz]) rfl
    ⟨rfl, (((((Below.refl _ _).alloc (Nat.le_refl _) _).trans (HB.out.mono (by simp))).setCell (Nat.le_refl _) _).setCell (Nat.le_refl _) _).alloc (by simp; omega) _⟩

/-! New -/
theorem info_u8 : (Tryd.prog.info? 5).map (fun i => (i.zero, i.size, i.bytes)) = some (some (.int .u8 0), 1, 1) := by kernel_rfl

theorem new_run (m : Nat) (hm : m ≤ 256000) (W : World) : (Instr.makeSlice 51 (.int .i64 (m : Int)) (.int .i64 (m : Int))).run Tryd.prog W = .ok (.slice (some ⟨W.heap.size, 0, none⟩) m m) (W.alloc (.cells (madeCells #[.int .u8 0] m) 5)) := by
  exact run_make_row' 51 5 (.int .u8 0) 1 Tryd.underlying51 info_u8 rfl .i64 .i64 m (by omega) (by omega) W

set_option maxHeartbeats 400000 in
theorem new_no (w : World) (n : Int) (h : ¬ (1 ≤ n ∧ n ≤ 4000)) :
    Calls Tryd.prog 19 #[.int .i64 n] w fun e w' => e = .returned (.pointer none) ∧ w = w' := by
  by_cases h1 : n < 1
  · clear h
    go_enter Tryd.func19, Tryd.ntmps19
    go_wp2
    go_ret
    exact ⟨rfl, rfl⟩
  · have h2 : 4000 < n := by omega
    clear h
    go_enter Tryd.func19, Tryd.ntmps19
    go_wp2
    go_ret
    exact ⟨rfl, rfl⟩

set_option maxHeartbeats 400000 in
theorem new_yes (w : World) (n : Nat) (h1 : 1 ≤ n) (h2 : n ≤ 4000) :
    Calls Tryd.prog 19 #[.int .i64 (n : Int)] w fun e w' => e = .returned (.pointer (some ⟨w.heap.size + 1, 0, none⟩)) ∧ DiskAt w' (fun k => w.heap.size ≤ k) (w.heap.size + 1) (Dk.new n) ∧ Below w.heap.size w w' := by
  have hmk : ∀ W : World, (Instr.makeSlice 51 (.int .i64 ((n : Int) * 64)) (.int .i64 ((n : Int) * 64))).run Tryd.prog W = .ok (.slice (some ⟨W.heap.size, 0, none⟩) (n * 64) (n * 64)) (W.alloc (.cells (madeCells #[.int .u8 0] (n * 64)) 5)) := by
    intro W
    have := new_run (n * 64) (by omega) W
    rwa [show (((n * 64 : Nat)) : Int) = (n : Int) * 64 from by simp] at this
  go_enter Tryd.func19, Tryd.ntmps19
  go_wp2
  go_ret
  refine ⟨rfl, ⟨w.heap.size, .slice none 0 0, none, ?_⟩, ((Below.refl _ _).alloc (Nat.le_refl _) _).alloc (by simp) _⟩
  refine ⟨?_, ?_, World.ownsRow_nil _ _ _ _, rfl, by simp, by simp, by simp [Value.ownBlock], Dk.new_inv n h1 h2⟩
  · have e : 64 * (Dk.new n).st.length = n * 64 := by simp [Dk.new]; omega
    rw [e, show (Dk.new n).off = false from rfl]
    have := Blk.new (w.alloc (.cells (madeCells #[.int .u8 0] (n * 64)) 5)) 55 #[.slice (some ⟨w.heap.size, 0, none⟩) (n * 64) (n * 64), .slice none 0 0, .bool false, .pointer none]
    simpa using this
  · have h := (Blk.new w 5 (madeCells #[.int .u8 0] (n * 64))).alloc (.cells #[.slice (some ⟨w.heap.size, 0, none⟩) (n * 64) (n * 64), .slice none 0 0, .bool false, .pointer none] 55)
    have e : (Lib.byteCells (Dk.new n).st.flatten).toArray = madeCells #[.int .u8 0] (n * 64) := by
      rw [Dk.new_flat]
      have h1 := toList_madeCells_one (.int .u8 0) (n * 64)
      rw [← Array.toArray_toList (xs := madeCells _ _), h1]
      simp [Lib.byteCells, Nat.mul_comm]
    rw [e]; exact h

set_option maxHeartbeats 400000 in
theorem start_nil (w : World) :
    Calls Tryd.prog 14 #[.pointer none] w fun e w' => e = .returned (.tuple #[]) ∧ w = w' := by
  go_enter Tryd.func14, Tryd.ntmps14
  go_wp2
  go_end0
  exact ⟨rfl, rfl⟩

set_option maxHeartbeats 400000 in
theorem start_any (w : World) (S : Nat → Prop) (db : Nat) (D : Dk) (hD : DiskAt w S db D) :
    Calls Tryd.prog 14 #[.pointer (some ⟨db, 0, none⟩)] w fun e w' => e = .returned (.tuple #[]) ∧ DiskAt w' S db D.start ∧ Touch S w w' := by
  obtain ⟨sb, qv, ap, h⟩ := hD
  have hc2 := h.main.cell 2
  have hc3 := h.main.cell 3
  have hf2 := h.main.frozen 2
  have hf3 := h.main.frozen 3
  have hdb := h.main.lt
  have H := Lib.hid h
  clear h
  go_enter Tryd.func14, Tryd.ntmps14
  go_wp2
  go_end0
  have h := H.out
  have n1 := (h.main.ne_ h.stab (by decide))
  have ht : Touch S w ((w.setCell ⟨db, 2, none⟩ (.bool false)).setCell ⟨db, 3, none⟩ (.pointer none)) := ((Touch.refl _ _).setCell (.inr h.sdb) _).setCell (.inr h.sdb) _
  refine ⟨rfl, ⟨sb, qv, none, ?_, ?_, ?_, rfl, h.sdb, h.ssb, h.sq, Dk.start_inv h.inv⟩, ht⟩
  · exact (h.main.set_ 2 _).set_ 3 _
  · exact (h.stab.far (p := ⟨db, 2, none⟩) (fun e => n1 e.symm) _).far (p := ⟨db, 3, none⟩) (fun e => n1 e.symm) _
  · have n2 := own_blk_ne h.queue h.main (by decide)
    have t2 : Touch (fun k => k = db) w ((w.setCell ⟨db, 2, none⟩ (.bool false)).setCell ⟨db, 3, none⟩ (.pointer none)) := ((Touch.refl (fun k => k = db) w).setCell (p := ⟨db, 2, none⟩) (.inr rfl) _).setCell (p := ⟨db, 3, none⟩) (.inr rfl) _
    exact t2.own h.queue (fun k hk e => n2 (by rw [hk, e]))
end Go.Proofs.YthhkadeiplbdkaaDoor
