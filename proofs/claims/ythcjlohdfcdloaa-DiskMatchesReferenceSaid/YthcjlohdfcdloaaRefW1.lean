/- Walks of the reference's functions, part 1: Start, Arm, New of no disk. -/
import Derived.Test.YthcjlohdfcdloaaRefAt
set_option linter.unusedVariables false
set_option linter.unusedSimpArgs false
namespace Go.Proofs.Ythcjlohdfcdloaa
open Go.RowKit

set_option maxHeartbeats 400000 in
theorem rstart_any (w : World) (S : Nat → Prop) (db : Nat) (D : Dk) (hD : RefAt w S db D) :
    Calls Try.prog 36 #[.pointer (some ⟨db, 0, none⟩)] w (RPost S w db D.start (.tuple #[])) := by
  obtain ⟨sv, qv, am, x, y, z, h⟩ := hD
  have hm := h.main
  have c0 := hm.cell 0
  have c1 := hm.cell 1
  have c2 := hm.cell 2
  have c3 := hm.cell 3
  have c4 := hm.cell 4
  have c5 := hm.cell 5
  have c6 := hm.cell 6
  have cf0 := hm.frozen 0
  have cf1 := hm.frozen 1
  have cf2 := hm.frozen 2
  have cf3 := hm.frozen 3
  have cf4 := hm.frozen 4
  have cf5 := hm.frozen 5
  have cf6 := hm.frozen 6
  have clt := hm.lt
  have H := Lib.hid h
  clear h hm
  go_enter Try.func36, Try.ntmps36
  go_wp2
  go_end0
  have h := H.out
  have ht : Touch S w ((w.setCell ⟨db, 2, none⟩ (.bool true)).setCell ⟨db, 3, none⟩ (.bool false)) := ((Touch.refl _ _).setCell (.inr h.sdb) _).setCell (.inr h.sdb) _
  have t2 : Touch (fun k => k = db) w ((w.setCell ⟨db, 2, none⟩ (.bool true)).setCell ⟨db, 3, none⟩ (.bool false)) := ((Touch.refl (fun k => k = db) w).setCell (p := ⟨db, 2, none⟩) (.inr rfl) _).setCell (p := ⟨db, 3, none⟩) (.inr rfl) _
  have hr := h.rows t2
  exact .of ⟨sv, qv, false, x, y, z, (h.main.set_ 2 _).set_ 3 _, hr.1, hr.2, rfl, h.fits, h.sdb, h.sst, h.sq, Dk.start_inv h.inv⟩ ht

set_option maxHeartbeats 400000 in
theorem rarm_off (w : World) (S : Nat → Prop) (db : Nat) (D : Dk) (a b c : Int) (hD : RefAt w S db D) (ho : D.off = true) :
    Calls Try.prog 37 #[.pointer (some ⟨db, 0, none⟩), .int .i64 a, .int .i64 b, .int .i64 c] w (RPost S w db (D.arm a b c) (.tuple #[])) := by
  have e : D.arm a b c = D := by unfold Dk.arm; rw [if_pos ho]
  rw [e]
  have HA := Lib.hid hD
  obtain ⟨sv, qv, am, x, y, z, h⟩ := hD
  have c2 := h.main.cell 2
  have clt := h.main.lt
  rw [ho] at c2
  clear h e ho
  go_enter Try.func37, Try.ntmps37
  go_wp2
  refine bodyPost_ret (results_none rfl _ _ _) rfl ?_
  exact .of HA.out (Touch.refl _ _)
set_option maxHeartbeats 400000 in
theorem rarm_on (w : World) (S : Nat → Prop) (db : Nat) (D : Dk) (a b c : Int) (hD : RefAt w S db D) (ho : D.off = false) (h0 : 0 ≤ a) (ha : Dk.i64 a) (hb : Dk.i64 b) (hc : Dk.i64 c) :
    Calls Try.prog 37 #[.pointer (some ⟨db, 0, none⟩), .int .i64 a, .int .i64 b, .int .i64 c] w (RPost S w db (D.arm a b c) (.tuple #[])) := by
  have e : D.arm a b c = { D with al := some (a, b, c) } := by unfold Dk.arm; rw [if_neg (by simp [ho]), if_pos h0]
  have hI := Dk.arm_inv hD.inv a b c ha hb hc
  rw [e] at hI ⊢
  have HI := Lib.hid hI
  have HF := Lib.hid (show Dk.i64 a ∧ Dk.i64 b ∧ Dk.i64 c from ⟨ha, hb, hc⟩)
  obtain ⟨sv, qv, am, x, y, z, h⟩ := hD
  have hm := h.main
  rw [ho] at hm
  have c0 := hm.cell 0
  have c1 := hm.cell 1
  have c2 := hm.cell 2
  have c3 := hm.cell 3
  have c4 := hm.cell 4
  have c5 := hm.cell 5
  have c6 := hm.cell 6
  have cf0 := hm.frozen 0
  have cf1 := hm.frozen 1
  have cf2 := hm.frozen 2
  have cf3 := hm.frozen 3
  have cf4 := hm.frozen 4
  have cf5 := hm.frozen 5
  have cf6 := hm.frozen 6
  have clt := hm.lt
  have H := Lib.hid h
  clear h hm e hI ha hb hc ho
  go_enter Try.func37, Try.ntmps37
  go_wp2
  go_end0
  have h := H.out
  have ht : Touch S w ((((w.setCell ⟨db, 3, none⟩ (.bool true)).setCell ⟨db, 4, none⟩ (.int .i64 a)).setCell ⟨db, 5, none⟩ (.int .i64 b)).setCell ⟨db, 6, none⟩ (.int .i64 c)) := ((((Touch.refl _ _).setCell (.inr h.sdb) _).setCell (.inr h.sdb) _).setCell (.inr h.sdb) _).setCell (.inr h.sdb) _
  have t2 : Touch (fun k => k = db) w ((((w.setCell ⟨db, 3, none⟩ (.bool true)).setCell ⟨db, 4, none⟩ (.int .i64 a)).setCell ⟨db, 5, none⟩ (.int .i64 b)).setCell ⟨db, 6, none⟩ (.int .i64 c)) := ((((Touch.refl (fun k => k = db) w).setCell (p := ⟨db, 3, none⟩) (.inr rfl) _).setCell (p := ⟨db, 4, none⟩) (.inr rfl) _).setCell (p := ⟨db, 5, none⟩) (.inr rfl) _).setCell (p := ⟨db, 6, none⟩) (.inr rfl) _
  have hr := h.rows t2
  exact .of ⟨sv, qv, true, a, b, c, (((h.main.set_ 3 _).set_ 4 _).set_ 5 _).set_ 6 _, hr.1, hr.2, ⟨rfl, rfl, rfl, rfl⟩, HF.out, h.sdb, h.sst, h.sq, HI.out⟩ ht
set_option maxHeartbeats 400000 in
theorem rarm_neg (w : World) (S : Nat → Prop) (db : Nat) (D : Dk) (a b c : Int) (hD : RefAt w S db D) (ho : D.off = false) (h0 : a < 0) (ha : Dk.i64 a) (hb : Dk.i64 b) (hc : Dk.i64 c) :
    Calls Try.prog 37 #[.pointer (some ⟨db, 0, none⟩), .int .i64 a, .int .i64 b, .int .i64 c] w (RPost S w db (D.arm a b c) (.tuple #[])) := by
  have e : D.arm a b c = { D with al := none } := by unfold Dk.arm; rw [if_neg (by simp [ho]), if_neg (by omega)]
  have hI := Dk.arm_inv hD.inv a b c ha hb hc
  rw [e] at hI ⊢
  have HI := Lib.hid hI
  have HF := Lib.hid (show Dk.i64 a ∧ Dk.i64 b ∧ Dk.i64 c from ⟨ha, hb, hc⟩)
  obtain ⟨sv, qv, am, x, y, z, h⟩ := hD
  have hm := h.main
  rw [ho] at hm
  have c0 := hm.cell 0
  have c1 := hm.cell 1
  have c2 := hm.cell 2
  have c3 := hm.cell 3
  have c4 := hm.cell 4
  have c5 := hm.cell 5
  have c6 := hm.cell 6
  have cf0 := hm.frozen 0
  have cf1 := hm.frozen 1
  have cf2 := hm.frozen 2
  have cf3 := hm.frozen 3
  have cf4 := hm.frozen 4
  have cf5 := hm.frozen 5
  have cf6 := hm.frozen 6
  have clt := hm.lt
  have H := Lib.hid h
  clear h hm e hI ha hb hc ho
  have hd : decide (0 ≤ a) = false := by simp; omega
  go_enter Try.func37, Try.ntmps37
  go_wp2
  go_end0
  have h := H.out
  have ht : Touch S w ((((w.setCell ⟨db, 3, none⟩ (.bool false)).setCell ⟨db, 4, none⟩ (.int .i64 a)).setCell ⟨db, 5, none⟩ (.int .i64 b)).setCell ⟨db, 6, none⟩ (.int .i64 c)) := ((((Touch.refl _ _).setCell (.inr h.sdb) _).setCell (.inr h.sdb) _).setCell (.inr h.sdb) _).setCell (.inr h.sdb) _
  have t2 : Touch (fun k => k = db) w ((((w.setCell ⟨db, 3, none⟩ (.bool false)).setCell ⟨db, 4, none⟩ (.int .i64 a)).setCell ⟨db, 5, none⟩ (.int .i64 b)).setCell ⟨db, 6, none⟩ (.int .i64 c)) := ((((Touch.refl (fun k => k = db) w).setCell (p := ⟨db, 3, none⟩) (.inr rfl) _).setCell (p := ⟨db, 4, none⟩) (.inr rfl) _).setCell (p := ⟨db, 5, none⟩) (.inr rfl) _).setCell (p := ⟨db, 6, none⟩) (.inr rfl) _
  have hr := h.rows t2
  exact .of ⟨sv, qv, false, a, b, c, (((h.main.set_ 3 _).set_ 4 _).set_ 5 _).set_ 6 _, hr.1, hr.2, rfl, HF.out, h.sdb, h.sst, h.sq, HI.out⟩ ht
theorem rarm_any (w : World) (S : Nat → Prop) (db : Nat) (D : Dk) (a b c : Int) (hD : RefAt w S db D) (ha : Dk.i64 a) (hb : Dk.i64 b) (hc : Dk.i64 c) :
    Calls Try.prog 37 #[.pointer (some ⟨db, 0, none⟩), .int .i64 a, .int .i64 b, .int .i64 c] w (RPost S w db (D.arm a b c) (.tuple #[])) := by
  by_cases ho : D.off = true
  · exact rarm_off w S db D a b c hD ho
  · simp only [Bool.not_eq_true] at ho
    by_cases h0 : 0 ≤ a
    · exact rarm_on w S db D a b c hD ho h0 ha hb hc
    · exact rarm_neg w S db D a b c hD ho (by omega) ha hb hc

/-- What set leaves. -/
def RSetPost (S : Nat → Prop) (w : World) (db : Nat) (sv qv : Value) (am : Bool) (x y z : Int) (D : Dk) (e : Ending) (w' : World) : Prop :=
  e = .returned (.tuple #[]) ∧ RefL w' S db sv qv am x y z D ∧ Touch (fun k => sv.ownBlock = some k) w w'
set_option maxHeartbeats 400000 in
theorem rset_any (w : World) (S : Nat → Prop) (db : Nat) (sv qv : Value) (am : Bool) (x y z : Int) (D : Dk) (i : Nat) (l : List UInt8) (h : RefL w S db sv qv am x y z D) (hi : i < D.st.length) (hl : l.length = 64) :
    Calls Try.prog 47 #[.pointer (some ⟨db, 0, none⟩), .int .i64 (i : Int), .string (Dk.str l)] w (RSetPost S w db sv qv am x y z { D with st := D.st.set i l }) := by
  have hhi := h.inv.hi
  obtain ⟨g, c, rfl, _, hg⟩ := h.stab.form (by omega)
  have hc0 := h.main.cell 0
  have hdb := h.main.lt
  have d1 := h.stab.cellAt i (by omega)
  have d2 := h.stab.frozenAt i
  rw [show (stV D)[i]? = some (.string (Dk.str D.st[i])) by simp [stV, strV, hi]] at d1
  generalize Dk.str D.st[i] = old at d1
  have H := Lib.hid h
  have HI := Lib.hid hi
  have HL := Lib.hid hl
  obtain ⟨N, hN⟩ : ∃ N, N = D.st.length := ⟨_, rfl⟩
  rw [← hN] at hc0 hi hhi H
  have HN := Lib.hid hN
  clear h hN hl
  have hi2 : (i : Int) < (N : Int) := by omega
  go_enter Try.func47, Try.ntmps47
  go_wp2
  go_end0
  have h := H.out
  have hN := HN.out
  subst hN
  have n1 := own_blk_ne h.stab h.main (by decide)
  have n2 := own_own_ne h.stab h.queue (by decide)
  have t : Touch (fun k => (Value.slice (some ⟨g, 0, none⟩) D.st.length c).ownBlock = some k) w (w.setCell ⟨g, i, none⟩ (.string (Dk.str l))) := (Touch.refl (fun k => (Value.slice (some ⟨g, 0, none⟩) D.st.length c).ownBlock = some k) w).setCell (p := ⟨g, i, none⟩) (.inr rfl) _
  refine ⟨rfl, ⟨?_, ?_, ?_, h.alarm, h.fits, h.sdb, h.sst, h.sq, ?_⟩, t⟩
  · exact t.blk h.main n1
  · have hs := (h.stab.stored i (.string (Dk.str l))).1
    have e : stV { D with st := D.st.set i l } = (stV D).set i (.string (Dk.str l)) := by simp [stV, strV, List.map_set]
    rw [e]
    simp only [List.length_set]
    exact hs
  · exact t.own h.queue fun k hk e => n2 k e hk
  · refine ⟨by simpa using h.inv.lo, by simpa using h.inv.hi, fun s hs => ?_, by simpa using h.inv.pend, h.inv.alarm, h.inv.quiet⟩
    rcases List.mem_or_eq_of_mem_set hs with hs | rfl
    · exact h.inv.sec s hs
    · exact HL.out
end Go.Proofs.Ythcjlohdfcdloaa
