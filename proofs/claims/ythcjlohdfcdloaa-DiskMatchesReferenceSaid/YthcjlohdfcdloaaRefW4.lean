/- Walks of the reference's functions, part 4: count. -/
import Derived.Test.YthcjlohdfcdloaaRefW3
set_option linter.unusedVariables false
set_option linter.unusedSimpArgs false
namespace Go.Proofs.Ythcjlohdfcdloaa
open Go.RowKit

set_option maxHeartbeats 400000 in
theorem rcount_none (w : World) (S : Nat → Prop) (db : Nat) (D : Dk) (hD : RefAt w S db D) (hal : D.al = none) :
    Calls Try.prog 45 #[.pointer (some ⟨db, 0, none⟩)] w (RPost S w db D.count.1 (.int .i64 D.count.2)) := by
  have HD := Lib.hid hD
  obtain ⟨sv, qv, am, x, y, z, h⟩ := hD
  have ha := h.alarm
  rw [hal] at ha
  obtain rfl : am = false := ha
  have e : D.count = (D, 0) := by unfold Dk.count; rw [hal]
  rw [e]
  have c3 := h.main.cell 3
  have clt := h.main.lt
  clear h hal e
  go_enter Try.func45, Try.ntmps45
  go_wp2
  go_ret
  exact .of HD.out (Touch.refl _ _)

set_option maxHeartbeats 400000 in
theorem rcount_more (w : World) (S : Nat → Prop) (db : Nat) (D : Dk) (hD : RefAt w S db D) (a b c : Int) (hal : D.al = some (a, b, c)) (h0 : 0 < a) :
    Calls Try.prog 45 #[.pointer (some ⟨db, 0, none⟩)] w (RPost S w db D.count.1 (.int .i64 D.count.2)) := by
  have hI := Dk.count_inv hD.inv
  obtain ⟨sv, qv, am, x, y, z, h⟩ := hD
  have ha := h.alarm
  rw [hal] at ha
  obtain ⟨rfl, rfl, rfl, rfl⟩ := ha
  have e : D.count = ({ D with al := some (x - 1, y, z) }, 0) := by unfold Dk.count; rw [hal]; simp only [h0, if_true]
  rw [e] at hI ⊢
  have HI := Lib.hid hI
  have hm := h.main
  have c0 := hm.cell 0
  have c1 := hm.cell 1
  have c2 := hm.cell 2
  have c3 := hm.cell 3
  have c4 := hm.cell 4
  have c5 := hm.cell 5
  have c6 := hm.cell 6
  have cf0 := hm.frozen 0
  have cf1 := hm.frozen 1
  have cf2 := hm.frozen 2
  have cf3 := hm.frozen 3
  have cf4 := hm.frozen 4
  have cf5 := hm.frozen 5
  have cf6 := hm.frozen 6
  have clt := hm.lt
  have H := Lib.hid h
  have hx := h.fits.1.2
  have h1 : (x == 0) = false := by simp; omega
  clear h hal e hm hI
  go_enter Try.func45, Try.ntmps45
  go_wp2
  go_ret
  have h := H.out
  have ht : Touch S w (w.setCell ⟨db, 4, none⟩ (.int .i64 (x - 1))) := (Touch.refl _ _).setCell (.inr h.sdb) _
  have t2 : Touch (fun k => k = db) w (w.setCell ⟨db, 4, none⟩ (.int .i64 (x - 1))) := (Touch.refl (fun k => k = db) w).setCell (p := ⟨db, 4, none⟩) (.inr rfl) _
  have hr := h.rows t2
  exact .of ⟨sv, qv, true, x - 1, y, z, h.main.set_ 4 _, hr.1, hr.2, ⟨rfl, rfl, rfl, rfl⟩, ⟨by have := h.fits.1; unfold Dk.i64 at *; omega, h.fits.2⟩, h.sdb, h.sst, h.sq, HI.out⟩ ht

set_option maxHeartbeats 400000 in
theorem rcount_off (w : World) (S : Nat → Prop) (db : Nat) (D : Dk) (hD : RefAt w S db D) (hq : D.q.length ≤ 1000000) (b c : Int) (hal : D.al = some (0, b, c)) :
    Calls Try.prog 45 #[.pointer (some ⟨db, 0, none⟩)] w (RPost S w db D.count.1 (.int .i64 D.count.2)) := by
  have HF := Lib.hid (rfail_any w.drew S db D b c (hD.below ((Below.refl _ _).drew)) hq)
  obtain ⟨sv, qv, am, x, y, z, h⟩ := hD
  have ha := h.alarm
  rw [hal] at ha
  obtain ⟨rfl, rfl, rfl, rfl⟩ := ha
  have e : D.count = (D.fail y z, 28) := by unfold Dk.count; rw [hal]; simp
  rw [e]
  have hm := h.main
  have c0 := hm.cell 0
  have c1 := hm.cell 1
  have c2 := hm.cell 2
  have c3 := hm.cell 3
  have c4 := hm.cell 4
  have c5 := hm.cell 5
  have c6 := hm.cell 6
  have cf0 := hm.frozen 0
  have cf1 := hm.frozen 1
  have cf2 := hm.frozen 2
  have cf3 := hm.frozen 3
  have cf4 := hm.frozen 4
  have cf5 := hm.frozen 5
  have cf6 := hm.frozen 6
  have clt := hm.lt
  clear h hal e hm hq
  go_enter Try.func45, Try.ntmps45
  go_wp2_with fail
  go_still_tail 9, (by kernel_rfl)
  change wpList _ _ _ _ _ w.drew
  go_wp2_with fail
  refine HF.out.mono ?_
  rintro e w1 ⟨rfl, hd1, ht1⟩
  go_wp2
  go_ret
  exact ⟨rfl, hd1.mono fun k hk => by
    rcases hk with hk | hk
    · exact .inl hk
    · exact .inr hk, (Touch.refl _ _).drew.trans ht1 fun _ _ => id⟩

theorem rcount_any (w : World) (S : Nat → Prop) (db : Nat) (D : Dk) (hD : RefAt w S db D) (hq : D.q.length ≤ 1000000) :
    Calls Try.prog 45 #[.pointer (some ⟨db, 0, none⟩)] w (RPost S w db D.count.1 (.int .i64 D.count.2)) := by
  match hal : D.al with
  | none => exact rcount_none w S db D hD hal
  | some (a, b, c) =>
    have h0 := (hD.inv.alarm a b c hal).1
    by_cases h1 : 0 < a
    · exact rcount_more w S db D hD a b c hal h1
    · obtain rfl : a = 0 := by omega
      exact rcount_off w S db D hD hq b c hal
end Go.Proofs.Ythcjlohdfcdloaa
