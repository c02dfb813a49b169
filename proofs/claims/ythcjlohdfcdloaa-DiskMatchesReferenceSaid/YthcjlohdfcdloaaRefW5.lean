/- Walks of the reference's functions, part 5: Sync. -/
import Derived.Test.YthcjlohdfcdloaaRefW4
set_option linter.unusedVariables false
set_option linter.unusedSimpArgs false
namespace Go.Proofs.Ythcjlohdfcdloaa
open Go.RowKit

theorem RefL.synced {w : World} {S : Nat → Prop} {db : Nat} {sv qv : Value} {am : Bool} {x y z : Int} {D : Dk} (h : RefL w S db sv qv am x y z D) :
    RefAt (w.setCell ⟨db, 1, none⟩ (.slice none 0 0)) S db { D with q := [] } ∧ Touch S w (w.setCell ⟨db, 1, none⟩ (.slice none 0 0)) := by
  have t : Touch (fun k => k = db) w (w.setCell ⟨db, 1, none⟩ (.slice none 0 0)) := (Touch.refl (fun k => k = db) w).setCell (p := ⟨db, 1, none⟩) (.inr rfl) _
  have hr := h.rows t
  exact ⟨⟨sv, .slice none 0 0, am, x, y, z, h.main.set_ 1 _, hr.1, World.ownsRow_nil _ _ _ _, h.alarm, h.fits, h.sdb, h.sst, by simp [Value.ownBlock], ⟨h.inv.lo, h.inv.hi, h.inv.sec, by simp, h.inv.alarm, fun ho => ⟨rfl, (h.inv.quiet ho).2⟩⟩⟩, t.mono fun k _ e => by rw [e]; exact h.sdb⟩

set_option maxHeartbeats 400000 in
theorem rsync_off (w : World) (S : Nat → Prop) (db : Nat) (D : Dk) (hD : RefAt w S db D) (ho : D.off = true) :
    Calls Try.prog 34 #[.pointer (some ⟨db, 0, none⟩)] w (RPost S w db D.sync.1 (.int .i64 D.sync.2)) := by
  have e : D.sync = (D, 28) := by unfold Dk.sync; rw [ho]; rfl
  rw [e]
  have HD := Lib.hid hD
  obtain ⟨sv, qv, am, x, y, z, h⟩ := hD
  have hc2 := h.main.cell 2
  have hlt := h.main.lt
  rw [ho] at hc2
  clear h ho e
  go_enter Try.func34, Try.ntmps34
  go_wp2
  go_ret
  exact .of HD.out (Touch.refl _ _)

set_option maxHeartbeats 400000 in
theorem rsync_cut (w : World) (S : Nat → Prop) (db : Nat) (D : Dk) (hD : RefAt w S db D) (ho : D.off = false) (hq : D.q.length ≤ 1000000) (h0 : D.count.2 ≠ 0) :
    Calls Try.prog 34 #[.pointer (some ⟨db, 0, none⟩)] w (RPost S w db D.sync.1 (.int .i64 D.sync.2)) := by
  have HC := Lib.hid (rcount_any w S db D hD hq)
  have h28 : D.count.2 = 28 := by
    unfold Dk.count at h0 ⊢
    split
    · rename_i hal; simp [hal] at h0
    · rename_i a b c hal
      split
      · rename_i ha; simp [hal, ha] at h0
      · rfl
  have e : D.sync = D.count := by unfold Dk.sync; rw [ho, if_neg h0]; rfl
  rw [e]
  obtain ⟨sv, qv, am, x, y, z, h⟩ := hD
  have hc2 := h.main.cell 2
  have hlt := h.main.lt
  rw [ho] at hc2
  rw [h28] at HC ⊢
  clear h ho hq h0 e h28
  go_enter Try.func34, Try.ntmps34
  go_wp2_with fail
  refine HC.out.mono ?_
  rintro e w1 ⟨rfl, hd1, ht1⟩
  go_wp2
  go_ret
  exact ⟨rfl, hd1, ht1⟩

set_option maxHeartbeats 400000 in
theorem rsync_on (w : World) (S : Nat → Prop) (db : Nat) (D : Dk) (hD : RefAt w S db D) (ho : D.off = false) (hq : D.q.length ≤ 1000000) (h0 : D.count.2 = 0) :
    Calls Try.prog 34 #[.pointer (some ⟨db, 0, none⟩)] w (RPost S w db D.sync.1 (.int .i64 D.sync.2)) := by
  have HC := Lib.hid (rcount_any w S db D hD hq)
  have e : D.sync = ({ D.count.1 with st := Dk.settle D.count.1.st D.count.1.q, q := [] }, 0) := by unfold Dk.sync; rw [ho, if_pos h0]; rfl
  rw [e]
  have hql : D.count.1.q.length ≤ 1000000 := by rw [(Dk.count_off D ho h0).2.2]; exact hq
  obtain ⟨sv, qv, am, x, y, z, h⟩ := hD
  have hc2 := h.main.cell 2
  have hlt := h.main.lt
  rw [ho] at hc2
  rw [h0] at HC
  have HQ := Lib.hid hql
  clear h ho hq h0 hql e
  go_enter Try.func34, Try.ntmps34
  go_wp2_with fail
  refine HC.out.mono ?_
  rintro e w1 ⟨rfl, hd1, ht1⟩
  have HT1 := Lib.hid ht1
  obtain ⟨sv, qv, am, x, y, z, h⟩ := hd1
  obtain ⟨A, L, c, rfl, hL, hLc, hcm⟩ := h.queue_slice
  have hm := h.main
  have d0 := hm.cell 0
  have d1 := hm.cell 1
  have d2 := hm.cell 2
  have d3 := hm.cell 3
  have d4 := hm.cell 4
  have d5 := hm.cell 5
  have d6 := hm.cell 6
  have df0 := hm.frozen 0
  have df1 := hm.frozen 1
  have df2 := hm.frozen 2
  have df3 := hm.frozen 3
  have df4 := hm.frozen 4
  have df5 := hm.frozen 5
  have df6 := hm.frozen 6
  have dlt := hm.lt
  have HL := Lib.hid hL
  have H1 := Lib.hid h
  have hL9 : L ≤ 1000000 := by have := HL.out; have := HQ.out; omega
  clear h hL ht1 hm
  go_wp2_with fail
  refine (rsettle_any w1 _ db sv _ am x y z D.count.1 L H1.out (by have := HL.out; omega) HQ.out).mono ?_
  rintro e w2 ⟨rfl, hL2, ht2⟩
  have hm := hL2.main
  have f0 := hm.cell 0
  have f1 := hm.cell 1
  have f2 := hm.cell 2
  have f3 := hm.cell 3
  have f4 := hm.cell 4
  have f5 := hm.cell 5
  have f6 := hm.cell 6
  have ff0 := hm.frozen 0
  have ff1 := hm.frozen 1
  have ff2 := hm.frozen 2
  have ff3 := hm.frozen 3
  have ff4 := hm.frozen 4
  have ff5 := hm.frozen 5
  have ff6 := hm.frozen 6
  have flt := hm.lt
  have H2 := Lib.hid hL2
  have HT2 := Lib.hid ht2
  clear hL2 ht2 hm
  go_wp2
  go_ret
  have hf := H2.out.synced
  rw [HL.out, List.take_length] at hf
  refine ⟨rfl, hf.1.mono fun k hk => ?_, ?_⟩
  · rcases hk with hk | hk
    · exact .inl hk
    · refine .inr ⟨hk.1, Nat.lt_of_lt_of_le hk.2 ?_⟩
      have := (HT2.out.size)
      have h2 := hf.2.size
      omega
  · exact (HT1.out.trans (HT2.out.mono fun k _ e => H1.out.sst k e) fun k hk hs => by
      rcases hs with hs | hs
      · exact hs
      · omega).trans hf.2 fun k hk hs => by
      rcases hs with hs | hs
      · exact hs
      · omega

theorem rsync_any (w : World) (S : Nat → Prop) (db : Nat) (D : Dk) (hD : RefAt w S db D) (hq : D.q.length ≤ 1000000) :
    Calls Try.prog 34 #[.pointer (some ⟨db, 0, none⟩)] w (RPost S w db D.sync.1 (.int .i64 D.sync.2)) := by
  by_cases ho : D.off = true
  · exact rsync_off w S db D hD ho
  · simp only [Bool.not_eq_true] at ho
    by_cases h0 : D.count.2 = 0
    · exact rsync_on w S db D hD ho hq h0
    · exact rsync_cut w S db D hD ho hq h0
end Go.Proofs.Ythcjlohdfcdloaa
