/- Walks of the disk's functions, part 5: Sync, Arm. -/
import Derived.Test.YthhkadeiplbdkaaDoorDiskW4
set_option linter.unusedVariables false
set_option linter.unusedSimpArgs false
namespace Go.Proofs.YthhkadeiplbdkaaDoor
open Go.RowKit

theorem DiskL.synced {S : Nat → Prop} {w : World} {db sb : Nat} {qv : Value} {ap : Option Addr} {D : Dk} (h : DiskL w S db sb qv ap D) :
    DiskAt (w.setCell ⟨db, 1, none⟩ (.slice none 0 0)) S db { D with q := [] } ∧ Touch S w (w.setCell ⟨db, 1, none⟩ (.slice none 0 0)) := by
  have n1 := h.main.ne_ h.stab (by decide)
  have t : Touch (fun k => k = db) w (w.setCell ⟨db, 1, none⟩ (.slice none 0 0)) := (Touch.refl (fun k => k = db) w).setCell (p := ⟨db, 1, none⟩) (.inr rfl) _
  refine ⟨⟨sb, .slice none 0 0, ap, ?_, ?_, World.ownsRow_nil _ _ _ _, ?_, h.sdb, h.ssb, by simp [Value.ownBlock], ⟨h.inv.lo, h.inv.hi, h.inv.sec, by simp, h.inv.alarm, fun ho => ⟨rfl, (h.inv.quiet ho).2⟩⟩⟩, t.mono fun k _ e => by rw [e]; exact h.sdb⟩
  · exact h.main.set_ 1 _
  · exact t.blk h.stab n1.symm
  · have ha := h.alarm
    match hal : D.al, ha with
    | none, ha => exact ha
    | some (a, b, c), ⟨ab, e, hb, hs⟩ => exact ⟨ab, e, t.blk hb (h.main.ne_ hb (by decide)).symm, hs⟩

set_option maxRecDepth 100000 in
set_option maxHeartbeats 400000 in
theorem sync_nil (w : World) :
    Calls Tryd.prog 58 #[.pointer none] w fun e w' => e = .returned (.int .i64 1) ∧ w = w' := by
  go_enter Tryd.func58, Tryd.ntmps58
  go_wp2
  go_ret
  exact ⟨rfl, rfl⟩

set_option maxRecDepth 100000 in
set_option maxHeartbeats 400000 in
theorem sync_off (w : World) (S : Nat → Prop) (db : Nat) (D : Dk) (hD : DiskAt w S db D) (ho : D.off = true) :
    Calls Tryd.prog 58 #[.pointer (some ⟨db, 0, none⟩)] w (DPost S w db D.sync.1 (.int .i64 D.sync.2)) := by
  have HD := Lib.hid hD
  have HE := Lib.hid (show D.sync = (D, 28) by unfold Dk.sync; rw [ho]; rfl)
  obtain ⟨sb, qv, ap, h⟩ := hD
  have hc2 := h.main.cell 2
  rw [ho] at hc2
  clear h ho
  go_enter Tryd.func58, Tryd.ntmps58
  go_wp2
  go_ret
  rw [HE.out]
  exact DPost.of HD.out (Touch.refl _ _)

set_option maxRecDepth 100000 in
set_option maxHeartbeats 400000 in
theorem sync_cut (w : World) (S : Nat → Prop) (db : Nat) (D : Dk) (hD : DiskAt w S db D) (ho : D.off = false) (hq : D.q.length ≤ 1000000) (h0 : D.count.2 ≠ 0) :
    Calls Tryd.prog 58 #[.pointer (some ⟨db, 0, none⟩)] w (DPost S w db D.sync.1 (.int .i64 D.sync.2)) := by
  have HC := Lib.hid (count_any w S db D hD ho hq)
  have HE := Lib.hid (show D.sync = D.count by unfold Dk.sync; rw [ho, if_neg h0]; rfl)
  obtain ⟨sb, qv, ap, h⟩ := hD
  have hc2 := h.main.cell 2
  rw [ho] at hc2
  obtain ⟨x, hx⟩ : ∃ x, D.count.2 = x := ⟨_, rfl⟩
  rw [hx] at h0
  have h1 : (x != 0) = true := by simpa using h0
  have h2 : (x == 0) = false := by simpa using h0
  have HX := Lib.hid hx
  clear h ho hq h0 hx
  go_enter Tryd.func58, Tryd.ntmps58
  go_wp2_with fail
  refine HC.out.mono ?_
  rintro e w1 ⟨rfl, hd1, ht1⟩
  rw [HX.out]
  go_wp2
  go_ret
  rw [HE.out, HX.out]
  exact DPost.of hd1 ht1

set_option maxRecDepth 100000 in
set_option maxHeartbeats 400000 in
theorem sync_on (w : World) (S : Nat → Prop) (db : Nat) (D : Dk) (hD : DiskAt w S db D) (ho : D.off = false) (hq : D.q.length ≤ 1000000) (h0 : D.count.2 = 0) :
    Calls Tryd.prog 58 #[.pointer (some ⟨db, 0, none⟩)] w (DPost S w db D.sync.1 (.int .i64 D.sync.2)) := by
  have HC := Lib.hid (count_any w S db D hD ho hq)
  have HE := Lib.hid (show D.sync = ({ D.count.1 with st := Dk.settle D.count.1.st D.count.1.q, q := [] }, 0) by unfold Dk.sync; rw [ho, if_pos h0]; rfl)
  obtain ⟨sb, qv, ap, h⟩ := hD
  have hc2 := h.main.cell 2
  rw [ho] at hc2
  have HX := Lib.hid h0
  have hql : D.count.1.q.length ≤ 1000000 := by rw [(Dk.count_off D ho h0).2.2]; exact hq
  have HQ := Lib.hid hql
  clear h ho hq h0 hql
  go_enter Tryd.func58, Tryd.ntmps58
  go_wp2_with fail
  refine HC.out.mono ?_
  rintro e w1 ⟨rfl, hd1, ht1⟩
  rw [HX.out]
  have HT1 := Lib.hid ht1
  obtain ⟨sb1, qv1, ap1, h1⟩ := hd1
  obtain ⟨A, L, c, rfl, hL, hLc, hcm⟩ := h1.queue_slice
  have d0 := h1.main.cell 0
  have d1 := h1.main.cell 1
  have d2 := h1.main.cell 2
  have d3 := h1.main.cell 3
  have df0 := h1.main.frozen 0
  have df1 := h1.main.frozen 1
  have df2 := h1.main.frozen 2
  have df3 := h1.main.frozen 3
  have dlt := h1.main.lt
  have HL := Lib.hid hL
  have H1 := Lib.hid h1
  clear h1 hL ht1
  go_wp2_with fail
  refine (settle_any w1 S db sb1 A L c ap1 D.count.1 L H1.out (by have := HL.out; omega) HQ.out).mono ?_
  rintro e w2 ⟨rfl, hL2, ht2⟩
  have d0 := hL2.main.cell 0
  have d1 := hL2.main.cell 1
  have d2 := hL2.main.cell 2
  have d3 := hL2.main.cell 3
  have df0 := hL2.main.frozen 0
  have df1 := hL2.main.frozen 1
  have df2 := hL2.main.frozen 2
  have df3 := hL2.main.frozen 3
  have dlt := hL2.main.lt
  have H2 := Lib.hid hL2
  have HT2 := Lib.hid ht2
  clear hL2 ht2
  go_wp2
  go_ret
  rw [HE.out]
  have hf := H2.out.synced
  rw [HL.out, List.take_length] at hf
  exact DPost.of hf.1 (((HT1.out).trans HT2.out fun k _ e => by rw [e]; exact H1.out.ssb).trans hf.2 fun _ _ => id)

theorem sync_any (w : World) (S : Nat → Prop) (db : Nat) (D : Dk) (hD : DiskAt w S db D) (hq : D.q.length ≤ 1000000) :
    Calls Tryd.prog 58 #[.pointer (some ⟨db, 0, none⟩)] w (DPost S w db D.sync.1 (.int .i64 D.sync.2)) := by
  by_cases ho : D.off = true
  · exact sync_off w S db D hD ho
  · simp only [Bool.not_eq_true] at ho
    by_cases h0 : D.count.2 = 0
    · exact sync_on w S db D hD ho hq h0
    · exact sync_cut w S db D hD ho hq h0

theorem write_any (w : World) (S : Nat → Prop) (db : Nat) (D : Dk) (i : Int) (s : ByteArray) (hD : DiskAt w S db D) (hm : s.size ≤ 9223372036854775807) (hq : D.q.length < 1000000) :
    Calls Tryd.prog 21 #[.pointer (some ⟨db, 0, none⟩), .int .i64 i, .string s] w (DPost S w db (D.write i s).1 (.int .i64 (D.write i s).2)) := by
  by_cases ho : D.off = true
  · exact write_off w S db D i s hD ho
  · simp only [Bool.not_eq_true] at ho
    by_cases hv : D.valid i = true
    · by_cases hs : s.size = 64
      · exact write_yes w S db D i s hD ho hv hs hq
      · exact write_size w S db D i s hD ho hv hs hm
    · exact write_no w S db D i s hD ho (by simpa using hv)

theorem fail_any (w : World) (S : Nat → Prop) (db : Nat) (D : Dk) (a b : Int) (hD : DiskAt w S db D) (hq : D.q.length ≤ 1000000) :
    Calls Tryd.prog 13 #[.pointer (some ⟨db, 0, none⟩), .int .i64 a, .int .i64 b] w (DPost S w db (D.fail a b) (.tuple #[])) := by
  by_cases ho : D.off = true
  · refine (fail_off w S db D a b hD ho).mono ?_
    rintro e w' ⟨rfl, rfl⟩
    rw [show D.fail a b = D by unfold Dk.fail; rw [ho]; rfl]
    exact DPost.of hD (Touch.refl _ _)
  · refine (fail_on w S db D a b hD (by simpa using ho) hq).mono ?_
    rintro e w' ⟨rfl, h1, h2⟩
    exact DPost.of h1 h2

theorem start_c (w : World) (S : Nat → Prop) (db : Nat) (D : Dk) (hD : DiskAt w S db D) :
    Calls Tryd.prog 14 #[.pointer (some ⟨db, 0, none⟩)] w (DPost S w db D.start (.tuple #[])) := by
  refine (start_any w S db D hD).mono ?_
  rintro e w' ⟨rfl, h1, h2⟩
  exact DPost.of h1 h2

/-! Arm -/
theorem DiskL.armed {S : Nat → Prop} {w w2 : World} {db sb : Nat} {qv : Value} {ap : Option Addr} {D : Dk} (h : DiskL w S db sb qv ap D) (ho : D.off = false) (a b c : Int) (h0 : 0 ≤ a) (ha : Dk.i64 a) (hb : Dk.i64 b) (hc : Dk.i64 c) {ab : Nat}
    (t : Touch (fun k => k = db) w w2) (hm : Blk w2 db 55 #[.slice (some ⟨sb, 0, none⟩) (64 * D.st.length) (64 * D.st.length), qv, .bool D.off, .pointer (some ⟨ab, 0, none⟩)]) (hab : Blk w2 ab 88 #[.int .i64 a, .int .i64 b, .int .i64 c]) (hge : w.heap.size ≤ ab) :
    DiskAt w2 (Plus S w w2) db { D with al := some (a, b, c) } := by
  have n1 := h.main.ne_ h.stab (by decide)
  have n2 := own_blk_ne h.queue h.main (by decide)
  refine ⟨sb, qv, some ⟨ab, 0, none⟩, ?_, ?_, ?_, ⟨ab, rfl, hab, .inr ⟨hge, hab.lt⟩⟩, .inl h.sdb, .inl h.ssb, fun k hk => .inl (h.sq k hk), ?_⟩
  · exact hm
  · exact t.blk h.stab n1.symm
  · exact t.own h.queue fun k hk e => n2 (by rw [hk, e])
  · have := Dk.arm_inv h.inv a b c ha hb hc
    unfold Dk.arm at this
    rw [if_neg (by simp [ho]), if_pos h0] at this
    exact this

set_option maxRecDepth 100000 in
set_option maxHeartbeats 400000 in
theorem arm_nil (w : World) (a b c : Int) :
    Calls Tryd.prog 22 #[.pointer none, .int .i64 a, .int .i64 b, .int .i64 c] w fun e w' => e = .returned (.tuple #[]) ∧ w = w' := by
  go_enter Tryd.func22, Tryd.ntmps22
  go_wp2
  refine bodyPost_ret (results_none rfl _ _ _) rfl ?_
  exact ⟨rfl, rfl⟩

set_option maxRecDepth 100000 in
set_option maxHeartbeats 400000 in
theorem arm_off (w : World) (S : Nat → Prop) (db : Nat) (D : Dk) (a b c : Int) (hD : DiskAt w S db D) (ho : D.off = true) :
    Calls Tryd.prog 22 #[.pointer (some ⟨db, 0, none⟩), .int .i64 a, .int .i64 b, .int .i64 c] w (DPost S w db (D.arm a b c) (.tuple #[])) := by
  have HD := Lib.hid hD
  have HE := Lib.hid (show D.arm a b c = D by unfold Dk.arm; rw [ho]; rfl)
  obtain ⟨sb, qv, ap, h⟩ := hD
  have hc2 := h.main.cell 2
  rw [ho] at hc2
  clear h ho
  go_enter Tryd.func22, Tryd.ntmps22
  go_wp2
  refine bodyPost_ret (results_none rfl _ _ _) rfl ?_
  rw [HE.out]
  exact DPost.of HD.out (Touch.refl _ _)

set_option maxRecDepth 100000 in
set_option maxHeartbeats 400000 in
theorem arm_neg (w : World) (S : Nat → Prop) (db : Nat) (D : Dk) (a b c : Int) (hD : DiskAt w S db D) (ho : D.off = false) (h0 : a < 0) :
    Calls Tryd.prog 22 #[.pointer (some ⟨db, 0, none⟩), .int .i64 a, .int .i64 b, .int .i64 c] w (DPost S w db (D.arm a b c) (.tuple #[])) := by
  have HE := Lib.hid (show D.arm a b c = { D with al := none } by unfold Dk.arm; rw [if_neg (by simp [ho]), if_neg (by omega)])
  have HI := Lib.hid (show D.arm a b c = { D with al := none } → (D.arm a b c).Inv from fun e => by
    rw [e]; exact ⟨hD.inv.lo, hD.inv.hi, hD.inv.sec, hD.inv.pend, by simp, fun h => by simp [ho] at h⟩)
  obtain ⟨sb, qv, ap, h⟩ := hD
  have HO := Lib.hid ho
  have d0 := h.main.cell 0
  have d1 := h.main.cell 1
  have d2 := h.main.cell 2
  have d3 := h.main.cell 3
  have df0 := h.main.frozen 0
  have df1 := h.main.frozen 1
  have df2 := h.main.frozen 2
  have df3 := h.main.frozen 3
  have dlt := h.main.lt
  rw [ho] at d2
  have H := Lib.hid h
  clear h ho
  go_enter Tryd.func22, Tryd.ntmps22
  go_wp2
  go_end0
  have hi := HI.out HE.out
  rw [HE.out] at hi ⊢
  have h := H.out
  have n1 := h.main.ne_ h.stab (by decide)
  have n2 := own_blk_ne h.queue h.main (by decide)
  have t : Touch (fun k => k = db) w (w.setCell ⟨db, 3, none⟩ (.pointer none)) := (Touch.refl (fun k => k = db) w).setCell (p := ⟨db, 3, none⟩) (.inr rfl) _
  exact DPost.of ⟨sb, qv, none, h.main.set_ 3 _, t.blk h.stab n1.symm, t.own h.queue fun k hk e => n2 (by rw [hk, e]), rfl, h.sdb, h.ssb, h.sq, hi⟩ (t.mono fun k _ e => by rw [e]; exact h.sdb)

set_option maxRecDepth 100000 in
set_option maxHeartbeats 400000 in
theorem arm_on (w : World) (S : Nat → Prop) (db : Nat) (D : Dk) (a b c : Int) (hD : DiskAt w S db D) (ho : D.off = false) (h0 : 0 ≤ a) (ha : Dk.i64 a) (hb : Dk.i64 b) (hc : Dk.i64 c) :
    Calls Tryd.prog 22 #[.pointer (some ⟨db, 0, none⟩), .int .i64 a, .int .i64 b, .int .i64 c] w (DPost S w db (D.arm a b c) (.tuple #[])) := by
  have HE := Lib.hid (show D.arm a b c = { D with al := some (a, b, c) } by unfold Dk.arm; rw [if_neg (by simp [ho]), if_pos h0])
  have HAI := Lib.hid (show Dk.i64 a ∧ Dk.i64 b ∧ Dk.i64 c from ⟨ha, hb, hc⟩)
  clear ha hb hc
  obtain ⟨sb, qv, ap, h⟩ := hD
  have HO := Lib.hid ho
  have d0 := h.main.cell 0
  have d1 := h.main.cell 1
  have d2 := h.main.cell 2
  have d3 := h.main.cell 3
  have df0 := h.main.frozen 0
  have df1 := h.main.frozen 1
  have df2 := h.main.frozen 2
  have df3 := h.main.frozen 3
  have dlt := h.main.lt
  rw [ho] at d2
  have H := Lib.hid h
  clear h ho
  go_enter Tryd.func22, Tryd.ntmps22
  go_wp2
  go_end0
  rw [HE.out]
  have h := H.out
  have t : Touch (fun k => k = db) w (((w.setCell ⟨db, 3, none⟩ (.pointer none)).setCell ⟨db, 3, none⟩ (.pointer (some ⟨w.heap.size, 0, none⟩))).alloc (.cells #[.int .i64 a, .int .i64 b, .int .i64 c] 88)) :=
    (((Touch.refl (fun k => k = db) w).setCell (p := ⟨db, 3, none⟩) (.inr rfl) _).setCell (p := ⟨db, 3, none⟩) (.inr rfl) _).alloc _
  have hn := Blk.new ((w.setCell ⟨db, 3, none⟩ (.pointer none)).setCell ⟨db, 3, none⟩ (.pointer (some ⟨w.heap.size, 0, none⟩))) 88 #[.int .i64 a, .int .i64 b, .int .i64 c]
  rw [show ((w.setCell ⟨db, 3, none⟩ (.pointer none)).setCell ⟨db, 3, none⟩ (.pointer (some ⟨w.heap.size, 0, none⟩))).heap.size = w.heap.size by simp [World.setCell]] at hn
  exact ⟨rfl, h.armed HO.out a b c h0 HAI.out.1 HAI.out.2.1 HAI.out.2.2 t (((h.main.set_ 3 _).set_ 3 _).alloc _) hn (Nat.le_refl _), t.mono fun k _ e => by rw [e]; exact h.sdb⟩

theorem arm_any (w : World) (S : Nat → Prop) (db : Nat) (D : Dk) (a b c : Int) (hD : DiskAt w S db D) (ha : Dk.i64 a) (hb : Dk.i64 b) (hc : Dk.i64 c) :
    Calls Tryd.prog 22 #[.pointer (some ⟨db, 0, none⟩), .int .i64 a, .int .i64 b, .int .i64 c] w (DPost S w db (D.arm a b c) (.tuple #[])) := by
  by_cases ho : D.off = true
  · exact arm_off w S db D a b c hD ho
  · simp only [Bool.not_eq_true] at ho
    by_cases h0 : 0 ≤ a
    · exact arm_on w S db D a b c hD ho h0 ha hb hc
    · exact arm_neg w S db D a b c hD ho (by omega)
end Go.Proofs.YthhkadeiplbdkaaDoor
