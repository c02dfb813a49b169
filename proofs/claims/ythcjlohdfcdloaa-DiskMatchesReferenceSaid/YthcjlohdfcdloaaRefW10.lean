/- The walk of 'want'. -/
import Derived.Test.YthcjlohdfcdloaaLawW2
import Derived.Test.YthcjlohdfcdloaaRefW9
set_option linter.unusedVariables false
set_option linter.unusedSimpArgs false
namespace Go.Proofs.Ythcjlohdfcdloaa
open Go.RowKit

theorem RPost.later {S : Nat → Prop} {w w1 : World} {db : Nat} {D : Dk} {v : Value} {e : Ending} {w' : World} (hb : Touch S w w1) (h : RPost S w1 db D v e w') : e = .returned v ∧ RefAt w' (Plus S w w') db D ∧ Touch S w w' :=
  ⟨h.1, h.2.1.mono fun k hk => by
    rcases hk with hk | hk
    · exact .inl hk
    · exact .inr ⟨Nat.le_trans hb.size hk.1, hk.2⟩, hb.trans h.2.2 fun _ _ => id⟩

set_option maxHeartbeats 400000 in
theorem want_0 (w : World) (S : Nat → Prop) (db : Nat) (D : Dk) (a : Ac) (hw : a.Wf) (hk : a.kind = 0) (hD : RefAt w S db D) (hq : D.q.length < 1000000) :
    Calls Try.prog 17 #[.pointer (some ⟨db, 0, none⟩), .agg a.cells] w (RPost S w db (D.act a).1 (.tuple #[.string (D.act a).2.1, .int .i64 (D.act a).2.2])) := by
  have HE := Lib.hid (show D.act a = ((D.write a.sector a.txt).1, Dk.str [], (D.write a.sector a.txt).2) by unfold Dk.act; rw [if_pos hk])
  have HS := Lib.hid (txt_size a hw)
  have HD := Lib.hid hD
  have HT := fun W => text_any W a hw.2.2.2.1
  have HH := Lib.hid HT
  clear HT hD hw
  obtain ⟨s, hs⟩ : ∃ s, a.txt = s := ⟨_, rfl⟩
  have hlt := HD.out.lt
  rw [hs] at HE HS HH
  clear hs
  unfold Ac.cells at HH ⊢
  generalize D.act a = R at HE ⊢
  obtain ⟨kind, sector, bytes, t, odd, after⟩ := a
  simp only at hk HH HE ⊢
  subst hk
  have HW := Lib.hid (fun W (h : RefAt W S db D) => rwrite_any W S db D sector s h HS.out hq)
  go_enter Try.func17, Try.ntmps17
  go_wp2_with fail
  go_region_with (first
    | (go_at_call 24; refine (HH.out _).mono ?_; rintro e w1 ⟨rfl, hb⟩; have HB := Lib.hid hb; have hL := (Touch.of_new (S := fun _ => False) hb).blk ((Blk.new w 34 #[.int .i64 0, .int .i64 sector, .int .i64 bytes, .string t, .bool odd, .int .i64 after]).drew) id; have c1 := hL.cell 1; have cl := hL.lt; clear hL hb)
    | (go_at_call 33; refine (HW.out _ ((HD.out.below ((Below.refl _ _).alloc (Nat.le_refl _) _)).below (((Below.refl _ _).drew).trans HB.out))).mono ?_; rintro e w2 ⟨rfl, hd2, ht2⟩; have HD2 := Lib.hid hd2; have HT2 := Lib.hid ht2; clear hd2 ht2))
  all_goals
    go_wp2
    go_ret2
    rw [HE.out]
    have tt := Touch.of_new (S := S) (((Below.refl w.heap.size w).alloc (Nat.le_refl _) (.cells #[.int .i64 0, .int .i64 sector, .int .i64 bytes, .string t, .bool odd, .int .i64 after] 34)).drew.trans (HB.out.mono (by simp)))
    exact RPost.later tt ⟨rfl, HD2.out, HT2.out⟩

set_option maxHeartbeats 400000 in
theorem want_2 (w : World) (S : Nat → Prop) (db : Nat) (D : Dk) (a : Ac) (hw : a.Wf) (hk : a.kind = 2) (hD : RefAt w S db D) (hq : D.q.length < 1000000) :
    Calls Try.prog 17 #[.pointer (some ⟨db, 0, none⟩), .agg a.cells] w (RPost S w db (D.act a).1 (.tuple #[.string (D.act a).2.1, .int .i64 (D.act a).2.2])) := by
  have HE := Lib.hid (show D.act a = (D.sync.1, Dk.str [], D.sync.2) by unfold Dk.act; simp [hk])
  have HD := Lib.hid hD
  have HW := Lib.hid hw
  clear hD hw
  unfold Ac.cells
  generalize D.act a = R at HE ⊢
  obtain ⟨kind, sector, bytes, t, odd, after⟩ := a
  simp only at hk HE ⊢
  subst hk
  have hb0 : Below w.heap.size w (w.alloc (.cells #[.int .i64 2, .int .i64 sector, .int .i64 bytes, .string t, .bool odd, .int .i64 after] 34)) := (Below.refl _ _).alloc (Nat.le_refl _) _
  have HC := Lib.hid (rsync_any _ S db D (HD.out.below hb0) (by omega))
  have HB0 := Lib.hid hb0
  clear hb0
  go_enter Try.func17, Try.ntmps17
  go_wp2_with fail
  refine HC.out.mono ?_
  rintro e w1 ⟨rfl, hd1, ht1⟩
  have HD1 := Lib.hid hd1
  have HT1 := Lib.hid ht1
  clear hd1 ht1 HC
  go_wp2
  go_ret2
  rw [HE.out]
  exact RPost.later (Touch.of_new HB0.out) ⟨rfl, HD1.out, HT1.out⟩

set_option maxHeartbeats 400000 in
theorem want_3 (w : World) (S : Nat → Prop) (db : Nat) (D : Dk) (a : Ac) (hw : a.Wf) (hk : a.kind = 3) (hD : RefAt w S db D) (hq : D.q.length < 1000000) :
    Calls Try.prog 17 #[.pointer (some ⟨db, 0, none⟩), .agg a.cells] w (RPost S w db (D.act a).1 (.tuple #[.string (D.act a).2.1, .int .i64 (D.act a).2.2])) := by
  have HE := Lib.hid (show D.act a = (D.fail a.sector a.bytes, Dk.str [], 0) by unfold Dk.act; simp [hk])
  have HD := Lib.hid hD
  have HW := Lib.hid hw
  clear hD hw
  unfold Ac.cells
  generalize D.act a = R at HE ⊢
  obtain ⟨kind, sector, bytes, t, odd, after⟩ := a
  simp only at hk HE ⊢
  subst hk
  have hb0 : Below w.heap.size w (w.alloc (.cells #[.int .i64 3, .int .i64 sector, .int .i64 bytes, .string t, .bool odd, .int .i64 after] 34)) := (Below.refl _ _).alloc (Nat.le_refl _) _
  have HC := Lib.hid (rfail_any _ S db D sector bytes (HD.out.below hb0) (by omega))
  have HB0 := Lib.hid hb0
  clear hb0
  go_enter Try.func17, Try.ntmps17
  go_wp2_with fail
  refine HC.out.mono ?_
  rintro e w1 ⟨rfl, hd1, ht1⟩
  have HD1 := Lib.hid hd1
  have HT1 := Lib.hid ht1
  clear hd1 ht1 HC
  go_wp2
  go_ret2
  rw [HE.out]
  exact RPost.later (Touch.of_new HB0.out) ⟨rfl, HD1.out, HT1.out⟩

set_option maxHeartbeats 400000 in
theorem want_4 (w : World) (S : Nat → Prop) (db : Nat) (D : Dk) (a : Ac) (hw : a.Wf) (hk : a.kind = 4) (hD : RefAt w S db D) (hq : D.q.length < 1000000) :
    Calls Try.prog 17 #[.pointer (some ⟨db, 0, none⟩), .agg a.cells] w (RPost S w db (D.act a).1 (.tuple #[.string (D.act a).2.1, .int .i64 (D.act a).2.2])) := by
  have HE := Lib.hid (show D.act a = (D.start, Dk.str [], 0) by unfold Dk.act; simp [hk])
  have HD := Lib.hid hD
  have HW := Lib.hid hw
  clear hD hw
  unfold Ac.cells
  generalize D.act a = R at HE ⊢
  obtain ⟨kind, sector, bytes, t, odd, after⟩ := a
  simp only at hk HE ⊢
  subst hk
  have hb0 : Below w.heap.size w (w.alloc (.cells #[.int .i64 4, .int .i64 sector, .int .i64 bytes, .string t, .bool odd, .int .i64 after] 34)) := (Below.refl _ _).alloc (Nat.le_refl _) _
  have HC := Lib.hid (rstart_any _ S db D (HD.out.below hb0))
  have HB0 := Lib.hid hb0
  clear hb0
  go_enter Try.func17, Try.ntmps17
  go_wp2_with fail
  refine HC.out.mono ?_
  rintro e w1 ⟨rfl, hd1, ht1⟩
  have HD1 := Lib.hid hd1
  have HT1 := Lib.hid ht1
  clear hd1 ht1 HC
  go_wp2
  go_ret2
  rw [HE.out]
  exact RPost.later (Touch.of_new HB0.out) ⟨rfl, HD1.out, HT1.out⟩

set_option maxHeartbeats 400000 in
theorem want_5 (w : World) (S : Nat → Prop) (db : Nat) (D : Dk) (a : Ac) (hw : a.Wf) (hk : a.kind = 5) (hD : RefAt w S db D) (hq : D.q.length < 1000000) :
    Calls Try.prog 17 #[.pointer (some ⟨db, 0, none⟩), .agg a.cells] w (RPost S w db (D.act a).1 (.tuple #[.string (D.act a).2.1, .int .i64 (D.act a).2.2])) := by
  have HE := Lib.hid (show D.act a = (D.arm a.after a.sector a.bytes, Dk.str [], 0) by unfold Dk.act; simp [hk])
  have HD := Lib.hid hD
  have HW := Lib.hid hw
  clear hD hw
  unfold Ac.cells
  generalize D.act a = R at HE ⊢
  obtain ⟨kind, sector, bytes, t, odd, after⟩ := a
  simp only at hk HE ⊢
  subst hk
  have hb0 : Below w.heap.size w (w.alloc (.cells #[.int .i64 5, .int .i64 sector, .int .i64 bytes, .string t, .bool odd, .int .i64 after] 34)) := (Below.refl _ _).alloc (Nat.le_refl _) _
  have HC := Lib.hid (rarm_any _ S db D after sector bytes (HD.out.below hb0) HW.out.2.2.2.2 HW.out.2.1 HW.out.2.2.1)
  have HB0 := Lib.hid hb0
  clear hb0
  go_enter Try.func17, Try.ntmps17
  go_wp2_with fail
  refine HC.out.mono ?_
  rintro e w1 ⟨rfl, hd1, ht1⟩
  have HD1 := Lib.hid hd1
  have HT1 := Lib.hid ht1
  clear hd1 ht1 HC
  go_wp2
  go_ret2
  rw [HE.out]
  exact RPost.later (Touch.of_new HB0.out) ⟨rfl, HD1.out, HT1.out⟩

set_option maxHeartbeats 400000 in
theorem want_6 (w : World) (S : Nat → Prop) (db : Nat) (D : Dk) (a : Ac) (hw : a.Wf) (hk : a.kind = 6) (hD : RefAt w S db D) (hq : D.q.length < 1000000) :
    Calls Try.prog 17 #[.pointer (some ⟨db, 0, none⟩), .agg a.cells] w (RPost S w db (D.act a).1 (.tuple #[.string (D.act a).2.1, .int .i64 (D.act a).2.2])) := by
  have HE := Lib.hid (show D.act a = (D.rot a.sector a.bytes a.after, Dk.str [], 0) by unfold Dk.act; simp [hk])
  have HD := Lib.hid hD
  have HW := Lib.hid hw
  clear hD hw
  unfold Ac.cells
  generalize D.act a = R at HE ⊢
  obtain ⟨kind, sector, bytes, t, odd, after⟩ := a
  simp only at hk HE ⊢
  subst hk
  have hb0 : Below w.heap.size w (w.alloc (.cells #[.int .i64 6, .int .i64 sector, .int .i64 bytes, .string t, .bool odd, .int .i64 after] 34)) := (Below.refl _ _).alloc (Nat.le_refl _) _
  have HC := Lib.hid (rrot_any _ S db D sector bytes after (HD.out.below hb0))
  have HB0 := Lib.hid hb0
  clear hb0
  go_enter Try.func17, Try.ntmps17
  go_wp2_with fail
  refine HC.out.mono ?_
  rintro e w1 ⟨rfl, hd1, ht1⟩
  have HD1 := Lib.hid hd1
  have HT1 := Lib.hid ht1
  clear hd1 ht1 HC
  go_wp2
  go_ret2
  rw [HE.out]
  exact RPost.later (Touch.of_new HB0.out) ⟨rfl, HD1.out, HT1.out⟩

set_option maxHeartbeats 400000 in
theorem want_1 (w : World) (S : Nat → Prop) (db : Nat) (D : Dk) (a : Ac) (hw : a.Wf) (hk : a.kind = 1) (hD : RefAt w S db D) (hq : D.q.length < 1000000) :
    Calls Try.prog 17 #[.pointer (some ⟨db, 0, none⟩), .agg a.cells] w (RPost S w db (D.act a).1 (.tuple #[.string (D.act a).2.1, .int .i64 (D.act a).2.2])) := by
  have HE := Lib.hid (show D.act a = (D, (D.read a.sector).1, (D.read a.sector).2) by unfold Dk.act; simp [hk])
  have HD := Lib.hid hD
  have HW := Lib.hid hw
  clear hD hw
  unfold Ac.cells
  generalize D.act a = R at HE ⊢
  obtain ⟨kind, sector, bytes, t, odd, after⟩ := a
  simp only at hk HE ⊢
  subst hk
  have hb0 : Below w.heap.size w (w.alloc (.cells #[.int .i64 1, .int .i64 sector, .int .i64 bytes, .string t, .bool odd, .int .i64 after] 34)) := (Below.refl _ _).alloc (Nat.le_refl _) _
  have HC := Lib.hid (rread_any _ S db D sector (HD.out.below hb0) (by omega))
  have HB0 := Lib.hid hb0
  clear hb0
  go_enter Try.func17, Try.ntmps17
  go_wp2_with fail
  refine HC.out.mono ?_
  rintro e w1 ⟨rfl, rfl⟩
  clear HC
  go_wp2
  go_ret2
  rw [HE.out]
  exact RPost.of (HD.out.below HB0.out) (Touch.of_new HB0.out)

set_option maxHeartbeats 400000 in
theorem want_7 (w : World) (S : Nat → Prop) (db : Nat) (D : Dk) (a : Ac) (hw : a.Wf) (hk : a.kind = 7) (hD : RefAt w S db D) (hq : D.q.length < 1000000) :
    Calls Try.prog 17 #[.pointer (some ⟨db, 0, none⟩), .agg a.cells] w (RPost S w db (D.act a).1 (.tuple #[.string (D.act a).2.1, .int .i64 (D.act a).2.2])) := by
  have HE := Lib.hid (show D.act a = (D, D.raw, 0) by unfold Dk.act; simp [hk])
  have HD := Lib.hid hD
  have HW := Lib.hid hw
  clear hD hw
  unfold Ac.cells
  generalize D.act a = R at HE ⊢
  obtain ⟨kind, sector, bytes, t, odd, after⟩ := a
  simp only at hk HE ⊢
  subst hk
  have hb0 : Below w.heap.size w (w.alloc (.cells #[.int .i64 7, .int .i64 sector, .int .i64 bytes, .string t, .bool odd, .int .i64 after] 34)) := (Below.refl _ _).alloc (Nat.le_refl _) _
  have HC := Lib.hid (rraw_any _ S db D (HD.out.below hb0))
  have HB0 := Lib.hid hb0
  clear hb0
  go_enter Try.func17, Try.ntmps17
  go_wp2_with fail
  refine HC.out.mono ?_
  rintro e w1 ⟨rfl, hb1⟩
  have HB1 := Lib.hid hb1
  clear hb1 HC
  go_wp2
  go_ret2
  rw [HE.out]
  have hb := bthen HB0.out HB0.out.size HB1.out
  exact RPost.of (HD.out.below hb) (Touch.of_new hb)

set_option maxHeartbeats 400000 in
theorem want_else (w : World) (S : Nat → Prop) (db : Nat) (D : Dk) (a : Ac) (hw : a.Wf) (hk : a.kind < 0 ∨ 7 < a.kind) (hD : RefAt w S db D) :
    Calls Try.prog 17 #[.pointer (some ⟨db, 0, none⟩), .agg a.cells] w (RPost S w db (D.act a).1 (.tuple #[.string (D.act a).2.1, .int .i64 (D.act a).2.2])) := by
  have HE := Lib.hid (show D.act a = (D, Dk.str [], 0) by
    unfold Dk.act
    rw [if_neg (by omega), if_neg (by omega), if_neg (by omega), if_neg (by omega), if_neg (by omega), if_neg (by omega), if_neg (by omega), if_neg (by omega)])
  have HD := Lib.hid hD
  clear hD hw
  unfold Ac.cells
  generalize D.act a = R at HE ⊢
  obtain ⟨kind, sector, bytes, t, odd, after⟩ := a
  simp only at hk HE ⊢
  have b0 : (kind == 0) = false := by simp; omega
  have b1 : (kind == 1) = false := by simp; omega
  have b2 : (kind == 2) = false := by simp; omega
  have b3 : (kind == 3) = false := by simp; omega
  have b4 : (kind == 4) = false := by simp; omega
  have b5 : (kind == 5) = false := by simp; omega
  have b6 : (kind == 6) = false := by simp; omega
  have b7 : (kind == 7) = false := by simp; omega
  clear hk
  go_enter Try.func17, Try.ntmps17
  go_wp2
  go_ret2
  rw [HE.out]
  have hb0 := (Below.refl w.heap.size w).alloc (Nat.le_refl _) (.cells #[.int .i64 kind, .int .i64 sector, .int .i64 bytes, .string t, .bool odd, .int .i64 after] 34)
  exact RPost.of (HD.out.below hb0) (Touch.of_new hb0)

theorem want_any (w : World) (S : Nat → Prop) (db : Nat) (D : Dk) (a : Ac) (hw : a.Wf) (hD : RefAt w S db D) (hq : D.q.length < 1000000) :
    Calls Try.prog 17 #[.pointer (some ⟨db, 0, none⟩), .agg a.cells] w (RPost S w db (D.act a).1 (.tuple #[.string (D.act a).2.1, .int .i64 (D.act a).2.2])) := by
  by_cases h0 : a.kind = 0
  · exact want_0 w S db D a hw h0 hD hq
  by_cases h1 : a.kind = 1
  · exact want_1 w S db D a hw h1 hD hq
  by_cases h2 : a.kind = 2
  · exact want_2 w S db D a hw h2 hD hq
  by_cases h3 : a.kind = 3
  · exact want_3 w S db D a hw h3 hD hq
  by_cases h4 : a.kind = 4
  · exact want_4 w S db D a hw h4 hD hq
  by_cases h5 : a.kind = 5
  · exact want_5 w S db D a hw h5 hD hq
  by_cases h6 : a.kind = 6
  · exact want_6 w S db D a hw h6 hD hq
  by_cases h7 : a.kind = 7
  · exact want_7 w S db D a hw h7 hD hq
  · exact want_else w S db D a hw (by omega) hD
end Go.Proofs.Ythcjlohdfcdloaa
