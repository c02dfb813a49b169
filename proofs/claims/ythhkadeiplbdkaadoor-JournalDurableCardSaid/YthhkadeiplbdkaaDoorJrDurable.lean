/- The walk of JournalDurable. -/
import Derived.Test.YthhkadeiplbdkaaDoorJrL4
set_option linter.unusedVariables false
set_option linter.unusedSimpArgs false
namespace Go.Proofs.YthhkadeiplbdkaaDoor
open Go.RowKit

set_option maxRecDepth 100000 in
set_option maxHeartbeats 4000000 in
theorem journalDurable_walk (w : World) (hE : Env w) (n : Int) (A : Option Addr) (N c : Nat) (l : List Op) (hl : OpsAt w A N l) (wr by_ : Int) :
    Calls Tryd.prog 3 #[.int .i64 n, .slice A N c, .int .i64 wr, .int .i64 by_] w fun e w' => e = .returned (.bool true) ∧ Below w.heap.size w w' := by
  have HE := Lib.hid hE
  have HB := Lib.hid hE.size
  have HL := Lib.hid hl
  clear hE hl
  go_enter Tryd.func3, Tryd.ntmps3
  go_wp2_with fail
  refine (lhead_any w HE.out).mono ?_
  rintro e w1 ⟨rfl, hb⟩
  have HB1 := Lib.hid hb
  have HL1 := Lib.hid (HL.out.below hb)
  clear hb
  go_wp2_with fail
  refine (light_any w1 n A N c l HL1.out).mono ?_
  rintro e w2 ⟨⟨b, rfl, hlt⟩, rfl⟩
  cases b
  · clear hlt
    go_wp2
    go_ret
    exact ⟨rfl, HB1.out⟩
  have HLT := Lib.hid (hlt rfl)
  clear hlt
  by_cases h3 : n < 3
  · go_wp2_with fail
    refine (filled_no w1 (HE.out.new HB1.out) n h3 A N c).mono ?_
    rintro e w3 ⟨⟨d, rfl⟩, hb⟩
    have HB3 := Lib.hid (bthen HB1.out HB1.out.size hb)
    clear hb
    go_wp2
    go_ret
    exact ⟨rfl, HB3.out⟩
  obtain ⟨m, rfl⟩ := Int.eq_ofNat_of_zero_le (show 0 ≤ n by omega)
  have hm3 : 3 ≤ m := by omega
  have hm40 : m ≤ 40 := by have := HLT.out.n; omega
  go_wp2_with fail
  refine (filled_yes w1 (HE.out.new HB1.out) m hm3 A N c l HL1.out HLT.out).mono ?_
  rintro e w3 ⟨db, jb, v, J, D, rfl, hp, hr, ha, hq, hn, hrl, hsz⟩
  obtain ⟨AV, cv, rfl⟩ := row_shape (hp.pick [2, 0, 1] rfl).row.1
  have HP3 := Lib.hid (hp.lift HB1.out HB1.out.size rfl)
  have HR := Lib.hid hr
  have HA := Lib.hid ha
  have HQ := Lib.hid hq
  have HJN : Hid (J.n ≤ 4000 ∧ J.c ≤ 4000 ∧ 3 ≤ J.n) := Lib.hid (by have := hr.c; have := hr.n3; omega)
  have HRL := Lib.hid (show J.recs.length ≤ 100000 by omega)
  have HNM := Lib.hid hn
  clear hp hr ha hq hn hrl hsz
  go_wp2_with fail
  refine (c_records HP3.out HRL.out).mono ?_
  rintro e w4 ⟨v4, rfl, h, _⟩
  obtain ⟨A4, c4, rfl⟩ := row_shape h.row.1
  have H4 := Lib.hid h
  clear h HP3
  go_wp2_with fail
  refine (same_any _ A4 AV c4 cv J.recs J.recs (Strs.of_own H4.out.row.1).2 (Strs.of_own (H4.out.focus 3 (by simp)).row.1).2).mono ?_
  rintro e w5 ⟨rfl, hb⟩
  rw [decide_eq_true (rfl : J.recs = J.recs)]
  have H5 : Hid (Hp w.heap.size w (Th.all [diskT db D, jnT jb db J, rowT (.slice AV J.recs.length cv) J.recs]) w5) := Lib.hid ((H4.out.newer hb).drop.pick [1, 0, 2] rfl)
  clear hb H4
  go_wp2_with fail
  refine (c_disk H5.out (Below.refl _ _) fun S hS => fail_any w5 S db D wr by_ hS (by rw [HQ.out]; simp)).mono ?_
  rintro e w6 ⟨rfl, h, _⟩
  have H6 := Lib.hid h
  clear h H5
  go_wp2_with fail
  refine (c_disk H6.out (Below.refl _ _) fun S hS => start_c w6 S db _ hS).mono ?_
  rintro e w7 ⟨rfl, h, _⟩
  rw [HR.out.same HA.out HQ.out] at h
  have H7 := Lib.hid h
  clear h H6
  go_wp2_with fail
  refine (c_open H7.out HE.out HB.out (by rw [HQ.out]; simp) (Jr.opn_right HR.out)).mono ?_
  rintro e w8 ⟨j2, v8, rfl, h, _⟩
  obtain ⟨A8, c8, rfl⟩ := row_shape (h.focus 1 (by simp)).row.1
  have H8 : Hid (Hp w.heap.size w (Th.all [diskT db D, jnT j2 db J, rowT (.slice A8 J.recs.length c8) J.recs, jnT jb db J, rowT (.slice AV J.recs.length cv) J.recs]) w8) := Lib.hid (h.pick [2, 0, 1, 3, 4] rfl)
  clear h H7
  go_wp2_with fail
  refine (c_open H8.out HE.out HB.out (by rw [HQ.out]; simp) (Jr.opn_right HR.out)).mono ?_
  rintro e w9 ⟨j3, v9, rfl, h, _⟩
  obtain ⟨A9, c9, rfl⟩ := row_shape (h.focus 1 (by simp)).row.1
  have H9 : Hid (Hp w.heap.size w (Th.all [jnT j2 db J, rowT (.slice A8 J.recs.length c8) J.recs, rowT (.slice A9 J.recs.length c9) J.recs, jnT jb db J, rowT (.slice AV J.recs.length cv) J.recs]) w9) := Lib.hid ((h.pick [2, 0, 3, 4, 1, 5, 6] rfl).drop.drop)
  clear h H8
  go_wp2_with fail
  refine (same_any _ A8 AV c8 cv J.recs J.recs (Strs.of_own (H9.out.focus 1 (by simp)).row.1).2 (Strs.of_own (H9.out.focus 4 (by simp)).row.1).2).mono ?_
  rintro e w10 ⟨rfl, hb⟩
  rw [decide_eq_true (rfl : J.recs = J.recs)]
  have H10 := Lib.hid (H9.out.newer hb)
  clear hb H9
  go_wp2_with fail
  refine (same_any _ A9 AV c9 cv J.recs J.recs (Strs.of_own (H10.out.focus 2 (by simp)).row.1).2 (Strs.of_own (H10.out.focus 4 (by simp)).row.1).2).mono ?_
  rintro e w11 ⟨rfl, hb⟩
  rw [decide_eq_true (rfl : J.recs = J.recs)]
  have H11 := Lib.hid (H10.out.newer hb)
  clear hb H10
  go_wp2_with fail
  refine (c_records H11.out HRL.out).mono ?_
  rintro e w12 ⟨v12, rfl, h, _⟩
  obtain ⟨A12, c12, rfl⟩ := row_shape h.row.1
  have H12 := Lib.hid h
  clear h H11
  go_wp2_with fail
  refine (same_any _ A12 AV c12 cv J.recs J.recs (Strs.of_own H12.out.row.1).2 (Strs.of_own (H12.out.focus 5 (by simp)).row.1).2).mono ?_
  rintro e w13 ⟨rfl, hb⟩
  rw [decide_eq_true (rfl : J.recs = J.recs)]
  have H13 := Lib.hid ((H12.out.newer hb).drop)
  clear hb H12
  go_wp2_with fail
  refine (c_room H13.out HJN.out.1 HJN.out.2.1).mono ?_
  rintro e w14 ⟨rfl, h, _⟩
  have H14 : Hid (Hp w.heap.size w (Th.all [jnT jb db J, jnT j2 db J]) w14) := Lib.hid ((h.pick [1, 2, 4, 3, 0] rfl).drop.drop.drop)
  clear h H13
  go_wp2_with fail
  refine (c_room H14.out HJN.out.1 HJN.out.2.1).mono ?_
  rintro e w15 ⟨rfl, h, _⟩
  have H15 := Lib.hid h.bel
  clear h H14
  go_wp2_with fail
  go_ret
  exact ⟨by simp, H15.out⟩
end Go.Proofs.YthhkadeiplbdkaaDoor
