/- The walk of JournalBroken. -/
import Derived.Test.YthhkadeiplbdkaaDoorJrL5
set_option linter.unusedVariables false
set_option linter.unusedSimpArgs false
namespace Go.Proofs.YthhkadeiplbdkaaDoor
open Go.RowKit

set_option maxRecDepth 100000 in
set_option maxHeartbeats 4000000 in
theorem journalBroken_walk (w : World) (hE : Env w) (n : Int) (A : Option Addr) (N c : Nat) (l : List Op) (hl : OpsAt w A N l) (wr by_ : Int) :
    Calls Tryd.prog 5 #[.int .i64 n, .slice A N c, .int .i64 wr, .int .i64 by_] w fun e w' => e = .returned (.bool true) ∧ Below w.heap.size w w' := by
  have HE := Lib.hid hE
  have HB := Lib.hid hE.size
  have HL := Lib.hid hl
  clear hE hl
  go_enter Tryd.func5, Tryd.ntmps5
  go_wp2_with fail
  refine (lhead_any w HE.out).mono ?_
  rintro e w1 ⟨rfl, hb⟩
  have HB1 := Lib.hid hb
  have HL1 := Lib.hid (HL.out.below hb)
  clear hb
  go_wp2_with fail
  refine (light_any w1 n A N c l HL1.out).mono ?_
  rintro e w2 ⟨⟨b, rfl, hlt⟩, rfl⟩
  cases b
  · clear hlt
    go_wp2
    go_ret
    exact ⟨rfl, HB1.out⟩
  have HLT := Lib.hid (hlt rfl)
  clear hlt
  by_cases h3 : n < 3
  · go_wp2_with fail
    refine (filled_no w1 (HE.out.new HB1.out) n h3 A N c).mono ?_
    rintro e w3 ⟨⟨d, rfl⟩, hb⟩
    have HB3 := Lib.hid (bthen HB1.out HB1.out.size hb)
    clear hb
    go_wp2
    go_ret
    exact ⟨rfl, HB3.out⟩
  obtain ⟨m, rfl⟩ := Int.eq_ofNat_of_zero_le (show 0 ≤ n by omega)
  have hm3 : 3 ≤ m := by omega
  have hm40 : m ≤ 40 := by have := HLT.out.n; omega
  go_wp2_with fail
  refine (filled_yes w1 (HE.out.new HB1.out) m hm3 A N c l HL1.out HLT.out).mono ?_
  rintro e w3 ⟨db, jb, v, J, D, rfl, hp, hr, ha, hq, hn, hrl, hsz⟩
  obtain ⟨AV, cv, rfl⟩ := row_shape (hp.pick [2, 0, 1] rfl).row.1
  have HP3 := Lib.hid (hp.lift HB1.out HB1.out.size rfl)
  have HR := Lib.hid hr
  have HA := Lib.hid ha
  have HQ := Lib.hid hq
  have HJN : Hid (J.n ≤ 4000 ∧ J.c ≤ 4000 ∧ 3 ≤ J.n) := Lib.hid (by have := hr.c; have := hr.n3; omega)
  have HRL := Lib.hid (show J.recs.length ≤ 100000 by omega)
  have HNM := Lib.hid hn
  clear hp hr ha hq hn hrl hsz
  go_wp2_with fail
  refine (c_room HP3.out HJN.out.1 HJN.out.2.1).mono ?_
  rintro e w4 ⟨rfl, h, _⟩
  have H4 : Hid (Hp w.heap.size w (Th.all [diskT db D, jnT jb db J, rowT (.slice AV J.recs.length cv) J.recs]) w4) := Lib.hid (h.pick [1, 0, 2] rfl)
  clear h HP3
  go_wp2_with fail
  refine (c_disk H4.out (Below.refl _ _) fun S hS => fail_any w4 S db D wr by_ hS (by rw [HQ.out]; simp)).mono ?_
  rintro e w5 ⟨rfl, h, _⟩
  have H5 : Hid (Hp w.heap.size w (Th.all [jnT jb db J, diskT db (D.fail wr by_), rowT (.slice AV J.recs.length cv) J.recs]) w5) := Lib.hid (h.pick [1, 0, 2] rfl)
  clear h H4
  have HOFF := Lib.hid (Jr.fail_off HR.out.on wr by_)
  have HOQ := Lib.hid (Jr.fail_q HR.out.on wr by_)
  have HOO : Hid (Jr.opn (D.fail wr by_) = (D.fail wr by_, none, 28)) := Lib.hid (by unfold Jr.opn; rw [if_pos HOFF.out])
  have HST := Lib.hid (HR.out.same HA.out HQ.out wr by_)
  by_cases hf : J.n < 2 + J.c + 1
  · have F1 : Hid (∀ E : Dk, Jr.app E J Jr.a1 = (E, J, 29)) := Lib.hid fun E => Jr.a1_full E HR.out.br hf
    have x0 : ((J.n : Int) - 2 - (J.c : Int) == 0) = true := by have := HR.out.c; simp; omega
    clear hf
    go_wp2_with fail
    refine (c_append H5.out ((Below.refl _ _).alloc (Nat.le_refl _) _) HE.out HB.out (strs_one w5 [97]) out_new HJN.out.1 HJN.out.2.1 (by decide) (by rw [HOQ.out]; simp) HRL.out (F1.out _)).mono ?_
    rintro e w6 ⟨rfl, h, _⟩
    have H6 : Hid (Hp w.heap.size w (Th.all [diskT db (D.fail wr by_), jnT jb db J, rowT (.slice AV J.recs.length cv) J.recs]) w6) := Lib.hid (h.pick [1, 0, 2] rfl)
    clear h H5
    go_wp2_with fail
    refine (c_open_no H6.out HE.out HB.out (by rw [HOQ.out]; simp) HOO.out).mono ?_
    rintro e w7 ⟨rfl, h, _⟩
    have H7 := Lib.hid h
    clear h H6
    go_wp2_with fail
    refine (c_disk H7.out (Below.refl _ _) fun S hS => start_c w7 S db _ hS).mono ?_
    rintro e w8 ⟨rfl, h, _⟩
    rw [HST.out] at h
    have H8 : Hid (Hp w.heap.size w (Th.all [jnT jb db J, diskT db D, rowT (.slice AV J.recs.length cv) J.recs]) w8) := Lib.hid (h.pick [1, 0, 2] rfl)
    clear h H7
    go_wp2_with fail
    refine (c_append H8.out ((Below.refl _ _).alloc (Nat.le_refl _) _) HE.out HB.out (strs_one w8 [97]) out_new HJN.out.1 HJN.out.2.1 (by decide) (by rw [HQ.out]; simp) HRL.out (F1.out _)).mono ?_
    rintro e w9 ⟨rfl, h, _⟩
    have H9 : Hid (Hp w.heap.size w (Th.all [diskT db D, jnT jb db J, rowT (.slice AV J.recs.length cv) J.recs]) w9) := Lib.hid (h.pick [1, 0, 2] rfl)
    clear h H8
    go_wp2_with fail
    refine (c_open H9.out HE.out HB.out (by rw [HQ.out]; simp) (Jr.opn_right HR.out)).mono ?_
    rintro e w10 ⟨j2, v10, rfl, h, _⟩
    obtain ⟨A10, c10, rfl⟩ := row_shape (h.focus 1 (by simp)).row.1
    have H10 := Lib.hid h
    clear h H9
    go_wp2_with fail
    refine (same_any _ A10 AV c10 cv J.recs J.recs (Strs.of_own (H10.out.focus 1 (by simp)).row.1).2 (Strs.of_own (H10.out.focus 4 (by simp)).row.1).2).mono ?_
    rintro e w11 ⟨rfl, hb⟩
    rw [decide_eq_true (rfl : J.recs = J.recs)]
    have H11 := Lib.hid (H10.out.newer hb).bel
    clear hb H10
    go_wp2
    go_ret
    exact ⟨rfl, H11.out⟩
  · have F1 : Hid (∀ E : Dk, E.off = true → Jr.app E J Jr.a1 = (E, { J with br := true }, 28)) := Lib.hid fun E hE => Jr.a1_off hE HR.out.br hf
    have F2 : Hid (Jr.app D { J with br := true } Jr.a1 = (D, { J with br := true }, 11)) := Lib.hid (by unfold Jr.app; rw [if_pos rfl])
    have x0 : ((J.n : Int) - 2 - (J.c : Int) == 0) = false := by simp; omega
    clear hf
    go_wp2_with fail
    refine (c_append H5.out ((Below.refl _ _).alloc (Nat.le_refl _) _) HE.out HB.out (strs_one w5 [97]) out_new HJN.out.1 HJN.out.2.1 (by decide) (by rw [HOQ.out]; simp) HRL.out (F1.out _ HOFF.out)).mono ?_
    rintro e w6 ⟨rfl, h, _⟩
    have H6 : Hid (Hp w.heap.size w (Th.all [diskT db (D.fail wr by_), jnT jb db { J with br := true }, rowT (.slice AV J.recs.length cv) J.recs]) w6) := Lib.hid (h.pick [1, 0, 2] rfl)
    clear h H5
    go_wp2_with fail
    refine (c_open_no H6.out HE.out HB.out (by rw [HOQ.out]; simp) HOO.out).mono ?_
    rintro e w7 ⟨rfl, h, _⟩
    have H7 := Lib.hid h
    clear h H6
    go_wp2_with fail
    refine (c_disk H7.out (Below.refl _ _) fun S hS => start_c w7 S db _ hS).mono ?_
    rintro e w8 ⟨rfl, h, _⟩
    rw [HST.out] at h
    have H8 : Hid (Hp w.heap.size w (Th.all [jnT jb db { J with br := true }, diskT db D, rowT (.slice AV J.recs.length cv) J.recs]) w8) := Lib.hid (h.pick [1, 0, 2] rfl)
    clear h H7
    go_wp2_with fail
    refine (c_append H8.out ((Below.refl _ _).alloc (Nat.le_refl _) _) HE.out HB.out (strs_one w8 [97]) out_new HJN.out.1 HJN.out.2.1 (by decide) (by rw [HQ.out]; simp) HRL.out F2.out).mono ?_
    rintro e w9 ⟨rfl, h, _⟩
    have H9 : Hid (Hp w.heap.size w (Th.all [diskT db D, jnT jb db { J with br := true }, rowT (.slice AV J.recs.length cv) J.recs]) w9) := Lib.hid (h.pick [1, 0, 2] rfl)
    clear h H8
    go_wp2_with fail
    refine (c_open H9.out HE.out HB.out (by rw [HQ.out]; simp) (Jr.opn_right HR.out)).mono ?_
    rintro e w10 ⟨j2, v10, rfl, h, _⟩
    obtain ⟨A10, c10, rfl⟩ := row_shape (h.focus 1 (by simp)).row.1
    have H10 : Hid (Hp w.heap.size w (Th.all [jnT jb db { J with br := true }, rowT (.slice A10 J.recs.length c10) J.recs, rowT (.slice AV J.recs.length cv) J.recs]) w10) := Lib.hid ((h.pick [0, 2, 3, 1, 4] rfl).drop.drop.pick [0, 1, 2] rfl)
    clear h H9
    go_wp2_with fail
    refine (c_records H10.out HRL.out).mono ?_
    rintro e w11 ⟨v11, rfl, h, _⟩
    obtain ⟨A11, c11, rfl⟩ := row_shape h.row.1
    have H11 := Lib.hid h
    clear h H10
    go_wp2_with fail
    refine (same_any _ A11 AV c11 cv J.recs J.recs (Strs.of_own H11.out.row.1).2 (Strs.of_own (H11.out.focus 3 (by simp)).row.1).2).mono ?_
    rintro e w12 ⟨rfl, hb⟩
    rw [decide_eq_true (rfl : J.recs = J.recs)]
    have H12 := Lib.hid ((H11.out.newer hb).drop)
    clear hb H11
    go_wp2_with fail
    refine (c_room H12.out HJN.out.1 HJN.out.2.1).mono ?_
    rintro e w13 ⟨rfl, h, _⟩
    have H13 := Lib.hid h
    clear h H12
    go_wp2_with fail
    refine (same_any _ A10 AV c10 cv J.recs J.recs (Strs.of_own (H13.out.focus 1 (by simp)).row.1).2 (Strs.of_own (H13.out.focus 2 (by simp)).row.1).2).mono ?_
    rintro e w14 ⟨rfl, hb⟩
    rw [decide_eq_true (rfl : J.recs = J.recs)]
    have H14 := Lib.hid (H13.out.newer hb).bel
    clear hb H13
    go_wp2
    go_ret
    exact ⟨rfl, H14.out⟩
end Go.Proofs.YthhkadeiplbdkaaDoor
