/- The walk of JournalDamaged. -/
import Derived.Test.YthhkadeiplbdkaaDoorJrL4
set_option linter.unusedVariables false
set_option linter.unusedSimpArgs false
namespace Go.Proofs.YthhkadeiplbdkaaDoor
open Go.RowKit

set_option maxRecDepth 100000 in
set_option maxHeartbeats 4000000 in
theorem journalDamaged_walk (w : World) (hE : Env w) (n : Int) (A : Option Addr) (N c : Nat) (l : List Op) (hl : OpsAt w A N l) (s a m8 : Int) (hs : 0 ≤ s ∧ s ≤ 255) (ha8 : 0 ≤ a ∧ a ≤ 255) (hm8 : 0 ≤ m8 ∧ m8 ≤ 255) :
    Calls Tryd.prog 4 #[.int .i64 n, .slice A N c, .int .u8 s, .int .u8 a, .int .u8 m8] w fun e w' => e = .returned (.bool true) ∧ Below w.heap.size w w' := by
  have HE := Lib.hid hE
  have HB := Lib.hid hE.size
  have HL := Lib.hid hl
  clear hE hl
  go_enter Tryd.func4, Tryd.ntmps4
  go_wp2_with fail
  refine (lhead_any w HE.out).mono ?_
  rintro e w1 ⟨rfl, hb⟩
  have HB1 := Lib.hid hb
  have HL1 := Lib.hid (HL.out.below hb)
  clear hb
  go_wp2_with fail
  refine (light_any w1 n A N c l HL1.out).mono ?_
  rintro e w2 ⟨⟨b, rfl, hlt⟩, rfl⟩
  cases b
  · clear hlt
    go_wp2
    go_ret
    exact ⟨rfl, HB1.out⟩
  have HLT := Lib.hid (hlt rfl)
  clear hlt
  by_cases h3 : n < 3
  · go_wp2_with fail
    refine (filled_no w1 (HE.out.new HB1.out) n h3 A N c).mono ?_
    rintro e w3 ⟨⟨d, rfl⟩, hb⟩
    have HB3 := Lib.hid (bthen HB1.out HB1.out.size hb)
    clear hb
    go_wp2
    go_ret
    exact ⟨rfl, HB3.out⟩
  obtain ⟨m, rfl⟩ := Int.eq_ofNat_of_zero_le (show 0 ≤ n by omega)
  have hm3 : 3 ≤ m := by omega
  have hm40 : m ≤ 40 := by have := HLT.out.n; omega
  go_wp2_with fail
  refine (filled_yes w1 (HE.out.new HB1.out) m hm3 A N c l HL1.out HLT.out).mono ?_
  rintro e w3 ⟨db, jb, v, J, D, rfl, hp, hr, ha, hq, hn, hrl, hsz⟩
  obtain ⟨AV, cv, rfl⟩ := row_shape (hp.pick [2, 0, 1] rfl).row.1
  have HP3 := Lib.hid (hp.lift HB1.out HB1.out.size rfl)
  have HR := Lib.hid hr
  have HA := Lib.hid ha
  have HQ := Lib.hid hq
  have HJN : Hid (J.n ≤ 4000 ∧ J.c ≤ 4000 ∧ 3 ≤ J.n) := Lib.hid (by have := hr.c; have := hr.n3; omega)
  have HRL := Lib.hid (show J.recs.length ≤ 100000 by omega)
  have HNM := Lib.hid hn
  clear hp hr ha hq hn hrl hsz
  have hm0 : ((m : Int) == 0) = false := by simp; omega
  have hm1 : ¬ (m : Int) = 0 := by omega
  have e1 : IntKind.i64.wrap s = s := by rw [IntKind.wrap_i64]; omega
  have e2 : IntKind.i64.wrap a = a := by rw [IntKind.wrap_i64]; omega
  have e3 : IntKind.i64.wrap m8 = m8 := by rw [IntKind.wrap_i64]; omega
  have H3 : Hid (Hp w.heap.size w (Th.all [diskT db D, jnT jb db J, rowT (.slice AV J.recs.length cv) J.recs]) w3) := Lib.hid (HP3.out.pick [1, 0, 2] rfl)
  clear HP3
  go_wp2_with fail
  refine (c_disk H3.out (Below.refl _ _) fun S hS => rot_any w3 S db D _ _ _ hS).mono ?_
  rintro e w4 ⟨rfl, h, _⟩
  generalize hE0 : D.rot _ _ _ = E at h
  obtain ⟨i', j', k', hE⟩ : ∃ i j k, D.rot i j k = E := ⟨_, _, _, hE0⟩
  clear hE0
  have hcase := Jr.rot_opn HR.out HA.out HQ.out i' j' k'
  rw [hE] at hcase
  have hqE : E.q = [] := by rw [← hE]; unfold Dk.rot; split <;> exact HQ.out
  have H4 := Lib.hid h
  have HQE := Lib.hid hqE
  have HCA : Hid (Jr.opn E = (E, none, 27) ∨ ∃ D', Jr.opn E = (D', some J, 0)) := Lib.hid (hcase.elim (fun h => .inl h.2) fun h => .inr (by obtain ⟨D', h1, _⟩ := h.2; exact ⟨D', h1⟩))
  clear h hE hcase hqE H3 e1 e2 e3 hm0 hm1
  rcases HCA.out with ho | ⟨D', ho⟩
  · go_wp2_with fail
    refine (c_open_no H4.out HE.out HB.out (by rw [HQE.out]; simp) ho).mono ?_
    rintro e w5 ⟨rfl, h, _⟩
    have H5 := Lib.hid h.bel
    clear h H4 ho HCA
    go_wp2
    go_ret
    exact ⟨rfl, H5.out⟩
  · go_wp2_with fail
    refine (c_open H4.out HE.out HB.out (by rw [HQE.out]; simp) ho).mono ?_
    rintro e w5 ⟨j2, v5, rfl, h, _⟩
    obtain ⟨A5, c5, rfl⟩ := row_shape (h.focus 1 (by simp)).row.1
    have H5 := Lib.hid h
    clear h H4 ho HCA
    go_wp2_with fail
    refine (same_any _ A5 AV c5 cv J.recs J.recs (Strs.of_own (H5.out.focus 1 (by simp)).row.1).2 (Strs.of_own (H5.out.focus 4 (by simp)).row.1).2).mono ?_
    rintro e w6 ⟨rfl, hb⟩
    rw [decide_eq_true (rfl : J.recs = J.recs)]
    have H6 := Lib.hid (H5.out.newer hb).bel
    clear hb H5
    go_wp2
    go_ret
    exact ⟨rfl, H6.out⟩
end Go.Proofs.YthhkadeiplbdkaaDoor
