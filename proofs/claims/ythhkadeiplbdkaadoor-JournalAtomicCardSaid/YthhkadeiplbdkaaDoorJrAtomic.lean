/- The walk of JournalAtomic. -/
import Derived.Test.YthhkadeiplbdkaaDoorJrL6
set_option linter.unusedVariables false
set_option linter.unusedSimpArgs false
namespace Go.Proofs.YthhkadeiplbdkaaDoor
open Go.RowKit

/-- Behind k rounds: the journal, the disk and the records that are held. -/
def AtomAt (w : World) (m : Nat) (db jb : Nat) (v : Value) (k : Nat) (J : Jn) (D : Dk) (wr : World) : Prop :=
  Hp w.heap.size w (Th.all [diskT db D, jnT jb db J, rowT v J.recs]) wr ∧ Jr.Right D J ∧ D.al = none ∧ D.q = [] ∧ J.n = m ∧ J.recs.length ≤ 20 * k
theorem of_at (x : Int) (hx : Dk.i64 x) : ∃ a, 0 ≤ a ∧ a ≤ 99 ∧ max 0 (x.tmod 100) = a := by
  have h1 := Int.tmod_lt_of_pos x (show (0 : Int) < 100 by decide)
  have h2 := Int.tmod_eq_emod (a := x) (b := 100)
  refine ⟨_, ?_, ?_, rfl⟩
  · omega
  · omega

theorem of_five (a : Int) (h0 : 0 ≤ a) (h1 : a ≤ 99) : ∃ b, Dk.i64 b ∧ a.tmod 5 = b := by
  refine ⟨_, ?_, rfl⟩
  have h2 := Int.tmod_lt_of_pos a (show (0 : Int) < 5 by decide)
  have h3 := Int.tmod_nonneg (b := 5) h0
  unfold Dk.i64
  omega
theorem atom_cases {f : Int} {recs a r : List (List UInt8)} (h : (f = 0 ∧ recs = r) ∨ ((f = 2 ∨ f = 29) ∧ recs = a) ∨ (f = 28 ∧ (recs = a ∨ recs = r))) :
    ∃ b0 b1, decide (recs = a) = b0 ∧ decide (recs = r) = b1 ∧ ((f = 0 ∧ b0 = true ∧ b1 = true) ∨ (f = 0 ∧ b0 = false ∧ b1 = true) ∨ (f = 2 ∧ b0 = true) ∨ (f = 29 ∧ b0 = true) ∨ (f = 28 ∧ b0 = true) ∨ (f = 28 ∧ b0 = false ∧ b1 = true)) := by
  refine ⟨_, _, rfl, rfl, ?_⟩
  by_cases ha : recs = a
  · rcases h with ⟨h1, h2⟩ | ⟨h1 | h1, h2⟩ | ⟨h1, h2⟩
    · exact .inl ⟨h1, decide_eq_true ha, decide_eq_true h2⟩
    · exact .inr (.inr (.inl ⟨h1, decide_eq_true ha⟩))
    · exact .inr (.inr (.inr (.inl ⟨h1, decide_eq_true ha⟩)))
    · exact .inr (.inr (.inr (.inr (.inl ⟨h1, decide_eq_true ha⟩))))
  · rcases h with ⟨h1, h2⟩ | ⟨h1, h2⟩ | ⟨h1, h2 | h2⟩
    · exact .inr (.inl ⟨h1, decide_eq_false ha, decide_eq_true h2⟩)
    · exact absurd h2 ha
    · exact absurd h2 ha
    · exact .inr (.inr (.inr (.inr (.inr ⟨h1, decide_eq_false ha, decide_eq_true h2⟩))))

set_option maxRecDepth 100000 in
set_option maxHeartbeats 16000000 in
theorem journalAtomic_walk (w : World) (hE : Env w) (n : Int) (A : Option Addr) (N c : Nat) (l : List Op) (hl : OpsAt w A N l) :
    Calls Tryd.prog 7 #[.int .i64 n, .slice A N c] w fun e w' => e = .returned (.bool true) ∧ Below w.heap.size w w' := by
  have HE := Lib.hid hE
  have HB := Lib.hid hE.size
  have HL := Lib.hid hl
  have HN := Lib.hid hl.len
  clear hE hl
  go_enter Tryd.func7, Tryd.ntmps7
  go_wp2_with fail
  refine (lhead_any w HE.out).mono ?_
  rintro e w1 ⟨rfl, hb⟩
  have HB1 : Hid (Hp w.heap.size w (Th.all []) w1) := Lib.hid ((Hp.start0 w).newer hb)
  have HL1 := Lib.hid (HL.out.below hb)
  clear hb
  go_wp2_with fail
  refine (light_any w1 n A N c l HL1.out).mono ?_
  rintro e w2 ⟨⟨b, rfl, hlt⟩, rfl⟩
  cases b
  · clear hlt
    go_wp2
    go_ret
    exact ⟨rfl, HB1.out.bel⟩
  have HLT := Lib.hid (hlt rfl)
  clear hlt
  by_cases h1 : n < 1
  · go_wp2_with fail
    refine (new_no w1 n (by omega)).mono ?_
    rintro e w2 ⟨rfl, rfl⟩
    go_wp2_with fail
    refine (open_nil _).mono ?_
    rintro e w3 ⟨rfl, hb⟩
    have H3 := Lib.hid (HB1.out.newer hb).bel
    clear hb
    go_wp2
    go_ret
    exact ⟨rfl, H3.out⟩
  obtain ⟨m, rfl⟩ := Int.eq_ofNat_of_zero_le (show 0 ≤ n by omega)
  have hm40 : m ≤ 40 := by have := HLT.out.n; omega
  by_cases h3 : m < 3
  · have H1 : Hid (Jr.opn (Dk.new m) = (Dk.new m, none, 1)) := Lib.hid (by
      have hlt : (Dk.new m).st.length < 3 := by simp [Dk.new]; omega
      unfold Jr.opn
      rw [if_neg (by simp [Dk.new]), if_pos hlt])
    go_wp2_with fail
    refine (c_new m (by omega) (by omega) HB1.out).mono ?_
    rintro e w2 ⟨db, rfl, h, _⟩
    have H2 := Lib.hid h
    clear h
    go_wp2_with fail
    refine (c_open_no H2.out HE.out HB.out (by simp [Dk.new]) H1.out).mono ?_
    rintro e w3 ⟨rfl, h, _⟩
    have H3 := Lib.hid h.bel
    clear h
    go_wp2
    go_ret
    exact ⟨rfl, H3.out⟩
  have HR0 := Lib.hid (Jr.new_right m (by omega) (by omega))
  have HM := Lib.hid (show m ≤ 40 ∧ 3 ≤ m by omega)
  go_wp2_with fail
  refine (c_new m (by omega) (by omega) HB1.out).mono ?_
  rintro e w2 ⟨db, rfl, h, _⟩
  have H2 := Lib.hid h
  clear h
  go_wp2_with fail
  refine (c_open H2.out HE.out HB.out (by simp [Dk.new]) (Jr.opn_right HR0.out)).mono ?_
  rintro e w3 ⟨jb, v3, rfl, h, _⟩
  have H3 : Hid (AtomAt w m db jb v3 0 ⟨m, 0, [], false⟩ (Dk.new m) w3) := Lib.hid ⟨h.pick [2, 0, 1] rfl, HR0.out, rfl, rfl, rfl, Nat.zero_le _⟩
  clear h H2 HR0 h1 h3 hm40
  have hmax := HL.out.max
  have HN16 : Hid (N ≤ 16) := Lib.hid (by have := HLT.out.len; have := HN.out; omega)
  go_wp2_with fail
  go_loopw [7, 8, 10] (fun jv bv i wr => ∃ k : Nat, k ≤ N ∧ i = .int .i64 (k : Int) ∧ ∃ jb J D, jv = .pointer (some ⟨jb, 0, none⟩) ∧ AtomAt w m db jb bv k J D wr) (fun _ _ i _ => N - (intOf i).toNat)
  case atStart => exact ⟨0, Nat.zero_le _, rfl, jb, _, _, rfl, H3.out⟩
  case round =>
    obtain ⟨k, hk, rfl, jb, J, D, rfl, hp, hr, ha, hq, hjn, hrl⟩ := hrel
    obtain ⟨A8, c8, rfl⟩ := row_shape (hp.pick [2, 0, 1] rfl).row.1
    have HP := Lib.hid hp
    have HR := Lib.hid hr
    have HA := Lib.hid ha
    have HQ := Lib.hid hq
    have HJN := Lib.hid hjn
    have HRL := Lib.hid hrl
    clear hp hr ha hq hjn hrl H3
    by_cases hlt : k < N
    · obtain ⟨b, o, x, rfl, hbl, hget, hmem, _, y1, y2, y3, y4, hst, hout, hi0, hi2, hi3, hi4⟩ := HL.out.get HP.out.bel hlt
      have HG := Lib.hid hget
      have HST := Lib.hid hst
      have HOU := Lib.hid hout
      have HONE := Lib.hid (HLT.out.one hmem)
      have HI2 := Lib.hid hi2
      have HI3 := Lib.hid hi3
      have HI4 := Lib.hid hi4
      have k0 : (0 : Int) ≤ (k : Int) := by omega
      have k1 : (k : Int) < (N : Int) := by omega
      have hbw : b < w.heap.size := by
        obtain ⟨b', o', x', e', hb', _⟩ := HL.out.get (Below.refl _ _) hlt
        injection e' with e'
        injection e' with e'
        rw [e']; exact hb'
      have HBW := Lib.hid hbw
      have HSTW := Lib.hid (fun W (h : Below w.heap.size w W) => show Strs W x.A x.list from (HL.out.below h).lists x hmem)
      have Y1 := Lib.hid (fun W (h : Below w.heap.size w W) => show W.cell? ⟨b, o + k * 5 + 1, none⟩ = _ from (h.cell (p := ⟨b, o + k * 5 + 1, none⟩) hbw).trans ((HP.out.bel.cell (p := ⟨b, o + k * 5 + 1, none⟩) hbw).symm.trans y1))
      have Y2 := Lib.hid (fun W (h : Below w.heap.size w W) => show W.cell? ⟨b, o + k * 5 + 2, none⟩ = _ from (h.cell (p := ⟨b, o + k * 5 + 2, none⟩) hbw).trans ((HP.out.bel.cell (p := ⟨b, o + k * 5 + 2, none⟩) hbw).symm.trans y2))
      have Y3 := Lib.hid (fun W (h : Below w.heap.size w W) => show W.cell? ⟨b, o + k * 5 + 3, none⟩ = _ from (h.cell (p := ⟨b, o + k * 5 + 3, none⟩) hbw).trans ((HP.out.bel.cell (p := ⟨b, o + k * 5 + 3, none⟩) hbw).symm.trans y3))
      have Y4 := Lib.hid (fun W (h : Below w.heap.size w W) => show W.cell? ⟨b, o + k * 5 + 4, none⟩ = _ from (h.cell (p := ⟨b, o + k * 5 + 4, none⟩) hbw).trans ((HP.out.bel.cell (p := ⟨b, o + k * 5 + 4, none⟩) hbw).symm.trans y4))
      clear hget hmem hst hout hi0 hi2 hi3 hi4 hbw y2 y3 y4
      go_wp2_with fail
      obtain ⟨R, hR⟩ : ∃ R, J.recs ++ x.list = R := ⟨_, rfl⟩
      have HRR := Lib.hid hR
      clear hR
      go_cut [11] from 39 to 170 (fun v wc => ∃ A11 c11, v = .slice A11 R.length c11 ∧ Hp w.heap.size w (Th.all [rowT v R, diskT db D, jnT jb db J, rowT (.slice A8 J.recs.length c8) J.recs]) wc)
      case first =>
        have H0 : Hid (Hp w.heap.size w (Th.all [rowT (.slice (some ⟨wr.heap.size, 0, none⟩) 0 0) [], diskT db D, jnT jb db J, rowT (.slice A8 J.recs.length c8) J.recs]) (wr.alloc (.cells #[] 9)).drew) := Lib.hid ((HP.out.addc (a := rowT (.slice (some ⟨wr.heap.size, 0, none⟩) 0 0) []) ((Below.refl _ _).alloc (Nat.le_refl _) _) ⟨own_empty wr, fun k hk => by
          have : wr.heap.size = k := by simpa [Value.ownBlock] using hk
          omega⟩).newer (below_drewN (Below.refl _ _) 1))
        have HSB := Lib.hid (Strs.of_own (H0.out.focus 3 (by simp)).row.1).2
        have L1 : Hid (([] : List (List UInt8)).length + J.recs.length ≤ 1000000) := Lib.hid (by have := HRL.out; have := HN16.out; simp; omega)
        have L2 : Hid (J.recs.length + x.list.length ≤ 1000000) := Lib.hid (by have := HRL.out; have := HN16.out; have := HONE.out.2.1; omega)
        go_region_held3 (fun w' => w'.cell? ⟨b, o + k * 5 + 1, none⟩ = some (.slice x.A x.list.length x.c))
          (first | exact m2 | exact m1 | go_keep)
          (first
          | (have _t := HP4; refine step_append_strs rfl (.tmp 47) (.tmp 52) rfl v4 J.recs (by simp [Act.eval, Act.put]) HP4.out.row.1 x.A x.c x.list (by simp [Act.eval, Act.put]) HS4.out L2.out ?_; intro v5 w5 hown5 hg5 hat5; have HP5' := HP4.out.append hg5 hown5 hat5; rw [HRR.out] at HP5'; have HP5 := Lib.hid HP5'; clear HP5'; have m2 := Y1.out w5 HP5.out.bel; clear hown5 hg5 hat5)
          | (refine step_append_strs rfl (.tmp 45) (.tmp 46) rfl (.slice (some ⟨wr.heap.size, 0, none⟩) 0 0) [] (by simp [Act.eval, Act.put]) H0.out.row.1 A8 c8 J.recs (by simp [Act.eval, Act.put]) HSB.out L1.out ?_; intro v4 w4 hown4 hg4 hat4; have HP4 := Lib.hid (H0.out.append (ys := J.recs) hg4 hown4 hat4); have m1 := Y1.out w4 HP4.out.bel; have HS4 := Lib.hid (HSTW.out w4 HP4.out.bel); clear hown4 hg4 hat4))
        go_wp2_with fail
        go_meet
        obtain ⟨A11, c11, hv11⟩ := row_shape HP5.out.row.1
        exact ⟨A11, c11, hv11, HP5.out⟩
      case rest =>
        obtain ⟨A11, c11, rfl, hp5⟩ := hcut
        have HP5 := Lib.hid hp5
        clear hp5
        have y2 := Y2.out wc HP5.out.bel
        have y3 := Y3.out wc HP5.out.bel
        have y4 := Y4.out wc HP5.out.bel
        have lbc : b < wc.heap.size := Nat.lt_of_lt_of_le HBW.out HP5.out.bel.size
        obtain ⟨at_, ha0, ha1, hat⟩ := of_at x.at_ HI2.out
        have HAT : Hid (Dk.i64 at_) := Lib.hid ⟨by omega, by omega⟩
        obtain ⟨a5, ha5, hat5⟩ := of_five at_ ha0 ha1
        have HA5 := Lib.hid ha5
        clear ha0 ha1 ha5
        obtain ⟨hRa, hqa, _⟩ := HR.out.arm at_ x.writes x.bytes HAT.out HI3.out HI4.out
        obtain ⟨D1, hD1⟩ : ∃ D1, D.arm at_ x.writes x.bytes = D1 := ⟨_, rfl⟩
        have HD1 := Lib.hid hD1
        rw [hD1] at hRa hqa
        rw [HQ.out] at hqa
        have HQA := Lib.hid hqa
        obtain ⟨D2, J2, f, cc, recs, eA, hAf⟩ := Jr.app_after x.list hRa hqa
        have HEA := Lib.hid eA
        have HAF := Lib.hid hAf
        have hn3 : 3 ≤ D2.st.length := by have := HR.out.n3; rw [hAf.n]; omega
        obtain ⟨E, oj, g, eO, hEq, hEi, hEn, hEc, hEg⟩ := Jr.opn_after hAf.inv hn3 hAf.can a5 x.bytes x.writes HA5.out HI4.out HI3.out
        obtain ⟨E0, hE0⟩ : ∃ E0, (Jr.onD D2).arm a5 x.bytes x.writes = E0 := ⟨_, rfl⟩
        have HE0 := Lib.hid hE0
        have HE0Q : Hid (E0.q = []) := Lib.hid (by rw [← hE0]; unfold Dk.arm Jr.onD; simp only [Bool.false_eq_true, if_false]; split <;> rfl)
        rw [hE0] at eO
        have HEO := Lib.hid eO
        have HEQ := Lib.hid hEq
        have HEG := Lib.hid hEg
        have HEN : Hid (E.st.length = m) := Lib.hid (by rw [hEn, hAf.n, HJN.out])
        obtain ⟨F, eF, hFr, hFa, hFq⟩ := Jr.opn_onD hEi (by rw [hEn]; exact hn3) hEc
        have HEF := Lib.hid eF
        have HFR := Lib.hid hFr
        have HFA := Lib.hid hFa
        have HFQ := Lib.hid hFq
        have hend := hAf.end_
        rw [HRR.out] at hend
        obtain ⟨b0, b1, hb0, hb1, hcs⟩ := atom_cases hend
        have HB0 := Lib.hid hb0
        have HB1 := Lib.hid hb1
        have HCS := Lib.hid hcs
        have HLEN : Hid (recs.length ≤ 20 * (k + 1)) := Lib.hid (by
          have h1 := HRL.out
          have h2 : R.length = J.recs.length + x.list.length := by rw [← HRR.out, List.length_append]
          have h3 := HONE.out.2.1
          rcases hend with ⟨_, rfl⟩ | ⟨_, rfl⟩ | ⟨_, rfl | rfl⟩ <;> omega)
        clear hD1 hRa hqa eA hAf hn3 eO hEq hEi hEn hEc hEg hE0 eF hFr hFa hFq hend hb0 hb1 hcs
        go_wp2_with fail
        go_cut [12] from 39 to 170 (fun v wc => v = .int .i64 at_ ∧ Hp w.heap.size w (Th.all [diskT db D1, jnT jb db J, rowT (.slice A11 R.length c11) R, rowT (.slice A8 J.recs.length c8) J.recs]) wc)
        case first =>
          have H0 : Hid (Hp w.heap.size w (Th.all [diskT db D, jnT jb db J, rowT (.slice A11 R.length c11) R, rowT (.slice A8 J.recs.length c8) J.recs]) wc) := Lib.hid (HP5.out.pick [1, 2, 0, 3] rfl)
          have HARM := Lib.hid (fun W (hb : Below wc.heap.size wc W) => c_disk H0.out hb fun S hS => arm_any W S db D at_ x.writes x.bytes hS HAT.out HI3.out HI4.out)
          rw [HD1.out] at HARM
          go_region_held3 (fun w' => w'.cell? ⟨b, o + k * 5 + 3, none⟩ = some (.int .i64 x.writes) ∧ w'.cell? ⟨b, o + k * 5 + 4, none⟩ = some (.int .i64 x.bytes))
            (first | exact ⟨m3, m4⟩ | go_keep)
            (first
            | (go_at_call 22; refine Calls.mono (HARM.out _ (below_drewN (Below.refl _ _) 1)) ?_; rintro e w7 ⟨rfl, h7, _⟩; have H7 := Lib.hid h7; have m3 := Y3.out w7 H7.out.bel; have m4 := Y4.out w7 H7.out.bel; clear h7))
          go_wp2_with fail
          go_meet
          exact ⟨rfl, H7.out⟩
        case rest =>
          obtain ⟨rfl, hd⟩ := hcut
          have HD : Hid (Hp w.heap.size w (Th.all [jnT jb db J, diskT db D1, rowT (.slice A11 R.length c11) R, rowT (.slice A8 J.recs.length c8) J.recs]) wc) := Lib.hid (hd.pick [1, 0, 2, 3] rfl)
          clear hd HP5 y2 y3 y4 lbc
          have y1 := Y1.out wc HD.out.bel
          have lbd : b < wc.heap.size := Nat.lt_of_lt_of_le HBW.out HD.out.bel.size
          go_wp2_with fail
          refine (c_append (c := x.c) HD.out (Below.refl _ _) HE.out HB.out (HSTW.out wc HD.out.bel) (fun h0 b o e => .inl (HOU.out h0 b o e)) (by have := HJN.out; have := HM.out; omega) (by have := HR.out.c; have := HJN.out; have := HM.out; omega) (by have := HONE.out.1; omega) (by rw [HQA.out]; simp) (by have := HRL.out; have := HN16.out; omega) HEA.out).mono ?_
          rintro e w6 ⟨rfl, h, _⟩
          have H6 := Lib.hid h.drop
          clear h HD
          go_wp2_with fail
          refine (c_disk H6.out (Below.refl _ _) fun S hS => fail_any w6 S db D2 0 0 hS (by rw [HAF.out.q]; simp)).mono ?_
          rintro e w7 ⟨rfl, h, _⟩
          have H7 := Lib.hid h
          clear h H6
          go_wp2_with fail
          refine (c_disk H7.out (Below.refl _ _) fun S hS => start_c w7 S db _ hS).mono ?_
          rintro e w8 ⟨rfl, h, _⟩
          rw [Jr.off_on_any HAF.out.q 0 0] at h
          have H8 : Hid (Hp w.heap.size w (Th.all [diskT db (Jr.onD D2), rowT (.slice A11 R.length c11) R, rowT (.slice A8 J.recs.length c8) J.recs]) w8) := Lib.hid h
          clear h H7 y1 lbd
          have y3 := Y3.out w8 H8.out.bel
          have y4 := Y4.out w8 H8.out.bel
          have lb8 : b < w8.heap.size := Nat.lt_of_lt_of_le HBW.out H8.out.bel.size
          go_wp2_with fail
          go_cut [12] from 39 to 170 (fun v wc => v = .int .i64 at_ ∧ Hp w.heap.size w (Th.all [diskT db E0, rowT (.slice A11 R.length c11) R, rowT (.slice A8 J.recs.length c8) J.recs]) wc)
          case first =>
            have HARM := Lib.hid (fun W (hb : Below w8.heap.size w8 W) => c_disk H8.out hb fun S hS => arm_any W S db (Jr.onD D2) a5 x.bytes x.writes hS HA5.out HI4.out HI3.out)
            rw [HE0.out] at HARM
            go_region_held3 (fun w' => w'.cell? ⟨b, o + k * 5 + 3, none⟩ = some (.int .i64 x.writes) ∧ w'.cell? ⟨b, o + k * 5 + 4, none⟩ = some (.int .i64 x.bytes))
              (first | exact ⟨m3, m4⟩ | go_keep)
              (first
              | (go_at_call 22; refine Calls.mono (HARM.out _ (below_drewN (Below.refl _ _) 1)) ?_; rintro e w9 ⟨rfl, h9, _⟩; have H9 := Lib.hid h9; have m3 := Y3.out w9 H9.out.bel; have m4 := Y4.out w9 H9.out.bel; clear h9))
            go_wp2_with fail
            go_meet
            exact ⟨rfl, H9.out⟩
          case rest =>
            obtain ⟨rfl, hd9⟩ := hcut
            have H9 := Lib.hid hd9
            clear hd9 H8 y3 y4 lb8
            go_wp2_with fail
            rcases HEG.out with ⟨rfl, rfl⟩ | ⟨rfl, rfl⟩
            · refine (c_open H9.out HE.out HB.out (by rw [HE0Q.out]; simp) HEO.out).mono ?_
              rintro e w10 ⟨j14, v14, rfl, h, _⟩
              obtain ⟨A14, c14, rfl⟩ := row_shape (h.focus 1 (by simp)).row.1
              have H10 : Hid (Hp w.heap.size w (Th.all [diskT db E, rowT (.slice A14 recs.length c14) recs, rowT (.slice A11 R.length c11) R, rowT (.slice A8 J.recs.length c8) J.recs]) w10) := Lib.hid ((h.pick [0, 2, 1, 3, 4] rfl).drop)
              clear h H9
              go_wp2_with fail
              refine (c_disk H10.out (Below.refl _ _) fun S hS => fail_any w10 S db E 0 0 hS (by rw [HEQ.out]; simp)).mono ?_
              rintro e w11 ⟨rfl, h, _⟩
              have H11 := Lib.hid h
              clear h H10
              go_wp2_with fail
              refine (c_disk H11.out (Below.refl _ _) fun S hS => start_c w11 S db _ hS).mono ?_
              rintro e w12 ⟨rfl, h, _⟩
              rw [Jr.off_on_any HEQ.out 0 0] at h
              have H12 : Hid (Hp w.heap.size w (Th.all [diskT db (Jr.onD E), rowT (.slice A14 recs.length c14) recs, rowT (.slice A11 R.length c11) R, rowT (.slice A8 J.recs.length c8) J.recs]) w12) := Lib.hid h
              clear h H11
              go_wp2_with fail
              refine (c_open H12.out HE.out HB.out (by simp [Jr.onD]) HEF.out).mono ?_
              rintro e w13 ⟨j17, v17, rfl, h, _⟩
              obtain ⟨A17, c17, rfl⟩ := row_shape (h.focus 1 (by simp)).row.1
              have H13 : Hid (Hp w.heap.size w (Th.all [jnT j17 db ⟨E.st.length, cc, recs, false⟩, rowT (.slice A17 recs.length c17) recs, diskT db F, rowT (.slice A14 recs.length c14) recs, rowT (.slice A11 R.length c11) R, rowT (.slice A8 J.recs.length c8) J.recs]) w13) := Lib.hid h
              clear h H12
              go_wp2_with fail
              refine (same_any _ A17 A8 c17 c8 recs J.recs (Strs.of_own (H13.out.focus 1 (by simp)).row.1).2 (Strs.of_own (H13.out.focus 5 (by simp)).row.1).2).mono ?_
              rintro e w14 ⟨rfl, hb⟩
              rw [HB0.out]
              have H14 := Lib.hid (H13.out.newer hb)
              clear hb H13
              go_wp2_with fail
              refine (same_any _ A17 A11 c17 c11 recs R (Strs.of_own (H14.out.focus 1 (by simp)).row.1).2 (Strs.of_own (H14.out.focus 4 (by simp)).row.1).2).mono ?_
              rintro e w15 ⟨rfl, hb⟩
              rw [HB1.out]
              have H15 := Lib.hid (H14.out.newer hb)
              clear hb H14
              clear HB0 HB1 HAF HEA HEO
              rcases HCS.out with ⟨rfl, rfl, rfl⟩ | ⟨rfl, rfl, rfl⟩ | ⟨rfl, rfl⟩ | ⟨rfl, rfl⟩ | ⟨rfl, rfl⟩ | ⟨rfl, rfl, rfl⟩
              all_goals
                go_wp2_with fail
                refine (same_any _ A14 A17 c14 c17 recs recs (Strs.of_own (H15.out.focus 3 (by simp)).row.1).2 (Strs.of_own (H15.out.focus 1 (by simp)).row.1).2).mono ?_
                rintro e w16 ⟨rfl, hb⟩
                rw [decide_eq_true (rfl : recs = recs)]
                have H16 := Lib.hid (H15.out.newer hb)
                clear hb H15
                go_wp2
                go_roundw
                case rel => exact ⟨k + 1, by omega, by go_num, j17, ⟨E.st.length, cc, recs, false⟩, F, rfl, (((H16.out.pick [3, 4, 5, 2, 0, 1] rfl).drop).drop).drop, HFR.out, HFA.out, HFQ.out, HEN.out, HLEN.out⟩
                case measure => simp [intOf]; omega
            · refine (c_open_no H9.out HE.out HB.out (by rw [HE0Q.out]; simp) HEO.out).mono ?_
              rintro e w10 ⟨rfl, h, _⟩
              have H10 := Lib.hid h
              clear h H9
              go_wp2_with fail
              refine (c_disk H10.out (Below.refl _ _) fun S hS => fail_any w10 S db E 0 0 hS (by rw [HEQ.out]; simp)).mono ?_
              rintro e w11 ⟨rfl, h, _⟩
              have H11 := Lib.hid h
              clear h H10
              go_wp2_with fail
              refine (c_disk H11.out (Below.refl _ _) fun S hS => start_c w11 S db _ hS).mono ?_
              rintro e w12 ⟨rfl, h, _⟩
              rw [Jr.off_on_any HEQ.out 0 0] at h
              have H12 : Hid (Hp w.heap.size w (Th.all [diskT db (Jr.onD E), rowT (.slice A11 R.length c11) R, rowT (.slice A8 J.recs.length c8) J.recs]) w12) := Lib.hid h
              clear h H11
              go_wp2_with fail
              refine (c_open H12.out HE.out HB.out (by simp [Jr.onD]) HEF.out).mono ?_
              rintro e w13 ⟨j17, v17, rfl, h, _⟩
              obtain ⟨A17, c17, rfl⟩ := row_shape (h.focus 1 (by simp)).row.1
              have H13 : Hid (Hp w.heap.size w (Th.all [jnT j17 db ⟨E.st.length, cc, recs, false⟩, rowT (.slice A17 recs.length c17) recs, diskT db F, rowT (.slice A11 R.length c11) R, rowT (.slice A8 J.recs.length c8) J.recs]) w13) := Lib.hid h
              clear h H12
              go_wp2_with fail
              refine (same_any _ A17 A8 c17 c8 recs J.recs (Strs.of_own (H13.out.focus 1 (by simp)).row.1).2 (Strs.of_own (H13.out.focus 4 (by simp)).row.1).2).mono ?_
              rintro e w14 ⟨rfl, hb⟩
              rw [HB0.out]
              have H14 := Lib.hid (H13.out.newer hb)
              clear hb H13
              go_wp2_with fail
              refine (same_any _ A17 A11 c17 c11 recs R (Strs.of_own (H14.out.focus 1 (by simp)).row.1).2 (Strs.of_own (H14.out.focus 3 (by simp)).row.1).2).mono ?_
              rintro e w15 ⟨rfl, hb⟩
              rw [HB1.out]
              have H15 := Lib.hid (H14.out.newer hb)
              clear hb H14
              clear HB0 HB1 HAF HEA HEO
              rcases HCS.out with ⟨rfl, rfl, rfl⟩ | ⟨rfl, rfl, rfl⟩ | ⟨rfl, rfl⟩ | ⟨rfl, rfl⟩ | ⟨rfl, rfl⟩ | ⟨rfl, rfl, rfl⟩
              all_goals
                go_wp2
                go_roundw
                case rel => exact ⟨k + 1, by omega, by go_num, j17, ⟨E.st.length, cc, recs, false⟩, F, rfl, ((H15.out.pick [3, 4, 2, 0, 1] rfl).drop).drop, HFR.out, HFA.out, HFQ.out, HEN.out, HLEN.out⟩
                case measure => simp [intOf]; omega
    · obtain rfl : N = k := by omega
      clear hlt hk
      go_wp2
      go_ret
      exact ⟨rfl, HP.out.bel⟩
end Go.Proofs.YthhkadeiplbdkaaDoor
