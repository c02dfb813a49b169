/- The walk of JournalRoom. -/
import Derived.Test.YthhkadeiplbdkaaGreatDoorJrL6
import Derived.Test.YthhkadeiplbdkaaGreatDoorJrR2
set_option linter.unusedVariables false
set_option linter.unusedSimpArgs false
namespace Go.Proofs.YthhkadeiplbdkaaGreatDoor
open Go.RowKit

def RoomAt (w : World) (m db jb : Nat) (k : Nat) (J : Jn) (D : Dk) (wr : World) : Prop :=
  Hp w.heap.size w (Th.all [jnT jb db J, diskT db D]) wr ∧ Jr.Right D J ∧ D.al = none ∧ D.q = [] ∧ J.n = m ∧ J.recs.length ≤ 20 * k

set_option maxRecDepth 100000 in
set_option maxHeartbeats 8000000 in
theorem journalRoom_walk (w : World) (hE : Env w) (n : Int) (hn64 : Dk.i64 n) (A : Option Addr) (N c : Nat) (l : List Op) (hl : OpsAt w A N l) :
    Calls Tryz.prog 3 #[.int .i64 n, .slice A N c] w fun e w' => e = .returned (.bool true) ∧ Below w.heap.size w w' := by
  have HE := Lib.hid hE
  have HB := Lib.hid hE.size
  have HL := Lib.hid hl
  have HN := Lib.hid hl.len
  clear hE hl
  go_enter Tryz.func3, Tryz.ntmps3
  go_wp2_with fail
  refine (lhead_any w HE.out).mono ?_
  rintro e w1 ⟨rfl, hb⟩
  have HB1 : Hid (Hp w.heap.size w (Th.all []) w1) := Lib.hid ((Hp.start0 w).newer hb)
  have HL1 := Lib.hid (HL.out.below hb)
  clear hb
  go_wp2_with fail
  refine (light_any w1 n A N c l HL1.out).mono ?_
  rintro e w2 ⟨⟨b, rfl, hlt⟩, rfl⟩
  cases b
  · clear hlt
    go_wp2
    go_ret
    exact ⟨rfl, HB1.out.bel⟩
  have HLT := Lib.hid (hlt rfl)
  clear hlt
  by_cases h1 : n < 1
  · go_wp2_with fail
    refine (new_no w1 n (by omega)).mono ?_
    rintro e w2 ⟨rfl, rfl⟩
    go_wp2_with fail
    refine (open_nil _).mono ?_
    rintro e w3 ⟨rfl, hb⟩
    have H3 := Lib.hid (HB1.out.newer hb).bel
    clear hb
    go_wp2
    go_ret
    exact ⟨rfl, H3.out⟩
  obtain ⟨m, rfl⟩ := Int.eq_ofNat_of_zero_le (show 0 ≤ n by omega)
  have hm40 : m ≤ 40 := by have := HLT.out.n; omega
  by_cases h3 : m < 3
  · have H1 : Hid (Jr.opn (Dk.new m) = (Dk.new m, none, 1)) := Lib.hid (by
      have hlt : (Dk.new m).st.length < 3 := by simp [Dk.new]; omega
      unfold Jr.opn
      rw [if_neg (by simp [Dk.new]), if_pos hlt])
    go_wp2_with fail
    refine (c_new m (by omega) (by omega) HB1.out).mono ?_
    rintro e w2 ⟨db, rfl, h, _⟩
    have H2 := Lib.hid h
    clear h
    go_wp2_with fail
    refine (c_open_no H2.out HE.out HB.out (by simp [Dk.new]) H1.out).mono ?_
    rintro e w3 ⟨rfl, h, _⟩
    have H3 := Lib.hid h.bel
    clear h
    go_wp2
    go_ret
    exact ⟨rfl, H3.out⟩
  have HR0 := Lib.hid (Jr.new_right m (by omega) (by omega))
  have HM := Lib.hid (show m ≤ 40 ∧ 3 ≤ m by omega)
  go_wp2_with fail
  refine (c_new m (by omega) (by omega) HB1.out).mono ?_
  rintro e w2 ⟨db, rfl, h, _⟩
  have H2 := Lib.hid h
  clear h
  go_wp2_with fail
  refine (c_open H2.out HE.out HB.out (by simp [Dk.new]) (Jr.opn_right HR0.out)).mono ?_
  rintro e w3 ⟨jb, v3, rfl, h, _⟩
  have H3 : Hid (RoomAt w m db jb 0 ⟨m, 0, [], false⟩ (Dk.new m) w3) := Lib.hid ⟨(h.pick [1, 0, 2] rfl).drop, HR0.out, rfl, rfl, rfl, Nat.zero_le _⟩
  have e0 : IntKind.i64.wrap ((m : Int) - 2) = (m : Int) - 2 := by rw [IntKind.wrap_i64]; omega
  clear h H2 HR0 h1 h3
  have hmax := HL.out.max
  have HN16 : Hid (N ≤ 16) := Lib.hid (by have := HLT.out.len; have := HN.out; omega)
  go_wp2_with fail
  go_loopw [9, 10] (fun r i wr => ∃ k : Nat, k ≤ N ∧ i = .int .i64 (k : Int) ∧ ∃ J D, r = .int .i64 ((m : Int) - 2 - (J.c : Int)) ∧ RoomAt w m db jb k J D wr) (fun _ i _ => N - (intOf i).toNat)
  case atStart => exact ⟨0, Nat.zero_le _, rfl, _, _, by simp, H3.out⟩
  case round =>
    obtain ⟨k, hk, rfl, J, D, rfl, hp, hr, ha, hq, hjn, hrl⟩ := hrel
    have HP := Lib.hid hp
    have HR := Lib.hid hr
    have HA := Lib.hid ha
    have HQ := Lib.hid hq
    have HJN := Lib.hid hjn
    have HRL := Lib.hid hrl
    clear hp hr ha hq hjn hrl H3
    by_cases hlt : k < N
    · obtain ⟨b, o, x, rfl, hbl, hget, hmem, _, y1, _, _, _, hst, hout, _⟩ := HL.out.get HP.out.bel hlt
      have HG := Lib.hid hget
      have HOU := Lib.hid hout
      have HONE := Lib.hid (HLT.out.one hmem)
      have k0 : (0 : Int) ≤ (k : Int) := by omega
      have k1 : (k : Int) < (N : Int) := by omega
      have hbw : b < w.heap.size := by
        obtain ⟨b', o', x', e', hb', _⟩ := HL.out.get (Below.refl _ _) hlt
        injection e' with e'
        injection e' with e'
        rw [e']; exact hb'
      have HBW := Lib.hid hbw
      have HSTW := Lib.hid (fun W (h : Below w.heap.size w W) => show Strs W x.A x.list from (HL.out.below h).lists x hmem)
      have Y1 := Lib.hid (fun W (h : Below w.heap.size w W) => show W.cell? ⟨b, o + k * 5 + 1, none⟩ = _ from (h.cell (p := ⟨b, o + k * 5 + 1, none⟩) hbw).trans ((HP.out.bel.cell (p := ⟨b, o + k * 5 + 1, none⟩) hbw).symm.trans y1))
      have HXS : Hid (∀ y ∈ x.list, y.length ≤ 6000) := Lib.hid fun y hy => by
        have h1 := HONE.out.2.2
        obtain ⟨a1, a2, e⟩ := List.append_of_mem hy
        rw [e, sz_append, sz_cons] at h1
        omega
      have HX20 := HONE.out.2.1
      clear hget hmem hst hout hbw y1
      go_wp2_with fail
      refine (c_records HP.out (by have := HRL.out; have := HN16.out; omega)).mono ?_
      rintro e w4 ⟨v4, rfl, h, _⟩
      obtain ⟨A4, c4, rfl⟩ := row_shape h.row.1
      have H4 : Hid (Hp w.heap.size w (Th.all [jnT jb db J, diskT db D, rowT (.slice A4 J.recs.length c4) J.recs]) w4) := Lib.hid (h.pick [1, 2, 0] rfl)
      clear h HP
      have y4 := Y1.out w4 H4.out.bel
      have l4 := Nat.lt_of_lt_of_le HBW.out H4.out.bel.size
      go_wp2_with fail
      refine (rtext_any w4 x.A x.c x.list (joined_any w4 x.A x.c x.list (HSTW.out w4 H4.out.bel) (by omega) fun y hy => by have := HXS.out y hy; omega)).mono ?_
      rintro e w5 ⟨rfl, hb⟩
      have H5 := Lib.hid (H4.out.newer hb)
      clear hb H4 y4 l4
      go_wp2_with fail
      refine (pieces_any w5 (Jr.text x.list) (by have := HONE.out.1; omega)).mono ?_
      rintro e w6 ⟨v6, rfl, ho6, hb⟩
      have H6 := Lib.hid (H5.out.newer hb)
      obtain ⟨A6, c6, rfl⟩ := row_shape ho6
      clear hb H5 ho6
      have hpl : (Jr.pieces (Jr.text x.list)).length ≤ 1000 := by rw [Jr.pieces_length]; have := HONE.out.1; omega
      have y6 := Y1.out w6 H6.out.bel
      have l6 := Nat.lt_of_lt_of_le HBW.out H6.out.bel.size
      obtain ⟨P, hP⟩ : ∃ P, (Jr.pieces (Jr.text x.list)).length = P := ⟨_, rfl⟩
      have HPP := Lib.hid hP
      rw [hP] at hpl ⊢
      clear hP
      go_wp2_with fail
      refine (long_any w6 x.A x.c x.list (HSTW.out w6 H6.out.bel) fun y hy => by have := HXS.out y hy; omega).mono ?_
      rintro e w7 ⟨rfl, rfl⟩
      obtain ⟨D2, J2, e2, hr2, ha2, hn2, hcase⟩ := Jr.app_any x.list HR.out HA.out
      rw [HPP.out] at e2 hcase
      have HCA := Lib.hid (fun W1 (hb : Below w6.heap.size w6 W1) => c_append (c := x.c) H6.out hb HE.out HB.out (HSTW.out W1 (bthen H6.out.bel H6.out.size hb)) (fun h0 b o e => .inl (HOU.out h0 b o e)) (by have := HJN.out; have := HM.out; omega) (by have := HR.out.c; have := HJN.out; have := HM.out; omega) (by have := HONE.out.1; omega) (by rw [HQ.out]; simp) (by have := HRL.out; have := HN16.out; omega) e2)
      have HR2 := Lib.hid hr2
      have HA2 := Lib.hid ha2
      have HN2 := Lib.hid hn2
      have HC := Lib.hid hcase
      have hJc := HR.out.c
      have hJ2c := HR2.out.c
      have hjm := HJN.out
      clear hr2 ha2 hn2 hcase e2
      have hjm' : (J.n : Int) - 2 - (J.c : Int) = (m : Int) - 2 - (J.c : Int) := by rw [HJN.out]
      have HJN4 : Hid (J.n ≤ 4000 ∧ J.c ≤ 4000) := Lib.hid (by have := HJN.out; have := HM.out; omega)
      clear hJc hJ2c hjm
      cases hlo : Jr.long x.list
      · rw [hlo] at HCA HC
        by_cases hf : J.n < 2 + J.c + P
        · have x1 : (m : Int) - 2 - (J.c : Int) < (P : Int) := by have := HJN.out; omega
          have x2 : decide ((m : Int) - 2 - (J.c : Int) < (P : Int)) = true := decide_eq_true x1
          rw [if_neg (by simp), if_pos hf] at HCA
          obtain ⟨rfl, rfl⟩ : D2 = D ∧ J2 = J := by
            rcases HC.out with ⟨_, h1, h2⟩ | ⟨_, h1, _⟩
            · exact ⟨h1, h2⟩
            · omega
          clear hlo hf HC
          go_wp2_with fail
          refine (HCA.out _ (Below.refl _ _)).mono ?_
          rintro e w8 ⟨rfl, h, _⟩
          have H8 := Lib.hid h
          clear h HCA
          go_wp2_with fail
          refine (c_room H8.out HJN4.out.1 HJN4.out.2).mono ?_
          rintro e w9 ⟨rfl, h, _⟩
          have H9 := Lib.hid h
          rw [hjm']
          clear h H8
          go_wp2_with fail
          refine (c_records H9.out (by have := HRL.out; have := HN16.out; omega)).mono ?_
          rintro e w10 ⟨v10, rfl, h, _⟩
          obtain ⟨A10, c10, rfl⟩ := row_shape h.row.1
          have H10 := Lib.hid h
          clear h H9
          go_wp2_with fail
          refine (same_any _ A10 A4 c10 c4 J2.recs J2.recs (Strs.of_own (H10.out.focus 0 (by simp)).row.1).2 (Strs.of_own (H10.out.focus 3 (by simp)).row.1).2).mono ?_
          rintro e w11 ⟨rfl, hb⟩
          rw [decide_eq_true (rfl : J2.recs = J2.recs)]
          have H11 := Lib.hid (H10.out.newer hb)
          clear hb H10
          go_wp2
          go_roundw
          case rel => exact ⟨k + 1, by omega, by go_num, J2, D2, rfl, ((H11.out.pick [0, 3, 1, 2] rfl).drop).drop, HR.out, HA.out, HQ.out, HJN.out, by have := HRL.out; omega⟩
          case measure => simp [intOf]; omega
        · have x1 : ¬ (m : Int) - 2 - (J.c : Int) < (P : Int) := by have := HJN.out; omega
          have x2 : decide ((m : Int) - 2 - (J.c : Int) < (P : Int)) = false := decide_eq_false x1
          rw [if_neg (by simp), if_neg hf] at HCA
          have hcg : J2.c = J.c + P ∧ J2.recs = J.recs ++ x.list ∧ (D.q = [] → D2.q = []) := by
            rcases HC.out with ⟨h1 | h1, _⟩ | ⟨_, _, h1, h2, h3⟩
            · cases h1
            · exact absurd h1 hf
            · exact ⟨h1, h2, h3⟩
          clear hlo hf HC
          have HCZ := Lib.hid hcg
          clear hcg
          have e1 : IntKind.i64.wrap ((m : Int) - 2 - (J.c : Int) - (P : Int)) = (m : Int) - 2 - (J.c : Int) - (P : Int) := by rw [IntKind.wrap_i64]; have := HM.out; omega
          have e2 : (J2.n : Int) - 2 - (J2.c : Int) = (m : Int) - 2 - (J.c : Int) - (P : Int) := by have := HN2.out; have := HCZ.out.1; have := HJN.out; omega
          have hJ2l : J2.n ≤ 4000 ∧ J2.c ≤ 4000 := by have := HN2.out; have := HR2.out.c; have := HJN4.out; omega
          have HJ2L := Lib.hid hJ2l
          clear hJ2l
          go_wp2_with fail
          refine (HCA.out _ (Below.refl _ _)).mono ?_
          rintro e w8 ⟨rfl, h, _⟩
          have H8 := Lib.hid h
          clear h HCA
          go_wp2_with fail
          obtain ⟨R, hR⟩ : ∃ R, J.recs ++ x.list = R := ⟨_, rfl⟩
          have HRR := Lib.hid hR
          clear hR
          have y8 := Y1.out w8 H8.out.bel
          have l8 := Nat.lt_of_lt_of_le HBW.out H8.out.bel.size
          go_cut [11] from 33 to 94 (fun v wc => ∃ A11 c11, v = .slice A11 R.length c11 ∧ Hp w.heap.size w (Th.all [rowT v R, jnT jb db J2, diskT db D2, rowT (.slice A4 J.recs.length c4) J.recs]) wc)
          case first =>
            have H0 : Hid (Hp w.heap.size w (Th.all [rowT (.slice (some ⟨w8.heap.size, 0, none⟩) 0 0) [], jnT jb db J2, diskT db D2, rowT (.slice A4 J.recs.length c4) J.recs]) (w8.alloc (.cells #[] 9)).drew) := Lib.hid ((H8.out.addc (a := rowT (.slice (some ⟨w8.heap.size, 0, none⟩) 0 0) []) ((Below.refl _ _).alloc (Nat.le_refl _) _) ⟨own_empty w8, fun k hk => by
              have : w8.heap.size = k := by simpa [Value.ownBlock] using hk
              omega⟩).newer (below_drewN (Below.refl _ _) 1))
            have HSB := Lib.hid (Strs.of_own (H0.out.focus 3 (by simp)).row.1).2
            have L1 : Hid (([] : List (List UInt8)).length + J.recs.length ≤ 1000000) := Lib.hid (by have := HRL.out; have := HN16.out; simp; omega)
            have L2 : Hid (J.recs.length + x.list.length ≤ 1000000) := Lib.hid (by have := HRL.out; have := HN16.out; have := HONE.out.2.1; omega)
            go_region_held3 (fun w' => w'.cell? ⟨b, o + k * 5 + 1, none⟩ = some (.slice x.A x.list.length x.c))
              (first | exact m2 | exact m1 | go_keep)
              (first
              | (have _t := HP4; refine step_append_strs rfl (.tmp 72) (.tmp 77) rfl v4 J.recs (by simp [Act.eval, Act.put]) HP4.out.row.1 x.A x.c x.list (by simp [Act.eval, Act.put]) HS4.out L2.out ?_; intro v5 w5' hown5 hg5 hat5; have HP5' := HP4.out.append hg5 hown5 hat5; rw [HRR.out] at HP5'; have HP5 := Lib.hid HP5'; clear HP5'; have m2 := Y1.out w5' HP5.out.bel; clear hown5 hg5 hat5)
              | (refine step_append_strs rfl (.tmp 70) (.tmp 71) rfl (.slice (some ⟨w8.heap.size, 0, none⟩) 0 0) [] (by simp [Act.eval, Act.put]) H0.out.row.1 A4 c4 J.recs (by simp [Act.eval, Act.put]) HSB.out L1.out ?_; intro v4 w4' hown4 hg4 hat4; have HP4 := Lib.hid (H0.out.append (ys := J.recs) hg4 hown4 hat4); have m1 := Y1.out w4' HP4.out.bel; have HS4 := Lib.hid (HSTW.out w4' HP4.out.bel); clear hown4 hg4 hat4))
            go_wp2_with fail
            go_meet
            obtain ⟨A11, c11, hv11⟩ := row_shape HP5.out.row.1
            exact ⟨A11, c11, hv11, HP5.out⟩
          case rest =>
            obtain ⟨A11, c11, rfl, hp5⟩ := hcut
            have H9 : Hid (Hp w.heap.size w (Th.all [jnT jb db J2, diskT db D2, rowT (.slice A11 R.length c11) R, rowT (.slice A4 J.recs.length c4) J.recs]) wc) := Lib.hid (hp5.pick [1, 2, 0, 3] rfl)
            clear hp5 H8
            go_wp2_with fail
            refine (c_room H9.out HJ2L.out.1 HJ2L.out.2).mono ?_
            rintro e w10 ⟨rfl, h, _⟩
            have H10 := Lib.hid h
            rw [e2]
            clear h H9
            go_wp2_with fail
            refine (c_records H10.out (by rw [HCZ.out.2.1, List.length_append]; have := HRL.out; have := HN16.out; have := HONE.out.2.1; omega)).mono ?_
            rintro e w11 ⟨v11, rfl, h, _⟩
            rw [HCZ.out.2.1, HRR.out] at h
            obtain ⟨A12, c12, rfl⟩ := row_shape h.row.1
            have H11 := Lib.hid h
            clear h H10
            go_wp2_with fail
            refine (same_any _ A12 A11 c12 c11 R R (Strs.of_own (H11.out.focus 0 (by simp)).row.1).2 (Strs.of_own (H11.out.focus 3 (by simp)).row.1).2).mono ?_
            rintro e w12 ⟨rfl, hb⟩
            rw [decide_eq_true (rfl : R = R)]
            have H12 := Lib.hid (H11.out.newer hb)
            clear hb H11
            go_wp2
            go_roundw
            case rel => exact ⟨k + 1, by omega, by go_num, J2, D2, by rw [← e2, HN2.out, HJN.out], (((H12.out.pick [0, 3, 4, 1, 2] rfl).drop).drop).drop, HR2.out, HA2.out, HCZ.out.2.2 HQ.out, by rw [HN2.out, HJN.out], by rw [HCZ.out.2.1, List.length_append]; have := HRL.out; have := HONE.out.2.1; omega⟩
            case measure => simp [intOf]; omega
      · rw [hlo] at HCA HC
        rw [if_pos rfl] at HCA
        obtain ⟨rfl, rfl⟩ : D2 = D ∧ J2 = J := by
          rcases HC.out with ⟨_, h1, h2⟩ | ⟨h1, _⟩
          · exact ⟨h1, h2⟩
          · cases h1
        have x0 : ∃ bb : Bool, decide ((m : Int) - 2 - (J2.c : Int) < (P : Int)) = bb := ⟨_, rfl⟩
        clear hlo HC
        go_wp2_with fail
        refine (HCA.out _ (Below.refl _ _)).mono ?_
        rintro e w8 ⟨rfl, h, _⟩
        have H8 := Lib.hid h
        clear h HCA
        go_wp2_with fail
        refine (c_room H8.out HJN4.out.1 HJN4.out.2).mono ?_
        rintro e w9 ⟨rfl, h, _⟩
        have H9 := Lib.hid h
        rw [hjm']
        clear h H8
        go_wp2_with fail
        refine (c_records H9.out (by have := HRL.out; have := HN16.out; omega)).mono ?_
        rintro e w10 ⟨v10, rfl, h, _⟩
        obtain ⟨A10, c10, rfl⟩ := row_shape h.row.1
        have H10 := Lib.hid h
        clear h H9
        go_wp2_with fail
        refine (same_any _ A10 A4 c10 c4 J2.recs J2.recs (Strs.of_own (H10.out.focus 0 (by simp)).row.1).2 (Strs.of_own (H10.out.focus 3 (by simp)).row.1).2).mono ?_
        rintro e w11 ⟨rfl, hb⟩
        rw [decide_eq_true (rfl : J2.recs = J2.recs)]
        have H11 := Lib.hid (H10.out.newer hb)
        clear hb H10
        go_wp2
        go_roundw
        case rel => exact ⟨k + 1, by omega, by go_num, J2, D2, rfl, ((H11.out.pick [0, 3, 1, 2] rfl).drop).drop, HR.out, HA.out, HQ.out, HJN.out, by have := HRL.out; omega⟩
        case measure => simp [intOf]; omega
    · obtain rfl : N = k := by omega
      clear hlt hk
      go_wp2
      go_ret
      exact ⟨rfl, HP.out.bel⟩
end Go.Proofs.YthhkadeiplbdkaaGreatDoor
