/- The walk of JournalForeign. -/
import Derived.Test.YthhkadeiplbdkaaDoorJrL6
set_option linter.unusedVariables false
set_option linter.unusedSimpArgs false
namespace Go.Proofs.YthhkadeiplbdkaaDoor
open Go.RowKit

set_option maxHeartbeats 400000 in
theorem rzeros_any (w : World) (n : Nat) (hn : n ≤ 100000) : Calls Tryd.prog 47 #[.int .i64 (n : Int)] w fun e w' => e = .returned (.string (Dk.str (List.replicate n 0))) ∧ Below w.heap.size w w' := by
  have hmk := fun W => new_run n (by omega) W
  have hcv : ∀ W : World, (convert 51 9 (.slice (some ⟨W.heap.size, 0, none⟩) n n)).run Tryd.prog (W.alloc (.cells (madeCells #[.int .u8 0] n) 5)) = .ok (.string (Dk.str (List.replicate n 0))) (W.alloc (.cells (madeCells #[.int .u8 0] n) 5)) := by
    intro W
    refine convert_bytes _ _ _ 5 Tryd.underlying51 Tryd.underlying5 Tryd.underlying9 W.heap.size 0 n n (List.replicate n 0) (by simp) fun i hi => ?_
    have h1 := toList_madeCells_one (.int .u8 0) n
    have h2 := (Blk.new W 5 (madeCells #[.int .u8 0] n)).cell i
    rw [Nat.zero_add, h2, ← Array.getElem?_toList, h1]
    simp [hi, List.getD_eq_getElem?_getD]
  go_enter Tryd.func47, Tryd.ntmps47
  go_wp2
  go_ret
  exact ⟨rfl, (Below.refl _ _).alloc (Nat.le_refl _) _⟩
set_option maxHeartbeats 400000 in
theorem rzero_any (w : World) : Calls Tryd.prog 20 #[] w fun e w' => e = .returned (.string (Dk.str Jr.zeros)) ∧ Below w.heap.size w w' := by
  have HC := Lib.hid (rzeros_any w 64 (by omega))
  change Hid (Calls _ _ _ _ fun e w' => e = .returned (.string (Dk.str Jr.zeros)) ∧ Below w.heap.size w w') at HC
  go_enter Tryd.func20, Tryd.ntmps20
  go_wp2_with fail
  refine HC.out.mono ?_
  rintro e w1 ⟨rfl, hb⟩
  go_wp2
  go_ret
  exact ⟨rfl, hb⟩

set_option maxRecDepth 100000 in
set_option maxHeartbeats 4000000 in
theorem journalForeign_walk (w : World) (hE : Env w) (A : Option Addr) (N c : Nat) (xs : List (List UInt8)) (hN : xs.length = N) (hx : Strs w A xs) (hsm : ∀ x ∈ xs, x.length ≤ 140737488351232) :
    Calls Tryd.prog 6 #[.slice A N c] w fun e w' => e = .returned (.bool true) ∧ Below w.heap.size w w' := by
  have HE := Lib.hid hE
  have HB := Lib.hid hE.size
  have HX := Lib.hid hx
  have HSM := Lib.hid hsm
  have HN := Lib.hid hN
  have hm := hx.len
  rw [hN] at hm
  clear hE hx hsm hN
  by_cases h3 : N < 3
  · go_enter Tryd.func6, Tryd.ntmps6
    go_wp2_with fail
    refine (lhead_any w HE.out).mono ?_
    rintro e w1 ⟨rfl, hb⟩
    have HB1 := Lib.hid hb
    clear hb
    go_wp2
    go_ret
    exact ⟨rfl, HB1.out⟩
  · by_cases h40 : 40 < N
    · have hd3 : decide ((N : Int) < 3) = false := decide_eq_false (by omega)
      go_enter Tryd.func6, Tryd.ntmps6
      go_wp2_with fail
      refine (lhead_any w HE.out).mono ?_
      rintro e w1 ⟨rfl, hb⟩
      have HB1 := Lib.hid hb
      clear hb
      go_wp2
      go_ret
      exact ⟨rfl, HB1.out⟩
    · have hd3 : decide ((N : Int) < 3) = false := decide_eq_false (by omega)
      have hd40 : decide ((40 : Int) < (N : Int)) = false := decide_eq_false (by omega)
      have H0 := Lib.hid (Jr.foreign_inv (n := N) (by omega) (by omega))
      go_enter Tryd.func6, Tryd.ntmps6
      go_wp2_with fail
      refine (lhead_any w HE.out).mono ?_
      rintro e w1 ⟨rfl, hb⟩
      have HB1 : Hid (Hp w.heap.size w (Th.all []) w1) := Lib.hid ((Hp.start0 w).newer hb)
      clear hb
      go_wp2_with fail
      refine (c_new N (by omega) (by omega) HB1.out).mono ?_
      rintro e w2 ⟨db, rfl, h, _⟩
      have H2 : Hid (Hp w.heap.size w (Th.all [diskT db (Jr.foreign N (xs.take 0))]) w2) := Lib.hid h
      clear h HB1
      go_wp2_with fail
      go_loopw [5] (fun i wr => ∃ k : Nat, k ≤ N ∧ i = .int .i64 (k : Int) ∧ Hp w.heap.size w (Th.all [diskT db (Jr.foreign N (xs.take k))]) wr) (fun i _ => N - (intOf i).toNat)
      case atStart => exact ⟨0, Nat.zero_le _, rfl, H2.out⟩
      case round =>
        obtain ⟨k, hk, rfl, hp⟩ := hrel
        have HP := Lib.hid hp
        clear hp
        by_cases hlt : k < N
        · obtain ⟨b, o, e1, hbl, hc⟩ := HX.out.at_ (by rw [HN.out]; omega)
          subst e1
          have hkx : k < xs.length := by rw [HN.out]; exact hlt
          have q1 := (HP.out.bel.cell (p := ⟨b, o + k, none⟩) hbl).trans (hc k hkx)
          have HBL : Hid (b < w.heap.size) := Lib.hid hbl
          have lb : b < wr.heap.size := Nat.lt_of_lt_of_le hbl HP.out.bel.size
          have HG := Lib.hid (List.getElem?_eq_getElem hkx)
          have hxs := HSM.out _ (List.getElem_mem hkx)
          obtain ⟨x, hxe⟩ : ∃ x, xs[k] = x := ⟨_, rfl⟩
          rw [hxe] at q1 HG hxs
          have hsz : (Dk.str x).size = x.length := Dk.str_size x
          have k0 : (0 : Int) ≤ (k : Int) := by omega
          have k1 : (k : Int) < (N : Int) := by omega
          have HFT : Hid ((Dk.str x ++ Dk.str Jr.zeros).extract 0 64 = Dk.str (Jr.fit x)) := Lib.hid (by rw [str_append, str_extract]; rfl)
          have hzs : (Dk.str Jr.zeros).size = 64 := by rw [Dk.str_size]; rfl
          have hcat : (Dk.str x ++ Dk.str Jr.zeros).size = x.length + 64 := by rw [str_append, Dk.str_size, List.length_append]; rfl
          obtain ⟨z, hz⟩ : ∃ z, Dk.str Jr.zeros = z := ⟨_, rfl⟩
          have HZ : Hid (∀ w : World, Calls Tryd.prog 20 #[] w fun e w' => e = .returned (.string z) ∧ Below w.heap.size w w') := Lib.hid (fun w => by rw [← hz]; exact rzero_any w)
          rw [hz] at HFT hcat hzs
          obtain ⟨s, hs⟩ : ∃ s, Dk.str x = s := ⟨_, rfl⟩
          rw [hs] at q1 HFT hcat hsz
          clear hc hkx hxe hz hs
          by_cases h100 : 100 < x.length
          · have h1 : (100 : Int) < (s.size : Int) := by omega
            clear hsz
            go_wp2
            go_ret
            exact ⟨rfl, HP.out.bel⟩
          · have h1 : ¬ (100 : Int) < (s.size : Int) := by omega
            have hs100 : s.size ≤ 100 := by omega
            have HCAT := Lib.hid hcat
            have HX100 := Lib.hid h100
            have hz64 : z.size ≤ 64 := by omega
            have hsz9 : ¬ 9223372036854775807 < s.size + z.size := by omega
            clear hcat hsz hzs
            go_wp2_with fail
            go_cut [6] from 40 to 52 (fun v wc => v = .string (s ++ z) ∧ Hp w.heap.size w (Th.all [diskT db (Jr.foreign N (xs.take k))]) wc)
            case first =>
              go_region_held3 (fun w' => w'.cell? ⟨b, o + k, none⟩ = some (.string s))
                (first | exact m0 | go_keep)
                (first
                | (go_at_call 20; refine Calls.mono (HZ.out _) ?_; rintro e w7 ⟨rfl, hb7⟩; have H7 := Lib.hid (HP.out.newer (bthen (below_drewN (Below.refl _ _) 1) (Nat.le_refl _) hb7)); have m0 := (hb7.cell (p := ⟨b, o + k, none⟩) lb).trans q1; clear hb7))
              go_wp2_with fail
              go_meet
              exact ⟨rfl, H7.out⟩
            case rest =>
              obtain ⟨rfl, hp7⟩ := hcut
              have HP7 := Lib.hid hp7
              obtain ⟨t, ht⟩ : ∃ t, s ++ z = t := ⟨_, rfl⟩
              rw [ht] at HFT HCAT ⊢
              have ht1 : 64 ≤ t.size := by have := HCAT.out; omega
              have ht2 : (64 : Int) ≤ (t.size : Int) := by omega
              clear hp7 ht q1 lb
              have HW := Lib.hid (c_disk HP7.out (Below.refl _ _) fun S hS => write_any wc S db _ (k : Int) (Dk.str (Jr.fit x)) hS (by rw [Dk.str_size, Jr.fit_len]; omega) (by simp [Jr.foreign, Jr.pend_length]; have := HN.out; omega))
              rw [Jr.foreign_step hlt HG.out] at HW
              rw [← HFT.out] at HW
              clear h100
              go_wp2_with fail
              refine HW.out.mono ?_
              rintro e w8 ⟨rfl, h, _⟩
              have HP8 := Lib.hid h
              clear h HW HP7
              go_wp2_with fail
              go_roundw
              case rel => exact ⟨k + 1, by omega, by go_num, HP8.out⟩
              case measure => simp [intOf]; omega
        · obtain rfl : N = k := by omega
          have hT : xs.take N = xs := List.take_of_length_le (Nat.le_of_eq HN.out)
          rw [hT] at HP
          have HI := Lib.hid (H0.out xs (Nat.le_of_eq HN.out))
          have hq : (Jr.foreign N xs).q.length ≤ 40 := by simp [Jr.foreign, Jr.pend_length]; have := HN.out; omega
          have HQ := Lib.hid hq
          have hr : Jr.Ready (Jr.foreign N xs) := ⟨rfl, rfl⟩
          have hn3 : 3 ≤ (Jr.foreign N xs).st.length := by simp [Jr.foreign, Dk.new]; omega
          have hor := Jr.opn_or HI.out hr.1 hn3
          have hst : (Jr.foreign N xs).st.length = N := by simp [Jr.foreign, Dk.new]
          have HOR : Hid (Jr.opn (Jr.foreign N xs) = (Jr.foreign N xs, none, 27) ∨ ∃ D J, Jr.opn (Jr.foreign N xs) = (D, some J, 0) ∧ Jr.Right D J ∧ D.al = none ∧ D.q.length ≤ 1000 ∧ J.recs.length ≤ 100000 ∧ J.n = N) := Lib.hid (by
            rcases hor with h | ⟨c', recs, hcan⟩
            · exact .inl h
            · obtain ⟨D', e1, e2, e3, _⟩ := Jr.opn_can HI.out hr hn3 hcan
              rw [hst] at e1 e2
              refine .inr ⟨D', _, e1, e2, e3, ?_, Jr.recs_len e2 (by show N ≤ 40; omega), rfl⟩
              exact Nat.le_trans (Jr.opn_q e1) (by omega))
          clear hT hq hr hn3 hor hst hlt hk H2 H0
          rcases HOR.out with ho | ⟨D, J, ho, hri, hal, hqn, hrl, hjn⟩
          · go_wp2_with fail
            refine (c_open_no HP.out HE.out HB.out (by have := HQ.out; omega) ho).mono ?_
            rintro e w3 ⟨rfl, h, _⟩
            have H3 := Lib.hid h.bel
            clear h ho HOR HP
            go_wp2
            go_ret
            exact ⟨rfl, H3.out⟩
          · have HRI := Lib.hid hri
            have HAL := Lib.hid hal
            have HQN := Lib.hid hqn
            have HRL := Lib.hid hrl
            have HJN : Hid (J.n ≤ 4000 ∧ J.c ≤ 4000) := Lib.hid (by have := hri.c; omega)
            clear hri hal hqn hrl hjn
            go_wp2_with fail
            refine (c_open HP.out HE.out HB.out (by have := HQ.out; omega) ho).mono ?_
            rintro e w3 ⟨jb, v3, rfl, h, _⟩
            obtain ⟨A3, c3, rfl⟩ := row_shape (h.focus 1 (by simp)).row.1
            have H3 : Hid (Hp w.heap.size w (Th.all [jnT jb db J, diskT db D, rowT (.slice A3 J.recs.length c3) J.recs]) w3) := Lib.hid (h.pick [0, 2, 1] rfl)
            clear h ho HOR HP
            go_wp2_with fail
            refine (c_room H3.out HJN.out.1 HJN.out.2).mono ?_
            rintro e w4 ⟨rfl, h, _⟩
            have H4 := Lib.hid h
            clear h H3
            obtain ⟨D2, J2, e2, hr2, ha2, hn2, hcase⟩ := Jr.app_any [[120]] HRI.out HAL.out
            rw [Jr.one_long 120, if_neg (by simp), Jr.one_pieces 120] at e2
            rw [Jr.one_long 120, Jr.one_pieces 120] at hcase
            have HR2 := Lib.hid hr2
            have hJ2 : J2.n ≤ 4000 ∧ J2.c ≤ 4000 := by have := hr2.c; have := HJN.out; omega
            clear hr2 ha2 hn2 hJ2
            by_cases hf : J.n < 2 + J.c + 1
            · rw [if_pos hf] at e2
              obtain ⟨rfl, rfl⟩ : D2 = D ∧ J2 = J := by
                rcases hcase with ⟨_, h1, h2⟩ | ⟨_, h1, _⟩
                · exact ⟨h1, h2⟩
                · omega
              have HA := Lib.hid e2
              have x0 : ¬ (0 : Int) < (J2.n : Int) - 2 - (J2.c : Int) := by omega
              have x1 : decide ((0 : Int) < (J2.n : Int) - 2 - (J2.c : Int)) = false := decide_eq_false x0
              have x2 : decide ((J2.c : Int) < (J2.n : Int) - 2) = false := decide_eq_false (by omega)
              clear e2 hcase hf
              go_wp2_with fail
              refine (c_append H4.out ((Below.refl _ _).alloc (Nat.le_refl _) _) HE.out HB.out (strs_one w4 [120]) out_new HJN.out.1 HJN.out.2 (by decide) (by have := HQN.out; omega) HRL.out HA.out).mono ?_
              rintro e w5 ⟨rfl, h, _⟩
              have H5 : Hid (Hp w.heap.size w (Th.all [diskT db D2, jnT jb db J2, rowT (.slice A3 J2.recs.length c3) J2.recs]) w5) := Lib.hid (h.pick [1, 0, 2] rfl)
              clear h H4
              go_wp2_with fail
              refine (c_open H5.out HE.out HB.out (by have := HQN.out; omega) (Jr.opn_right HR2.out)).mono ?_
              rintro e w6 ⟨j6, v6, rfl, h, _⟩
              obtain ⟨A6, c6, rfl⟩ := row_shape (h.focus 1 (by simp)).row.1
              have H6 := Lib.hid h
              clear h H5
              go_wp2_with fail
              refine (same_any _ A3 A6 c3 c6 J2.recs J2.recs (Strs.of_own (H6.out.focus 4 (by simp)).row.1).2 (Strs.of_own (H6.out.focus 1 (by simp)).row.1).2).mono ?_
              rintro e w7 ⟨rfl, hb⟩
              rw [decide_eq_true (rfl : J2.recs = J2.recs)]
              have H7 := Lib.hid (H6.out.newer hb).bel
              clear hb H6
              go_wp2
              go_ret
              exact ⟨rfl, H7.out⟩
            · rw [if_neg hf] at e2
              have hrec : J2.recs = J.recs ++ [[120]] := by
                rcases hcase with ⟨h1 | h1, _⟩ | ⟨_, _, _, h4, _⟩
                · cases h1
                · exact absurd h1 hf
                · exact h4
              have HREC := Lib.hid hrec
              have HA := Lib.hid e2
              have HQ2 : Hid (D2.q.length ≤ 100000) := Lib.hid (by have h1 := Jr.app_q e2; rw [Jr.one_pieces 120] at h1; have := HQN.out; omega)
              have x0 : (0 : Int) < (J.n : Int) - 2 - (J.c : Int) := by omega
              have x1 : decide ((0 : Int) < (J.n : Int) - 2 - (J.c : Int)) = true := decide_eq_true x0
              have x2 : decide ((J.c : Int) < (J.n : Int) - 2) = true := decide_eq_true (by omega)
              clear e2 hcase hf hrec
              go_wp2_with fail
              refine (c_append H4.out ((Below.refl _ _).alloc (Nat.le_refl _) _) HE.out HB.out (strs_one w4 [120]) out_new HJN.out.1 HJN.out.2 (by decide) (by have := HQN.out; omega) HRL.out HA.out).mono ?_
              rintro e w5 ⟨rfl, h, _⟩
              have H5b : Hid (Hp w.heap.size w (Th.all [rowT (.slice (some ⟨w5.heap.size, 0, none⟩) 0 0) [], jnT jb db J2, diskT db D2, rowT (.slice A3 J.recs.length c3) J.recs]) (w5.alloc (.cells #[] 9))) := Lib.hid (h.addc ((Below.refl _ _).alloc (Nat.le_refl _) _) ⟨own_empty w5, fun k hk => by
                have : w5.heap.size = k := by simpa [Value.ownBlock] using hk
                omega⟩)
              have HS3 := Lib.hid (Strs.of_own (H5b.out.focus 3 (by simp)).row.1).2
              have HLN : Hid (([] : List (List UInt8)).length + J.recs.length ≤ 1000000) := Lib.hid (by have := HRL.out; simp; omega)
              clear h H4
              obtain ⟨R, hR⟩ : ∃ R, J.recs ++ [[(120 : UInt8)]] = R := ⟨_, rfl⟩
              have HRR := Lib.hid hR
              rw [hR] at HREC
              clear hR
              have HL2 : Hid (J.recs.length + [[(120 : UInt8)]].length ≤ 1000000) := Lib.hid (by have := HRL.out; simp; omega)
              go_wp2_with (first
                | (at_builtin; have _t := HP6; have HP6a := Lib.hid (HP6.out.newer ((Below.refl _ _).alloc (Nat.le_refl _) (.cells #[.string (Dk.str [120])] 9))); (refine wpList_append_strs rfl (.tmp 80) (.tmp 81) rfl v6 J.recs rfl HP6a.out.row.1 (some ⟨w6.heap.size, 0, none⟩) 1 [[120]] rfl (strs_one w6 [120]) HL2.out ?_); intro v7 w7 hown7 hg7 hat7; have HP7' := HP6a.out.append hg7 hown7 hat7; rw [HRR.out] at HP7'; have HP7 := Lib.hid HP7'; clear hown7 hg7 hat7 HP6 HP7')
                | (at_builtin; have _t := HLN; (refine wpList_append_strs rfl (.tmp 78) (.tmp 79) rfl (.slice (some ⟨w5.heap.size, 0, none⟩) 0 0) [] rfl H5b.out.row.1 A3 c3 J.recs rfl HS3.out HLN.out ?_); intro v6 w6 hown6 hg6 hat6; have HP6 := Lib.hid (H5b.out.append (ys := J.recs) hg6 hown6 hat6); clear hown6 hg6 hat6 HLN))
              obtain ⟨A7, c7, hv7⟩ := row_shape HP7.out.row.1
              subst hv7
              have H7 : Hid (Hp w.heap.size w (Th.all [diskT db D2, jnT jb db J2, rowT (.slice A7 R.length c7) R]) w7) := Lib.hid ((HP7.out.pick [2, 1, 0, 3] rfl).pick [3, 0, 1, 2] rfl).drop
              clear HP7 H5b HS3
              refine Calls.mono (c_open H7.out HE.out HB.out HQ2.out (Jr.opn_right HR2.out)) ?_
              rintro e w8 ⟨j8, v8, rfl, h, _⟩
              rw [HREC.out] at h
              obtain ⟨A8, c8, rfl⟩ := row_shape (h.focus 1 (by simp)).row.1
              have H8 := Lib.hid h
              clear h H7
              go_wp2_with fail
              refine (same_any _ A7 A8 c7 c8 R R (Strs.of_own (H8.out.focus 4 (by simp)).row.1).2 (Strs.of_own (H8.out.focus 1 (by simp)).row.1).2).mono ?_
              rintro e w9 ⟨rfl, hb⟩
              rw [decide_eq_true (rfl : R = R)]
              have H9 := Lib.hid (H8.out.newer hb).bel
              clear hb H8
              go_wp2
              go_ret
              exact ⟨rfl, H9.out⟩
end Go.Proofs.YthhkadeiplbdkaaDoor
