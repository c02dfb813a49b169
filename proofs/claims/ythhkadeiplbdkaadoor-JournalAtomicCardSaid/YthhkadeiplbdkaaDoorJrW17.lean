/- Walks of the journal's functions, part 17: Open on a disk that is on. -/
import Derived.Test.YthhkadeiplbdkaaDoorJrW16
set_option linter.unusedVariables false
set_option linter.unusedSimpArgs false
namespace Go.Proofs.YthhkadeiplbdkaaDoor
open Go.RowKit

set_option maxRecDepth 100000 in
set_option maxHeartbeats 6400000 in
theorem open_on (w : World) (hE : Env w) (S : Nat → Prop) (db : Nat) (D : Dk) (hD : DiskAt w S db D) (hS : ∀ k, S k → nG ≤ k ∧ k < w.heap.size) (hq : D.q.length ≤ 100000) (ho : D.off = false) : Calls Tryd.prog 15 #[.pointer (some ⟨db, 0, none⟩)] w (OpnPost S w db (Jr.opn D)) := by
  obtain ⟨i0, hi, hz0, hz1, hz2⟩ := info_parts info_strs
  have HI := Lib.hid hi
  have HI0 := Lib.hid hz0
  have HI1 := Lib.hid hz1
  have HI2 := Lib.hid hz2
  have hinv := hD.inv
  have hhi := hinv.hi
  have HD := Lib.hid hD
  have HE := Lib.hid hE
  have HQ := Lib.hid hq
  have HO := Lib.hid ho
  have HSS := Lib.hid hS
  obtain ⟨N, hN⟩ : ∃ N, D.st.length = N := ⟨_, rfl⟩
  have HN := Lib.hid hN
  rw [hN] at hhi
  clear hD hE hq ho hS hi hz0 hz1 hz2 hinv hN
  go_enter Tryd.func15, Tryd.ntmps15
  go_wp2
  go_loopw [5] (fun v wr => ∃ k A c, k ≤ N ∧ v = .slice A k c ∧ wr.ownsRow w.heap.size 9 1 (.slice A k c) k (strL (curs D k)) ∧ Below w.heap.size w wr) (fun v _ => N - lenOfV v)
  case atStart => exact ⟨0, none, 0, Nat.zero_le _, rfl, World.ownsRow_nil _ _ _ _, Below.refl _ _⟩
  case round =>
    obtain ⟨k, A, c, hk, rfl, hown, hb⟩ := hrel
    have HOW := Lib.hid hown
    have HB := Lib.hid hb
    clear hown hb
    have HC := Lib.hid (read_any wr S db D (k : Int) (HD.out.below HB.out) (by have := HQ.out; omega))
    by_cases hlt : k < N
    · have he : D.read (k : Int) = (Dk.str (Jr.curL D k), 0) := by
        unfold Dk.read Dk.valid
        rw [HO.out, HN.out]
        simp only [Bool.false_eq_true, if_false, Int.toNat_natCast, cur_str]
        rw [if_pos (by simp; omega)]
      have HRE := Lib.hid he
      have HK := Lib.hid hk
      have hk9 : k ≤ 4000 := by omega
      clear he
      go_wp2_with fail
      refine HC.out.mono ?_
      rintro e w1 ⟨rfl, hb⟩
      rw [HRE.out]
      have HB1 := Lib.hid (bthen HB.out HB.out.size hb)
      have HOW1 := Lib.hid ((Touch.of_new (S := fun _ => False) hb).own HOW.out (fun _ _ => id))
      have hz1 := HB1.out.size
      obtain ⟨s, hs⟩ : ∃ s, Dk.str (Jr.curL D k) = s := ⟨_, rfl⟩
      have HS := Lib.hid hs
      dsimp only
      rw [hs]
      clear hb HC hs
      go_wp2_with (at_builtin; (refine wpList_append_own_at _ rfl (.tmp 32) (.tmp 34) _ rfl w.heap.size 9 i0 _ 1 16 Tryd.underlying27 HI.out HI0.out HI1.out HI2.out rfl (by omega) (.slice A k c) k _ rfl (HOW1.out.alloc _) ⟨w1.heap.size, 0, none⟩ 1 1 [.string s] rfl rfl (cell_one_new _ _ _) (by simp [Value.oneCell']) (by simp only [maxLen]; omega) (by omega) (by simp; omega) ?_); intro v1 w4 hown2 hg2 hnil2 hat2; have HOWN2 := Lib.hid hown2; have HG2 := Lib.hid hg2; clear hown2 hg2 hnil2 hat2)
      obtain ⟨g4, c4, rfl⟩ : ∃ g c, v1 = .slice (some ⟨g, 0, none⟩) (k + 1) c := by
        obtain ⟨g, cap, hv, _⟩ := HOWN2.out.form (by omega)
        exact ⟨g, cap, hv⟩
      refine ⟨⟨k + 1, some ⟨g4, 0, none⟩, c4, by omega, rfl, ?_, ?_⟩, by simp [lenOfV]; omega⟩
      · rw [curs_succ, strL_append]
        have h := HOWN2.out
        rw [← HS.out] at h
        exact h
      · exact (HB1.out.alloc hz1 _).grown HG2.out (by simp; omega) (fun j hj => (HOW1.out.lt j hj).1)
    · obtain rfl : k = N := by omega
      have he : D.read (k : Int) = (Dk.str [], 1) := by
        unfold Dk.read Dk.valid
        rw [HO.out, HN.out]
        simp
      have HRE := Lib.hid he
      clear he hlt hk
      go_wp2_with fail
      refine HC.out.mono ?_
      rintro e w1 ⟨rfl, hb⟩
      rw [HRE.out]
      have HB1 := Lib.hid (bthen HB.out HB.out.size hb)
      have HOW1 := Lib.hid ((Touch.of_new (S := fun _ => False) hb).own HOW.out (fun _ _ => id))
      clear hb HC
      dsimp only
      by_cases h3 : k < 3
      · have HF := Lib.hid (show Jr.opn D = (D, none, 1) by
          unfold Jr.opn
          rw [HO.out, if_neg (by simp), if_pos (by rw [HN.out]; exact h3)])
        go_wp2
        go_ret3
        exact OpnPost.no HD.out HB1.out HF.out rfl
      · obtain ⟨g, cap, hv, hcap, hgl⟩ := HOW1.out.form (by omega)
        simp only [Value.slice.injEq] at hv
        obtain ⟨rfl, -, rfl⟩ := hv
        have HCAP := Lib.hid (show k ≤ c ∧ c ≤ maxLen by
          rcases HOW1.out.2 with ⟨h1, _⟩ | ⟨g', cap', cur, hv', _, _, h1, h2, _⟩
          · cases h1
          · simp only [Value.slice.injEq] at hv'
            obtain ⟨_, _, rfl⟩ := hv'
            exact ⟨h1, h2⟩)
        have hz1 := HB1.out.size
        have HG := Lib.hid hgl
        have HK := Lib.hid (show 3 ≤ k by omega)
        have HKH := Lib.hid hhi
        obtain ⟨w3, hw3⟩ : ∃ x, w1.alloc (.cells #[.pointer (some ⟨db, 0, none⟩), .int .i64 (k : Int), .int .i64 0, .slice none 0 0, .bool false] 50) = x := ⟨_, rfl⟩
        obtain ⟨jb, hjb⟩ : ∃ x, w1.heap.size = x := ⟨_, rfl⟩
        have HA0 : Hid (OpA w w3 db g k c jb 0 (.slice none 0 0) D) := Lib.hid (by
          rw [← hw3, ← hjb]
          exact ⟨HB1.out.alloc hz1 _, HOW1.out.alloc _, Blk.new _ _ _, hz1⟩)
        clear hgl hz1
        go_wp2_with fail
        clear hw3 hjb
        go_cut [] (fun wc => OpA w wc db g k c jb (max (Jr.cnt 0 (Jr.curL D 0) ((k : Int) - 2)) (Jr.cnt 1 (Jr.curL D 1) ((k : Int) - 2))) (.slice none 0 0) D)
        case first =>
          have r0 := HA0.out.at_ (i := 0) (by have := HK.out; omega)
          have r1 := HA0.out.at_ (i := 1) (by have := HK.out; omega)
          have HC0 := Lib.hid (fun W (h : Below w.heap.size w W) => count_any' W (HE.out.new h) 0 (by omega) (Jr.curL D 0) ((k : Int) - 2) (by have := HKH.out; omega) (curL_len HD.out.inv (by have := HN.out; have := HK.out; omega)))
          have HC1 := Lib.hid (fun W (h : Below w.heap.size w W) => count_any' W (HE.out.new h) 1 (by omega) (Jr.curL D 1) ((k : Int) - 2) (by have := HKH.out; omega) (curL_len HD.out.inv (by have := HN.out; have := HK.out; omega)))
          obtain ⟨s0, hs0⟩ : ∃ s, Dk.str (Jr.curL D 0) = s := ⟨_, rfl⟩
          obtain ⟨s1, hs1⟩ : ∃ s, Dk.str (Jr.curL D 1) = s := ⟨_, rfl⟩
          rw [hs0] at r0 HC0
          rw [hs1] at r1 HC1
          have HS0 := Lib.hid hs0
          have HS1 := Lib.hid hs1
          obtain ⟨z0, hz0⟩ : ∃ z, Jr.cnt 0 (Jr.curL D 0) ((k : Int) - 2) = z := ⟨_, rfl⟩
          obtain ⟨z1, hz1⟩ : ∃ z, Jr.cnt 1 (Jr.curL D 1) ((k : Int) - 2) = z := ⟨_, rfl⟩
          rw [hz0] at HC0
          rw [hz1] at HC1
          have ew : IntKind.i64.wrap ((k : Int) - 2) = (k : Int) - 2 := by rw [IntKind.wrap_i64]; omega
          have k0 : (0 : Int) < (k : Int) := by omega
          have k1 : (1 : Int) < (k : Int) := by omega
          have k00 : 0 < k := by omega
          have k11 : 1 < k := by omega
          have lg := HA0.out.gl
          have HZ0 := Lib.hid hz0
          have HZ1 := Lib.hid hz1
          clear hs0 hs1 hz0 hz1 h3 hhi
          go_region_held3 (fun w' => w'.cell? ⟨g, 0, none⟩ = some (.string s0) ∧ w'.cell? ⟨g, 1, none⟩ = some (.string s1))
            (first | exact ⟨n0, n1⟩ | exact ⟨m0, m1⟩ | exact ⟨l0, l1⟩ | go_keep)
            (first
            | (have _t := H5; go_at_call 28; refine Calls.mono (HC1.out w5 H5.out.bel) ?_; rintro e w6 ⟨rfl, hb6⟩; have H6 := Lib.hid (H5.out.below hb6); have m0 := (hb6.cell (p := ⟨g, 0, none⟩) H5.out.gl).trans l0; have m1 := (hb6.cell (p := ⟨g, 1, none⟩) H5.out.gl).trans l1; have j2 := H6.out.job.cell 2; have jf := H6.out.job.frozen 2; have jl := H6.out.job.lt; have H7 := Lib.hid (H6.out.store (max z0 z1)); have n0 := H7.out.at_ (i := 0) (by have := HK.out; omega); have n1 := H7.out.at_ (i := 1) (by have := HK.out; omega); rw [HS0.out] at n0; rw [HS1.out] at n1; clear hb6)
            | (go_at_call 28; refine Calls.mono (HC0.out w3.drew HA0.out.bel.drew) ?_; rintro e w5 ⟨rfl, hb5⟩; have H5 := Lib.hid (HA0.out.drew.below hb5); have l0 := (hb5.cell (p := ⟨g, 0, none⟩) lg).trans r0; have l1 := (hb5.cell (p := ⟨g, 1, none⟩) lg).trans r1; clear hb5))
          go_wp2_with fail
          go_meet
          rw [HZ0.out, HZ1.out]
          exact H7.out
        case rest =>
          obtain ⟨M, hM⟩ : ∃ M, max (Jr.cnt 0 (Jr.curL D 0) ((k : Int) - 2)) (Jr.cnt 1 (Jr.curL D 1) ((k : Int) - 2)) = M := ⟨_, rfl⟩
          rw [hM] at hcut
          have hMr : M ≤ (k : Int) - 2 := by
            have := Jr.cnt_le 0 (Jr.curL D 0) ((k : Int) - 2) (by omega)
            have := Jr.cnt_le 1 (Jr.curL D 1) ((k : Int) - 2) (by omega)
            omega
          rw [← HN.out] at hM
          have HM := Lib.hid hM
          have HR := Lib.hid hcut
          have H3 : Hid (¬ D.st.length < 3) := Lib.hid (by rw [HN.out]; exact h3)
          have j2 := hcut.job.cell 2
          have jl := hcut.job.lt
          clear hcut hM HA0
          by_cases hneg : M < 0
          · have HF := Lib.hid (Jr.opn_low HO.out H3.out (by rw [HM.out]; exact hneg))
            clear h3 hMr
            go_wp2
            go_ret3
            exact OpnPost.no HD.out HR.out.bel HF.out rfl
          · obtain ⟨q, rfl⟩ := Int.eq_ofNat_of_zero_le (show 0 ≤ M by omega)
            have hq2 : 2 + q ≤ k := by omega
            have e1 : IntKind.i64.wrap (2 + (q : Int)) = ((2 + q : Nat) : Int) := by rw [IntKind.wrap_i64]; omega
            have e2 : (2 : Int) ≤ ((2 + q : Nat) : Int) := by omega
            have hkc := HCAP.out.1
            have hcm := HCAP.out.2
            unfold maxLen at hcm
            have e3 : 2 + q ≤ c := by omega
            have e5 : ¬ c = 2 := by omega
            have e4 : ((2 + q : Nat) : Int) ≤ (c : Int) := by omega
            have HB0 := Lib.hid (show OpA w (wc.alloc (.cells #[.pointer none, .slice none 0 0] 67)) db g k c jb q (.slice none 0 0) D from HR.out.below ((Below.refl _ _).alloc (Nat.le_refl _) _))
            have HBA := Lib.hid (BAt.new wc)
            obtain ⟨wb, hwb⟩ : ∃ x, wc.alloc (.cells #[.pointer none, .slice none 0 0] 67) = x := ⟨_, rfl⟩
            obtain ⟨bb, hbb⟩ : ∃ x, wc.heap.size = x := ⟨_, rfl⟩
            rw [hwb] at HB0 HBA
            rw [hbb] at HBA
            have HGB : Hid (g < bb ∧ jb < bb ∧ w.heap.size ≤ bb) := Lib.hid (by rw [← hbb]; exact ⟨HR.out.gl, HR.out.job.lt, HR.out.bel.size⟩)
            have jb2 := HB0.out.job.cell 2
            have jbl := HB0.out.job.lt
            go_wp2_with fail
            have HK2 := Lib.hid hq2
            have HKH2 := Lib.hid (show k ≤ 4000 by omega)
            clear h3 hneg hMr hkc hcm e1 e2 e3 e4 e5 jb2 jbl j2 jl hwb hbb
            go_loopw [75] (fun i wr => ∃ m : Nat, m ≤ q ∧ i = .int .i64 (m : Int) ∧ OpA w wr db g k c jb q (.slice none 0 0) D ∧ bb < wr.heap.size ∧ ∃ t, Jr.found D m = some t ∧ t.length ≤ 46 * m ∧ BAt bb bb t wr) (fun i _ => q - (intOf i).toNat)
            case atStart => exact ⟨0, Nat.zero_le _, rfl, HB0.out, HBA.out.lt, [], rfl, Nat.zero_le _, HBA.out⟩
            case round =>
              obtain ⟨m, hm, rfl, ha, hbz, t, hf, htl, hba⟩ := hrel
              have HA := Lib.hid ha
              have HBZ := Lib.hid hbz
              have HFD := Lib.hid hf
              have HTL := Lib.hid htl
              have HBT := Lib.hid hba
              clear ha hbz hf htl hba
              by_cases hlt : m < q
              · have rm := HA.out.at_ (i := 2 + m) (by omega)
                have HLM := Lib.hid (show (Jr.curL D (2 + m)).length = 64 from curL_len HD.out.inv (by rw [HN.out]; omega))
                have HAT := Lib.hid (fun W (h : Env W) => atoi_any W h ((Dk.str (Jr.curL D (2 + m))).extract 16 18) (by rw [str_extract, Dk.str_size, List.length_take]; omega))
                have HX := Lib.hid (show ((Dk.str (Jr.curL D (2 + m))).extract 16 18).data.toList = ((Jr.curL D (2 + m)).drop 16).take 2 by rw [str_extract]; rfl)
                have hls1 : (Dk.str (Jr.curL D (2 + m))).size = 64 := by rw [Dk.str_size, HLM.out]
                have hls2 : 64 ≤ (Dk.str (Jr.curL D (2 + m))).size := by omega
                have hls3 : (Dk.str (Jr.curL D (2 + m))).size ≤ 64 := by omega
                obtain ⟨s, hs⟩ : ∃ s, Dk.str (Jr.curL D (2 + m)) = s := ⟨_, rfl⟩
                rw [hs] at rm HAT HX hls2 hls3
                have HS := Lib.hid hs
                have lg := HA.out.gl
                have k0 : (0 : Int) ≤ (m : Int) := by omega
                have k1 : (m : Int) < (q : Int) := by omega
                clear hls1 hs
                go_wp2_with fail
                refine (HAT.out wr (HE.out.new HA.out.bel)).mono ?_
                rintro e w2 ⟨ev, rfl, hev, hb⟩
                rw [HX.out] at hev ⊢
                have HA2 := Lib.hid (HA.out.below hb)
                have HBT2 := Lib.hid (HBT.out.below hb)
                have HBZ2 : Hid (bb < w2.heap.size) := Lib.hid (Nat.lt_of_lt_of_le HBZ.out hb.size)
                clear hb HAT rm lg
                obtain ⟨v, hv⟩ : ∃ v, atoiV (((Jr.curL D (2 + m)).drop 16).take 2) = v := ⟨_, rfl⟩
                have HV := Lib.hid (congrArg Prod.fst hv)
                rw [hv] at hev ⊢
                clear hv
                obtain ⟨n, okn⟩ := v
                dsimp only at hev HV ⊢
                have hev2 : ev = .nilIface ∨ ∃ te pe, ev = .iface te pe := hev.elim (fun h => .inl h.2) fun h => .inr h.2
                clear hev
                by_cases h1 : n < 1
                · have HF := Lib.hid (Jr.opn_lost HO.out H3.out HM.out (Jr.found_lost HFD.out (Jr.piece_no HV.out (.inl h1)) hlt))
                  clear HV
                  go_wp2
                  go_ret3
                  exact OpnPost.no HD.out HA2.out.bel HF.out rfl
                · by_cases h2 : 46 < n
                  · have HF := Lib.hid (Jr.opn_lost HO.out H3.out HM.out (Jr.found_lost HFD.out (Jr.piece_no HV.out (.inr h2)) hlt))
                    clear HV
                    go_wp2
                    go_ret3
                    exact OpnPost.no HD.out HA2.out.bel HF.out rfl
                  · obtain ⟨nn, rfl⟩ := Int.eq_ofNat_of_zero_le (show 0 ≤ n by omega)
                    have hn1 : 1 ≤ nn := by omega
                    have hn2 : nn ≤ 46 := by omega
                    have hpi := Jr.piece_if (p := 2 + m) HV.out hn1 hn2
                    have hx : s.extract 18 (18 + nn) = Dk.str (((Jr.curL D (2 + m)).drop 18).take nn) := by rw [← HS.out, str_extract, show 18 + nn - 18 = nn by omega]
                    have HXX := Lib.hid hx
                    have hxl : (((Jr.curL D (2 + m)).drop 18).take nn).length = nn := by rw [List.length_take, List.length_drop, HLM.out]; omega
                    have HSC := Lib.hid (sector_any w2 (HE.out.new HA2.out.bel) (2 + m) (by have := HKH2.out; have := HK2.out; omega) (((Jr.curL D (2 + m)).drop 18).take nn) (by omega))
                    obtain ⟨x, hxx⟩ : ∃ x, ((Jr.curL D (2 + m)).drop 18).take nn = x := ⟨_, rfl⟩
                    rw [hxx] at hpi HXX hxl HSC
                    rw [← HXX.out] at HSC
                    have w1 : IntKind.i64.wrap (2 + (m : Int)) = ((2 + m : Nat) : Int) := by rw [IntKind.wrap_i64]; have := HKH2.out; have := HK2.out; omega
                    have w2' : IntKind.i64.wrap (18 + (nn : Int)) = ((18 + nn : Nat) : Int) := by rw [IntKind.wrap_i64]; omega
                    have w3' : (18 : Int) ≤ ((18 + nn : Nat) : Int) := by omega
                    have w4' : ((18 + nn : Nat) : Int) ≤ (s.size : Int) := by omega
                    have w5' : 18 + nn ≤ s.size := by omega
                    have HPI := Lib.hid hpi
                    have HXL := Lib.hid hxl
                    clear hx hxx hxl hpi HV h1 h2
                    by_cases heq : Jr.sect (2 + m) x = Jr.curL D (2 + m)
                    · have hbe := str_eq_beq heq
                      rw [HS.out] at hbe
                      have HP := Lib.hid (show Jr.piece (2 + m) (Jr.curL D (2 + m)) = some x by rw [HPI.out, if_pos heq])
                      have HFM := Lib.hid (Jr.found_more HFD.out HP.out)
                      clear heq HPI
                      clear hev2
                      go_wp2_with fail
                      refine HSC.out.mono ?_
                      rintro e w3 ⟨rfl, hb⟩
                      have HA3 := Lib.hid (HA2.out.below hb)
                      have HBT3 := Lib.hid (HBT2.out.below hb)
                      have HBZ3 : Hid (bb < w3.heap.size) := Lib.hid (Nat.lt_of_lt_of_le HBZ2.out hb.size)
                      clear hb HSC
                      go_wp2_with fail
                      rw [HXX.out]
                      refine (bwrite_at _ _ _ _ w3 HBT3.out (by have := HTL.out; have := HXL.out; have := HKH2.out; have := HK2.out; omega)).mono ?_
                      rintro e w4 ⟨rfl, h4, hb4⟩
                      have HBT4 := Lib.hid h4
                      have HA4 := Lib.hid (HA3.out.belowB hb4 HGB.out.1 HGB.out.2.1 HGB.out.2.2)
                      have HBZ4 : Hid (bb < w4.heap.size) := Lib.hid (Nat.lt_of_lt_of_le HBZ3.out hb4.size)
                      clear h4 hb4
                      go_wp2_with fail
                      go_roundw
                      case rel => exact ⟨m + 1, by omega, by go_num, HA4.out, HBZ4.out, _, HFM.out, by have := HTL.out; have := HXL.out; rw [List.length_append]; omega, HBT4.out⟩
                      case measure => simp [intOf]; omega
                    · have hbe := str_ne_beq heq
                      rw [HS.out] at hbe
                      have HP := Lib.hid (show Jr.piece (2 + m) (Jr.curL D (2 + m)) = none by rw [HPI.out, if_neg heq])
                      have HF := Lib.hid (Jr.opn_lost HO.out H3.out HM.out (Jr.found_lost HFD.out HP.out hlt))
                      clear heq HPI HP
                      go_wp2_with fail
                      refine HSC.out.mono ?_
                      rintro e w3 ⟨rfl, hb⟩
                      have HA3 := Lib.hid (HA2.out.below hb)
                      clear hb HSC
                      go_wp2
                      go_ret3
                      exact OpnPost.no HD.out HA3.out.bel HF.out rfl
              · obtain rfl : q = m := by omega
                clear hlt hm
                have HPC := Lib.hid (fun W (h : Env W) => parse_any W h t (by have := HTL.out; have := HKH2.out; have := HK2.out; omega))
                go_wp2_with fail
                refine (bstring_at bb bb t wr HBT.out).mono ?_
                rintro e w2 ⟨rfl, hb⟩
                have HA2 := Lib.hid (HA.out.belowB hb HGB.out.1 HGB.out.2.1 HGB.out.2.2)
                clear hb HBT HBZ HBA HB0 HR HA
                go_wp2_with fail
                refine (HPC.out w2 (HE.out.new HA2.out.bel)).mono ?_
                rintro e w3 ⟨hb, hcase⟩
                have HA3 := Lib.hid (HA2.out.below hb)
                have hz23 := hb.size
                have hz2 := HA2.out.bel.size
                have j3 := HA3.out.job.cell 3
                have jf := HA3.out.job.frozen 3
                have jl := HA3.out.job.lt
                clear hb HPC
                rcases hcase with ⟨hp, rfl⟩ | ⟨rs, v, hp, rfl, hown⟩
                · have HF := Lib.hid (Jr.opn_unparsed HO.out H3.out HM.out HFD.out hp)
                  clear hp
                  go_wp2
                  go_ret3
                  exact OpnPost.no HD.out (HA3.out.bel.setCell (p := ⟨jb, 3, none⟩) HA3.out.new _) HF.out rfl
                · obtain ⟨vA, vc, hvs⟩ : ∃ vA vc, v = .slice vA rs.length vc := by
                    rcases hown.2 with ⟨h1, h0⟩ | ⟨g, cap, cur, h1, _⟩
                    · exact ⟨none, 0, by rw [h0]; exact h1⟩
                    · exact ⟨_, _, h1⟩
                  subst hvs
                  have hrsl : rs.length ≤ 1000000 := by
                    have h1 := Jr.parse_len hp
                    have := HTL.out; have := HKH2.out; have := HK2.out; omega
                  have HRL := Lib.hid hrsl
                  have HJ := Lib.hid (OpJ.of HA3.out (own_low hown hz2))
                  have HBL := Lib.hid (HA3.out.bel.setCell (p := ⟨jb, 3, none⟩) HA3.out.new (.slice vA rs.length vc))
                  have HP := Lib.hid hp
                  obtain ⟨wL, hwL⟩ : ∃ x, w3.setCell ⟨jb, 3, none⟩ (.slice vA rs.length vc) = x := ⟨_, rfl⟩
                  rw [hwL] at HJ HBL
                  have HG := Lib.hid HJ.out.lt
                  have HR0 := Lib.hid (OpR.start (S := S) (G := OpG g jb (.slice vA rs.length vc)) (qm := D.q.length + 0 * 2) (HD.out.below HBL.out) (fun k h => (HSS.out k h).2) HJ.out.base HBL.out (by omega))
                  have HSN := Lib.hid (fun k h => (HSS.out k h).1)
                  have HSL := Lib.hid (fun k h => (HSS.out k h).2)
                  clear hp hown hrsl
                  go_wp2_with fail
                  clear j3 jf jl hz23 hz2 HA3 HA2
                  obtain ⟨V, hV⟩ : ∃ V, Value.slice vA rs.length vc = V := ⟨_, rfl⟩
                  rw [hV] at HJ HG HR0
                  have HVV := Lib.hid hV
                  clear hV
                  go_loopw [119] (fun i wr => ∃ m : Nat, m ≤ 2 ∧ i = .int .i64 (m : Int) ∧ ∃ E, Jr.Rests D q m E ∧ OpR S (OpG g jb V) w wL db (D.q.length + m * 2) E wr) (fun i _ => 2 - (intOf i).toNat)
                  case atStart => exact ⟨0, by omega, rfl, D, rfl, HR0.out⟩
                  case round =>
                    obtain ⟨i, hi, rfl, E, hre, hrel⟩ := hrel
                    have HRE := Lib.hid hre
                    have HRR := Lib.hid hrel
                    have HJ1 := Lib.hid (hrel.here HJ.out)
                    have HEN := Lib.hid (hrel.env HE.out HSN.out)
                    clear hre hrel
                    have j2 := HJ1.out.job.cell 2
                    have jl := HJ1.out.job.lt
                    by_cases hlt : i < 2
                    · have HHD := Lib.hid (head_any wr HEN.out i q (by omega) (by have := HKH2.out; have := HK2.out; omega))
                      go_wp2_with fail
                      refine HHD.out.mono ?_
                      rintro e w5 ⟨rfl, hb⟩
                      have HR5 := Lib.hid (HRR.out.new HG.out hb)
                      have HJ5 := Lib.hid (HR5.out.here HJ.out)
                      have HE5 := Lib.hid (HR5.out.env HE.out HSN.out)
                      clear hb HHD j2 jl
                      go_wp2_with fail
                      go_cut [148] from 120 to 171 (fun b wc => b = .bool (decide (Jr.curL D i = Jr.head i q ∨ (q = 0 ∧ Jr.curL D i = Jr.zeros))) ∧ OpR S (OpG g jb V) w wL db (D.q.length + i * 2) E wc)
                      case first =>
                        have hik : i < k := by have := HK2.out; omega
                        have rm := HJ5.out.at_ (i := i) hik
                        have j2 := HJ5.out.job.cell 2
                        have jl := HJ5.out.job.lt
                        have lg := HJ5.out.gl
                        have k0 : (0 : Int) ≤ (i : Int) := by omega
                        have k1 : (i : Int) < (k : Int) := by omega
                        obtain ⟨s, hs⟩ : ∃ s, Dk.str (Jr.curL D i) = s := ⟨_, rfl⟩
                        rw [hs] at rm
                        have HS := Lib.hid hs
                        by_cases h1 : Jr.curL D i = Jr.head i q
                        · have hbe := str_eq_beq h1
                          rw [hs] at hbe
                          have H1 := Lib.hid h1
                          clear hs h1
                          go_quiet (fail)
                          go_wp2_with fail
                          go_meet
                          exact ⟨by rw [decide_eq_true (.inl H1.out)], HR5.out.new HG.out (below_drewN (Below.refl _ _) _)⟩
                        · have hbe := str_ne_beq h1
                          rw [hs] at hbe
                          have H1 := Lib.hid h1
                          clear h1
                          by_cases h2 : q = 0
                          · have hq0 : ((q : Int) == 0) = true := by rw [h2]; rfl
                            have H2 := Lib.hid h2
                            clear h2
                            by_cases h3 : Jr.curL D i = Jr.zeros
                            · have hbz := str_eq_beq h3
                              rw [hs] at hbz
                              have H3' := Lib.hid h3
                              clear hs h3
                              go_region_held3 (fun w' => w'.cell? ⟨g, i, none⟩ = some (.string s) ∧ w'.cell? ⟨jb, 2, none⟩ = some (.int .i64 (q : Int)))
                                (first | exact ⟨m0, m1⟩ | go_keep)
                                (first
                                | (go_at_call 35; refine Calls.mono (zero_any _) ?_; rintro e w6 ⟨rfl, hb6⟩; have H6 := Lib.hid ((HR5.out.drew HG.out).new HG.out hb6); have m0 := (H6.out.here HJ.out).at_ (i := i) hik; rw [HS.out] at m0; have m1 : w6.cell? ⟨jb, 2, none⟩ = some (.int .i64 (q : Int)) := (H6.out.here HJ.out).job.cell 2; clear hb6))
                              go_wp2_with fail
                              go_meet
                              exact ⟨by rw [decide_eq_true (.inr ⟨H2.out, H3'.out⟩)], H6.out⟩
                            · have hbz := str_ne_beq h3
                              rw [hs] at hbz
                              have H3' := Lib.hid h3
                              clear hs h3
                              go_region_held3 (fun w' => w'.cell? ⟨g, i, none⟩ = some (.string s) ∧ w'.cell? ⟨jb, 2, none⟩ = some (.int .i64 (q : Int)))
                                (first | exact ⟨m0, m1⟩ | go_keep)
                                (first
                                | (go_at_call 35; refine Calls.mono (zero_any _) ?_; rintro e w6 ⟨rfl, hb6⟩; have H6 := Lib.hid ((HR5.out.drew HG.out).new HG.out hb6); have m0 := (H6.out.here HJ.out).at_ (i := i) hik; rw [HS.out] at m0; have m1 : w6.cell? ⟨jb, 2, none⟩ = some (.int .i64 (q : Int)) := (H6.out.here HJ.out).job.cell 2; clear hb6))
                              go_wp2_with fail
                              go_meet
                              exact ⟨by rw [decide_eq_false (fun h => h.elim H1.out fun h => H3'.out h.2)], H6.out⟩
                          · have hq0 : ((q : Int) == 0) = false := by simp; omega
                            have H2 := Lib.hid h2
                            clear hs h2
                            go_quiet (fail)
                            go_wp2_with fail
                            go_meet
                            exact ⟨by rw [decide_eq_false (fun h => h.elim H1.out fun h => H2.out h.1)], HR5.out.new HG.out (below_drewN (Below.refl _ _) _)⟩
                      case rest =>
                        obtain ⟨rfl, hr6⟩ := hcut
                        have HR6 := Lib.hid hr6
                        have HJ6 := Lib.hid (hr6.here HJ.out)
                        clear hr6 HR5 HJ5 HR0 HRR
                        by_cases hP : Jr.curL D i = Jr.head i q ∨ (q = 0 ∧ Jr.curL D i = Jr.zeros)
                        · have HN1 : Hid (Jr.Rests D q (i + 1) E) := Lib.hid ⟨E, HRE.out, Jr.rest_same hP⟩
                          rw [decide_eq_true hP]
                          clear hP
                          go_wp2_with fail
                          go_roundw
                          case rel => exact ⟨i + 1, by omega, by go_num, E, HN1.out, HR6.out.1, HR6.out.2.1, HR6.out.2.2.1, HR6.out.2.2.2.1, by have := HR6.out.2.2.2.2; omega⟩
                          case measure => simp [intOf]; omega
                        · have HNP := Lib.hid hP
                          rw [decide_eq_false hP]
                          clear hP
                          go_wp2_with fail
                          refine (zero_any wc).mono ?_
                          rintro e w6 ⟨rfl, hb⟩
                          have HR7 := Lib.hid (HR6.out.new HG.out hb)
                          have HJ7 := Lib.hid (HR7.out.here HJ.out)
                          clear hb HR6 HJ6
                          obtain ⟨T, hdT, hT⟩ := HR7.out.1
                          have HT := Lib.hid hT
                          have HW := Lib.hid (jwrite_one w6 T jb db E i Jr.zeros hdT (HJ7.out.job.cell 0) HJ7.out.job.lt (fun h => (HT.out _ h).2.2 (.inr (.inl rfl))) (fun x h => (HT.out x h).2.1) (by omega) (by decide) (by have := HR7.out.2.2.2.2; have := HQ.out; omega))
                          have hwq := Jr.wr_q [Jr.zeros] E i
                          have HWQ : Hid ((Jr.wr E i [Jr.zeros]).1.q.length ≤ D.q.length + i * 2 + 1) := Lib.hid (by have := HR7.out.2.2.2.2; simp at hwq; omega)
                          clear hdT hT hwq
                          go_wp2_with fail
                          refine HW.out.mono ?_
                          intro e w7 hpo
                          have HR8 := Lib.hid (HR7.out.write HT.out HG.out hpo HWQ.out)
                          obtain ⟨rfl, _, _⟩ := hpo
                          have HJ8 := Lib.hid (HR8.out.here HJ.out)
                          have j2 := HJ8.out.job.cell 2
                          have jl := HJ8.out.job.lt
                          clear HW HR7 HJ7 HT HWQ
                          by_cases hx : (Jr.wr E i [Jr.zeros]).2 = 0
                          · have HX0 := Lib.hid hx
                            rw [hx]
                            clear hx
                            obtain ⟨F, hF⟩ : ∃ F, (Jr.wr E i [Jr.zeros]).1 = F := ⟨_, rfl⟩
                            have HF := Lib.hid hF
                            rw [hF] at HR8
                            clear hF
                            by_cases hq0 : q = 0
                            · have HN1 : Hid (Jr.Rests D q (i + 1) F) := Lib.hid ⟨E, HRE.out, by
                                rw [hq0]
                                rw [Jr.rest_zero (by have := HNP.out; rwa [hq0] at this)]
                                exact Prod.ext HF.out HX0.out⟩
                              have hq1 : ¬ (0 : Int) < (q : Int) := by omega
                              clear hq0
                              go_wp2_with fail
                              go_roundw
                              case rel => exact ⟨i + 1, by omega, by go_num, F, HN1.out, HR8.out.1, HR8.out.2.1, HR8.out.2.2.1, HR8.out.2.2.2.1, by have := HR8.out.2.2.2.2; omega⟩
                              case measure => simp [intOf]; omega
                            · have hq1 : (0 : Int) < (q : Int) := by omega
                              have hq2 : 0 < q := by omega
                              have HN1 := Lib.hid (show Jr.rest E i (Jr.curL D i) q = Jr.wr F i [Jr.head i q] by rw [Jr.rest_two HNP.out HX0.out hq2, HF.out])
                              obtain ⟨T, hdT, hT⟩ := HR8.out.1
                              have HT := Lib.hid hT
                              have HW := Lib.hid (jwrite_one w7 T jb db F i (Jr.head i q) hdT (HJ8.out.job.cell 0) HJ8.out.job.lt (fun h => (HT.out _ h).2.2 (.inr (.inl rfl))) (fun x h => (HT.out x h).2.1) (by omega) (by rw [Jr.head_length]; omega) (by have := HR8.out.2.2.2.2; have := HQ.out; omega))
                              have hwq := Jr.wr_q [Jr.head i q] F i
                              have HWQ : Hid ((Jr.wr F i [Jr.head i q]).1.q.length ≤ D.q.length + (i + 1) * 2) := Lib.hid (by have := HR8.out.2.2.2.2; simp at hwq; omega)
                              clear hdT hT hwq
                              go_wp2_with fail
                              refine HW.out.mono ?_
                              intro e w8 hpo
                              have HR9 := Lib.hid (HR8.out.write HT.out HG.out hpo HWQ.out)
                              obtain ⟨rfl, _, _⟩ := hpo
                              clear HW HR8 HJ8 HT HWQ j2 jl
                              by_cases hx : (Jr.wr F i [Jr.head i q]).2 = 0
                              · have HN2 : Hid (Jr.Rests D q (i + 1) (Jr.wr F i [Jr.head i q]).1) := Lib.hid ⟨E, HRE.out, by rw [HN1.out]; exact Prod.ext rfl hx⟩
                                rw [hx]
                                clear hx
                                go_wp2_with fail
                                go_roundw
                                case rel => exact ⟨i + 1, by omega, by go_num, _, HN2.out, HR9.out⟩
                                case measure => simp [intOf]; omega
                              · have HFF := Lib.hid (Jr.opn_stop HO.out H3.out HM.out HFD.out HP.out hlt HRE.out (by rw [HN1.out]; exact hx))
                                rw [HN1.out] at HFF
                                obtain ⟨y, hy⟩ : ∃ y, (Jr.wr F i [Jr.head i q]).2 = y := ⟨_, rfl⟩
                                rw [hy] at HFF hx ⊢
                                clear hy
                                go_wp2_with fail
                                go_ret3
                                exact HR9.out.fail HFF.out rfl
                          · have HFF := Lib.hid (Jr.opn_stop HO.out H3.out HM.out HFD.out HP.out hlt HRE.out (by rw [Jr.rest_fail HNP.out hx]; exact hx))
                            rw [Jr.rest_fail HNP.out hx] at HFF
                            obtain ⟨y, hy⟩ : ∃ y, (Jr.wr E i [Jr.zeros]).2 = y := ⟨_, rfl⟩
                            rw [hy] at HFF hx ⊢
                            clear hy
                            go_wp2_with fail
                            go_ret3
                            exact HR8.out.fail HFF.out rfl
                    · obtain rfl : i = 2 := by omega
                      clear hlt hi
                      have j3 := HJ1.out.job.cell 3
                      have HCL := Lib.hid (clone_any wr V rs (own_low HJ1.out.row (Nat.zero_le _)) HRL.out)
                      have HFF := Lib.hid (Jr.opn_done HO.out H3.out HM.out HFD.out HP.out HRE.out)
                      rw [HN.out] at HFF
                      go_wp2_with fail
                      refine HCL.out.mono ?_
                      rintro e w5 ⟨v', rfl, ho, hb⟩
                      have HO5 := Lib.hid ho
                      have HB5 := Lib.hid hb
                      clear ho hb HCL j3 j2 jl
                      go_wp2_with fail
                      go_ret3
                      exact HRR.out.done HJ.out HSL.out HO5.out HB5.out HFF.out rfl
theorem open_any (w : World) (hE : Env w) (S : Nat → Prop) (db : Nat) (D : Dk) (hD : DiskAt w S db D) (hS : ∀ k, S k → nG ≤ k ∧ k < w.heap.size) (hq : D.q.length ≤ 100000) : Calls Tryd.prog 15 #[.pointer (some ⟨db, 0, none⟩)] w (OpnPost S w db (Jr.opn D)) := by
  by_cases ho : D.off = true
  · refine (open_off w S db D hD (by omega) ho).mono ?_
    rintro e w' ⟨rfl, hb⟩
    exact OpnPost.no hD hb (by unfold Jr.opn; rw [if_pos ho]) rfl
  · exact open_on w hE S db D hD hS hq (by simpa using ho)
end Go.Proofs.YthhkadeiplbdkaaDoor
