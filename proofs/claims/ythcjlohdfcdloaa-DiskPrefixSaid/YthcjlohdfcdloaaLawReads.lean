/- The walk of DiskReads. -/
import Derived.Test.YthcjlohdfcdloaaLawRaw
set_option linter.unusedVariables false
set_option linter.unusedSimpArgs false
namespace Go.Proofs.Ythcjlohdfcdloaa
open Go.RowKit

theorem Dk.write_dark {D : Dk} (h : D.off = true) (i : Int) (s : ByteArray) : D.write i s = (D, 28) := by unfold write; rw [h]; rfl
theorem Dk.read_dark {D : Dk} (h : D.off = true) (i : Int) : D.read i = (str [], 28) := by unfold read; rw [h]; rfl
theorem Dk.cur_write (D : Dk) (i j : Nat) (s : ByteArray) : ({ D with q := D.q ++ [(i, s)] } : Dk).cur j = if j = i then s else D.cur j := by
  unfold cur
  simp only [List.reverse_append, List.reverse_singleton, List.singleton_append, List.find?_cons]
  by_cases h : j = i
  · subst h; simp
  · rw [if_neg h]
    have : (i == j) = false := by simpa using fun e => h e.symm
    rw [this]
theorem curs_write (D : Dk) (i : Nat) (hi : i < D.st.length) (s : ByteArray) : curs { D with q := D.q ++ [(i, s)] } = (curs D).set i s := by
  apply List.ext_getElem
  · simp [curs]
  · intro j h1 h2
    have hj : j < D.st.length := by simpa [curs] using h1
    rw [List.getElem_set]
    simp only [curs, List.getElem_map, List.getElem_range]
    rw [Dk.cur_write]
    by_cases e : i = j
    · subst e; simp
    · rw [if_neg e, if_neg (fun h => e h.symm)]

set_option maxHeartbeats 400000 in
theorem reads_no (w : World) (r : Int) (h0 : 0 ≤ r) (h1 : r ≤ 255) (A1 : Option Addr) (n1 c1 : Nat) (l1 : List Ac) (hl1 : ActsAt w A1 n1 l1) (q : Ac) (qwf : q.Wf) (hno : okA l1 = false ∨ (okA l1 = true ∧ okA [q] = false)) :
    Calls Try.prog 6 #[.int .u8 r, .slice A1 n1 c1, .agg q.cells] w fun e w' => e = .returned (.bool true) ∧ Below w.heap.size w w' := by
  have HWF := Lib.hid qwf
  clear qwf
  obtain ⟨kind, sector, bytes, t, odd, after⟩ := q
  unfold Ac.cells
  simp only
  rcases hno with h | ⟨h, h'⟩
  · go_enter Try.func6, Try.ntmps6
    go_wp2_with fail
    have hX : Blk (w.alloc (.cells #[.int .i64 kind, .int .i64 sector, .int .i64 bytes, .string t, .bool odd, .int .i64 after] 34)) w.heap.size 34 #[.int .i64 kind, .int .i64 sector, .int .i64 bytes, .string t, .bool odd, .int .i64 after] := Blk.new w _ _
    have hB0 : Below w.heap.size w (w.alloc (.cells #[.int .i64 kind, .int .i64 sector, .int .i64 bytes, .string t, .bool odd, .int .i64 after] 34)) := (Below.refl _ _).alloc (Nat.le_refl _) _
    have hxl := hX.lt
    generalize w.alloc (.cells #[.int .i64 kind, .int .i64 sector, .int .i64 bytes, .string t, .bool odd, .int .i64 after] 34) = w0 at hX hB0 hxl ⊢
    have HX := Lib.hid hX
    have HB0 := Lib.hid hB0
    have HL1 := Lib.hid (hl1.below hB0)
    obtain ⟨xb, hxb⟩ : ∃ xb, xb = w.heap.size := ⟨_, rfl⟩
    rw [← hxb] at HX hxl
    simp only [← hxb]
    have HXB := Lib.hid hxb
    clear hX hB0 hl1 hxb
    refine (head_any w0).mono ?_
    rintro e w1 ⟨rfl, hb⟩
    have HB := Lib.hid hb
    have hz1 := hb.size
    have x0 := (hb.cell (p := ⟨xb, 0, none⟩) hxl).trans (HX.out.cell 0)
    have x1 := (hb.cell (p := ⟨xb, 1, none⟩) hxl).trans (HX.out.cell 1)
    have x2 := (hb.cell (p := ⟨xb, 2, none⟩) hxl).trans (HX.out.cell 2)
    have x3 := (hb.cell (p := ⟨xb, 3, none⟩) hxl).trans (HX.out.cell 3)
    have x4 := (hb.cell (p := ⟨xb, 4, none⟩) hxl).trans (HX.out.cell 4)
    have x5 := (hb.cell (p := ⟨xb, 5, none⟩) hxl).trans (HX.out.cell 5)
    have hxl1 : xb < w1.heap.size := Nat.lt_of_lt_of_le hxl hz1
    clear hb
    go_wp2_with fail
    refine (ok_any w1 A1 n1 c1 l1 (HL1.out.below HB.out)).mono ?_
    rintro e w2 ⟨rfl, rfl⟩
    rw [h]
    clear h
    go_wp2
    go_ret
    exact ⟨rfl, bthen HB0.out HB0.out.size HB.out⟩
  · go_enter Try.func6, Try.ntmps6
    go_wp2_with fail
    have hX : Blk (w.alloc (.cells #[.int .i64 kind, .int .i64 sector, .int .i64 bytes, .string t, .bool odd, .int .i64 after] 34)) w.heap.size 34 #[.int .i64 kind, .int .i64 sector, .int .i64 bytes, .string t, .bool odd, .int .i64 after] := Blk.new w _ _
    have hB0 : Below w.heap.size w (w.alloc (.cells #[.int .i64 kind, .int .i64 sector, .int .i64 bytes, .string t, .bool odd, .int .i64 after] 34)) := (Below.refl _ _).alloc (Nat.le_refl _) _
    have hxl := hX.lt
    generalize w.alloc (.cells #[.int .i64 kind, .int .i64 sector, .int .i64 bytes, .string t, .bool odd, .int .i64 after] 34) = w0 at hX hB0 hxl ⊢
    have HX := Lib.hid hX
    have HB0 := Lib.hid hB0
    have HL1 := Lib.hid (hl1.below hB0)
    obtain ⟨xb, hxb⟩ : ∃ xb, xb = w.heap.size := ⟨_, rfl⟩
    rw [← hxb] at HX hxl
    simp only [← hxb]
    have HXB := Lib.hid hxb
    clear hX hB0 hl1 hxb
    refine (head_any w0).mono ?_
    rintro e w1 ⟨rfl, hb⟩
    have HB := Lib.hid hb
    have hz1 := hb.size
    have x0 := (hb.cell (p := ⟨xb, 0, none⟩) hxl).trans (HX.out.cell 0)
    have x1 := (hb.cell (p := ⟨xb, 1, none⟩) hxl).trans (HX.out.cell 1)
    have x2 := (hb.cell (p := ⟨xb, 2, none⟩) hxl).trans (HX.out.cell 2)
    have x3 := (hb.cell (p := ⟨xb, 3, none⟩) hxl).trans (HX.out.cell 3)
    have x4 := (hb.cell (p := ⟨xb, 4, none⟩) hxl).trans (HX.out.cell 4)
    have x5 := (hb.cell (p := ⟨xb, 5, none⟩) hxl).trans (HX.out.cell 5)
    have hxl1 : xb < w1.heap.size := Nat.lt_of_lt_of_le hxl hz1
    clear hb
    go_wp2_with fail
    refine (ok_any w1 A1 n1 c1 l1 (HL1.out.below HB.out)).mono ?_
    rintro e w2 ⟨rfl, rfl⟩
    rw [h]
    clear h
    go_wp2_with fail
    refine (ok_any (w1.alloc (.cells #[.int .i64 kind, .int .i64 sector, .int .i64 bytes, .string t, .bool odd, .int .i64 after] 34)) _ _ _ [⟨kind, sector, bytes, t, odd, after⟩] (one_act w1 ⟨kind, sector, bytes, t, odd, after⟩ HWF.out)).mono ?_
    rintro e w2 ⟨rfl, rfl⟩
    rw [h']
    clear h'
    go_wp2
    go_ret
    exact ⟨rfl, (bthen HB0.out HB0.out.size HB.out).alloc (Nat.le_trans HB0.out.size HB.out.size) _⟩

set_option maxRecDepth 100000 in
set_option maxHeartbeats 2000000 in
theorem reads_yes (w : World) (r : Int) (h0 : 0 ≤ r) (h1 : r ≤ 255) (A1 : Option Addr) (n1 c1 : Nat) (l1 : List Ac) (hl1 : ActsAt w A1 n1 l1) (q : Ac) (qwf : q.Wf) (hk_l1 : okA l1 = true) (hk2 : okA [q] = true) :
    Calls Try.prog 6 #[.int .u8 r, .slice A1 n1 c1, .agg q.cells] w fun e w' => e = .returned (.bool true) ∧ Below w.heap.size w w' := by
  have hn1 : n1 ≤ 60 := by have := okA_len hk_l1; rw [hl1.len] at this; exact this
  have HK1 := Lib.hid hk_l1
  have HK2 := Lib.hid hk2
  have HWF := Lib.hid qwf
  obtain ⟨N, hN⟩ : ∃ N, N = sizeN r := ⟨_, rfl⟩
  have hN1 : 1 ≤ N := by rw [hN]; exact sizeN_lo r h0
  have hN2 : N ≤ 12 := by rw [hN]; exact sizeN_hi r h0
  have HSZ := Lib.hid (fun W => size_any W r h0 h1)
  rw [← hN] at HSZ
  clear hN
  have HQ1 := Lib.hid (show ∀ k, ((Dk.new N).run (l1.take k)).q.length < 1000000 from fun k => by
    have h := Dk.run_q (l1.take k) (Dk.new N)
    have h2 := List.length_take_le' k l1
    have h3 := okA_len hk_l1
    simp only [Dk.new, List.length_nil] at h
    exact Nat.lt_of_le_of_lt h (by omega))
  clear hk_l1 h0 h1 hk2 qwf
  obtain ⟨kind, sector, bytes, t, odd, after⟩ := q
  unfold Ac.cells
  simp only
  go_enter Try.func6, Try.ntmps6
  go_wp2_with fail
  have hX : Blk (w.alloc (.cells #[.int .i64 kind, .int .i64 sector, .int .i64 bytes, .string t, .bool odd, .int .i64 after] 34)) w.heap.size 34 #[.int .i64 kind, .int .i64 sector, .int .i64 bytes, .string t, .bool odd, .int .i64 after] := Blk.new w _ _
  have hB0 : Below w.heap.size w (w.alloc (.cells #[.int .i64 kind, .int .i64 sector, .int .i64 bytes, .string t, .bool odd, .int .i64 after] 34)) := (Below.refl _ _).alloc (Nat.le_refl _) _
  have hxl := hX.lt
  generalize w.alloc (.cells #[.int .i64 kind, .int .i64 sector, .int .i64 bytes, .string t, .bool odd, .int .i64 after] 34) = w0 at hX hB0 hxl ⊢
  have HX := Lib.hid hX
  have HB0 := Lib.hid hB0
  have HL1 := Lib.hid (hl1.below hB0)
  obtain ⟨xb, hxb⟩ : ∃ xb, xb = w.heap.size := ⟨_, rfl⟩
  rw [← hxb] at HX hxl
  simp only [← hxb]
  have HXB := Lib.hid hxb
  clear hX hB0 hl1 hxb
  refine (head_any w0).mono ?_
  rintro e w1 ⟨rfl, hb⟩
  have HB := Lib.hid hb
  have hz1 := hb.size
  have x0 := (hb.cell (p := ⟨xb, 0, none⟩) hxl).trans (HX.out.cell 0)
  have x1 := (hb.cell (p := ⟨xb, 1, none⟩) hxl).trans (HX.out.cell 1)
  have x2 := (hb.cell (p := ⟨xb, 2, none⟩) hxl).trans (HX.out.cell 2)
  have x3 := (hb.cell (p := ⟨xb, 3, none⟩) hxl).trans (HX.out.cell 3)
  have x4 := (hb.cell (p := ⟨xb, 4, none⟩) hxl).trans (HX.out.cell 4)
  have x5 := (hb.cell (p := ⟨xb, 5, none⟩) hxl).trans (HX.out.cell 5)
  have hxl1 : xb < w1.heap.size := Nat.lt_of_lt_of_le hxl hz1
  clear hb
  go_wp2_with fail
  refine (ok_any w1 A1 n1 c1 l1 (HL1.out.below HB.out)).mono ?_
  rintro e w2 ⟨rfl, rfl⟩
  rw [HK1.out]
  go_wp2_with fail
  refine (ok_any (w1.alloc (.cells #[.int .i64 kind, .int .i64 sector, .int .i64 bytes, .string t, .bool odd, .int .i64 after] 34)) _ _ _ [⟨kind, sector, bytes, t, odd, after⟩] (one_act w1 ⟨kind, sector, bytes, t, odd, after⟩ HWF.out)).mono ?_
  rintro e w2 ⟨rfl, rfl⟩
  rw [HK2.out]
  go_wp2_with fail
  have hB2 : Below w0.heap.size w0 (w1.alloc (.cells #[.int .i64 kind, .int .i64 sector, .int .i64 bytes, .string t, .bool odd, .int .i64 after] 34)) := HB.out.alloc hz1 _
  clear x0 x1 x2 x3 x4 x5 hxl1
  generalize w1.alloc (.cells #[.int .i64 kind, .int .i64 sector, .int .i64 bytes, .string t, .bool odd, .int .i64 after] 34) = w1' at hB2 ⊢
  have hz2 := hB2.size
  have HB2 := Lib.hid hB2
  clear hB2
  refine (HSZ.out _).mono ?_
  rintro e w2 ⟨rfl, rfl⟩
  go_wp2_with fail
  refine (new_bound w1' N hN1 (by omega)).mono ?_
  rintro e w3 ⟨rfl, hd, hb⟩
  have HD := Lib.hid (Lone.new hd HB2.out hz2 hb)
  clear hd hb
  obtain ⟨db, hdb⟩ : ∃ db, db = w1'.heap.size + 1 := ⟨_, rfl⟩
  rw [← hdb] at HD ⊢
  clear hdb
  go_wp2_with fail
  go_loopw [10] (fun i wr => ∃ k : Nat, k ≤ n1 ∧ i = .int .i64 (k : Int) ∧ Lone (fun _ => False) w0.heap.size w0 db ((Dk.new N).run (l1.take k)) wr) (fun i _ => n1 - (intOf i).toNat)
  case atStart => exact ⟨0, Nat.zero_le _, rfl, HD.out⟩
  case round =>
    obtain ⟨k, hk, rfl, hrel⟩ := hrel
    have HR := Lib.hid hrel
    clear hrel
    by_cases hlt : k < n1
    · obtain ⟨b, o, kind, sector, bytes, t, odd, after, rfl, hbl, hget, hwf, a0, a1, a2, a3, a4, a5⟩ := HL1.out.get HR.out.bel hlt
      have HC := Lib.hid (HR.out.step (fun S hS => do_any wr S _ _ ⟨kind, sector, bytes, t, odd, after⟩ hwf hS (HQ1.out k)))
      have HG := Lib.hid hget
      clear hget hwf
      unfold Ac.cells at HC
      simp only at HC
      go_wp2_with fail
      refine HC.out.mono ?_
      intro e w2 hp
      obtain ⟨rfl, hl, hg, hs⟩ := hp
      have HL2 := Lib.hid hl
      clear hl hg hs HC
      go_wp2
      go_roundw
      case rel => exact ⟨k + 1, by omega, by go_num, by rw [Dk.run_take _ _ _ _ HG.out]; exact HL2.out⟩
      case measure => simp [intOf]; omega
    · obtain rfl : k = n1 := by omega
      have e1 : (Dk.new N).run (l1.take k) = (Dk.new N).run l1 := by rw [List.take_of_length_le (by rw [HL1.out.len]; omega)]
      rw [e1] at HR
      clear hlt hk e1 HD
      obtain ⟨D0, hD0⟩ : ∃ D0, D0 = (Dk.new N).run l1 := ⟨_, rfl⟩
      rw [← hD0] at HR
      have HN0 := Lib.hid (show D0.st.length = N by rw [hD0, Dk.run_n]; simp [Dk.new])
      have HQ0 := Lib.hid (show D0.q.length ≤ 60 by
        have h := Dk.run_q l1 (Dk.new N)
        rw [← hD0] at h
        simp only [Dk.new, List.length_nil] at h
        have := HL1.out.len
        omega)
      clear hD0
      go_wp2_with fail
      refine (HR.out.step (fun S hS => start_c _ S _ _ hS)).mono ?_
      intro e w4 hp
      obtain ⟨rfl, hl, hg, hs⟩ := hp
      have HS1 := Lib.hid hl
      clear hl hg hs
      have hpl : D0.start.Plain := ⟨rfl, rfl⟩
      have HPL := Lib.hid hpl
      have HQS := Lib.hid (show D0.start.q.length ≤ 60 from HQ0.out)
      have HNS := Lib.hid (show D0.start.st.length = N from HN0.out)
      clear hpl HR HQ0 HN0
      generalize D0.start = D1 at HS1 HPL HQS HNS
      go_wp2_with fail
      refine (HS1.out.look (fun S hS => contents_row w4 S _ _ hS HPL.out.1 (Nat.le_trans HQS.out (by omega)) N HNS.out.symm)).mono ?_
      rintro e w5 ⟨g, c5, rfl, hg, hc, hown, hb⟩
      have HL5 := Lib.hid (HS1.out.guard hb (fun k => k = g) (fun k e => by rw [e]; exact hg))
      have HC5 := Lib.hid hc
      have HO5 := Lib.hid hown
      have hgB := Nat.le_trans HS1.out.size hg.1
      clear hg hc hown hb
      have HT := Lib.hid (fun W => text_any W ⟨kind, sector, bytes, t, odd, after⟩ HWF.out.2.2.2.1)
      have hss := txt_size ⟨kind, sector, bytes, t, odd, after⟩ HWF.out
      obtain ⟨s, hs⟩ : ∃ s, Ac.txt ⟨kind, sector, bytes, t, odd, after⟩ = s := ⟨_, rfl⟩
      have HS := Lib.hid hs
      rw [hs] at HT hss
      unfold Ac.cells at HT
      simp only at HT
      have HSS := Lib.hid hss
      have y0 := (HL5.out.bel.cell (p := ⟨xb, 0, none⟩) hxl).trans (HX.out.cell 0)
      have y1 := (HL5.out.bel.cell (p := ⟨xb, 1, none⟩) hxl).trans (HX.out.cell 1)
      have y2 := (HL5.out.bel.cell (p := ⟨xb, 2, none⟩) hxl).trans (HX.out.cell 2)
      have y3 := (HL5.out.bel.cell (p := ⟨xb, 3, none⟩) hxl).trans (HX.out.cell 3)
      have y4 := (HL5.out.bel.cell (p := ⟨xb, 4, none⟩) hxl).trans (HX.out.cell 4)
      have y5 := (HL5.out.bel.cell (p := ⟨xb, 5, none⟩) hxl).trans (HX.out.cell 5)
      have HRD := Lib.hid (HL5.out.below ((Below.refl _ _).drew))
      have hz5 : xb < w5.heap.size := Nat.lt_of_lt_of_le hxl HL5.out.bel.size
      clear hs hss
      go_upto_region 12 with (fail)
      go_cut [13] (fun e wc => e = .int .i64 (D1.write sector s).2 ∧ Lone (fun k => k = g) w0.heap.size w0 db (D1.write sector s).1 wc ∧ wc.heap[g]? = w5.heap[g]?)
      case first =>
        go_region_with (first
          | (go_at_call 24; refine (HT.out _).mono ?_; rintro e w7 ⟨rfl, hb⟩; have HB7 := Lib.hid hb; have b1 := (hb.cell (p := ⟨xb, 1, none⟩) hz5).trans y1; clear hb)
          | (go_at_call 23; refine ((HRD.out.below HB7.out).step (fun S hS => write_any _ S _ _ sector s hS HSS.out (Nat.lt_of_le_of_lt HQS.out (by omega)))).mono ?_; intro e w8 hp; obtain ⟨rfl, hl, hgk, hsz⟩ := hp; have HL8 := Lib.hid hl; have HG8 := Lib.hid hgk; clear hl hgk hsz))
        all_goals
          go_wp2_with fail
          go_meet
          have q1 := HG8.out g (.inr rfl)
          have q3 := HB7.out.block g (HL5.out.2.2.2 g (.inr rfl))
          exact ⟨rfl, HL8.out.loosen (fun k hk => .inr hk), q1.trans q3⟩
      case rest =>
        obtain ⟨rfl, hcl, hcg⟩ := hcut
        have HW := Lib.hid hcl
        have HWG := Lib.hid hcg
        have HWI := Lib.hid (Dk.write_plain HPL.out sector s)
        have HPW := Lib.hid (Dk.write_plain_keep HPL.out sector s)
        have HQW := Lib.hid (show (D1.write sector s).1.q.length ≤ 61 from Nat.le_trans (Dk.write_q D1 sector s) (by have := HQS.out; omega))
        have HN2 := Lib.hid (show (D1.write sector s).1.st.length = N by rw [HPW.out.2, HNS.out])
        clear hcl hcg y0 y1 y2 y3 y4 y5 HRD
        go_wp2_with fail
        refine (HW.out.look (fun S hS => contents_row wc S _ _ hS HPW.out.1.1 (Nat.le_trans HQW.out (by omega)) N HN2.out.symm)).mono ?_
        rintro e w6 ⟨g2, c6, rfl, hg, hc, hown, hb⟩
        have HL6 := Lib.hid (HW.out.guard hb (fun k => k = g2) (fun k e => by rw [e]; exact hg))
        have HO6 := Lib.hid hown
        have p6 := (hb.block g (HW.out.2.2.2 g rfl)).trans HWG.out
        have hg2B := Nat.le_trans HW.out.size hg.1
        have hgg : g < g2 := Nat.lt_of_lt_of_le (HW.out.2.2.2 g rfl) hg.1
        clear hg hc hown hb
        go_wp2_with fail
        refine (HL6.out.look (fun S hS => contents_row w6 S _ _ hS HPW.out.1.1 (Nat.le_trans HQW.out (by omega)) N HN2.out.symm)).mono ?_
        rintro e w7 ⟨g3, c7, rfl, hg, hc, hown, hb⟩
        have HL7 := Lib.hid (HL6.out.below hb)
        have p7 := (hb.block g (HL6.out.2.2.2 g (.inl rfl))).trans p6
        have q7 := hb.block g2 (HL6.out.2.2.2 g2 (.inr rfl))
        have HO7 := Lib.hid hown
        have HO6' := Lib.hid (own_of_block HO6.out q7)
        have HO5' := Lib.hid (own_of_block HO5.out p7)
        have hsz2 : ∀ x ∈ curs (D1.write sector s).1, x.size ≤ 140737488351232 := fun x hx => by
          obtain ⟨i, hi, rfl⟩ := List.mem_map.1 hx
          have := cur_size HL7.out.inv (i := i) (by simpa using hi)
          omega
        have hsz1 : ∀ x ∈ curs D1, x.size ≤ 140737488351232 := fun x hx => by
          obtain ⟨i, hi, rfl⟩ := List.mem_map.1 hx
          have := cur_size HS1.out.inv (i := i) (by simpa using hi)
          omega
        have hlen2 : (curs (D1.write sector s).1).length = N := by simp [curs, HN2.out]
        have hlen1 : (curs D1).length = N := by simp [curs, HNS.out]
        have HSZ1 := Lib.hid hsz1
        have HSZ2 := Lib.hid hsz2
        have HLN1 := Lib.hid hlen1
        have HLN2 := Lib.hid hlen2
        have HC7 := Lib.hid (fun k (hk : k < N) => (World.cell?_of_block (a := ⟨g, k, none⟩) p7).trans (HC5.out k hk))
        clear hg hc hown hb p6 p7 q7 hsz1 hsz2 hlen1 hlen2 HWG HC5 HO5 HO6
        go_wp2_with fail
        refine (same_yes w7 _ _ _ ⟨by rw [HLN2.out]; exact HO6'.out, HSZ2.out⟩ ⟨by rw [HLN2.out]; exact HO7.out, HSZ2.out⟩).mono ?_
        rintro e w8 ⟨rfl, hb⟩
        have HL8 := Lib.hid (HL7.out.below hb)
        have hb7 := hb
        have HB8 := Lib.hid hb
        clear hb hb7
        by_cases hv : D1.valid sector = true ∧ s.size = 64
        · have hw := HWI.out
          rw [if_pos hv] at hw
          have hw2 : (D1.write sector s).2 = 0 := by rw [hw]
          rw [hw2]
          have hv1 := (Dk.valid_iff _ _).1 hv.1
          rw [HNS.out] at hv1
          have hv2 := hv1.1
          have hv3 := hv1.2
          have HWE := Lib.hid hw
          have z1 := (HL8.out.bel.cell (p := ⟨xb, 1, none⟩) hxl).trans (HX.out.cell 1)
          clear hw2 hv1 hv hw
          have hgl8 := HL8.out.2.2.2 g (.inl rfl)
          have y0 := (HL8.out.bel.cell (p := ⟨xb, 0, none⟩) hxl).trans (HX.out.cell 0)
          have y2 := (HL8.out.bel.cell (p := ⟨xb, 2, none⟩) hxl).trans (HX.out.cell 2)
          have y3 := (HL8.out.bel.cell (p := ⟨xb, 3, none⟩) hxl).trans (HX.out.cell 3)
          have y4 := (HL8.out.bel.cell (p := ⟨xb, 4, none⟩) hxl).trans (HX.out.cell 4)
          have y5 := (HL8.out.bel.cell (p := ⟨xb, 5, none⟩) hxl).trans (HX.out.cell 5)
          have hz8 : xb < w8.heap.size := Nat.lt_of_lt_of_le hxl HL8.out.bel.size
          have HO5'' := Lib.hid ((Touch.of_new (S := fun _ => False) HB8.out).own HO5'.out (fun _ _ => id))
          have HO6'' := Lib.hid ((Touch.of_new (S := fun _ => False) HB8.out).own HO6'.out (fun _ _ => id))
          have hcg := pw_keep (HC7.out sector.toNat (by omega)) HB8.out
          have hcf := HO5''.out.frozenAt sector.toNat
          have HRD := Lib.hid (HL8.out.below ((Below.refl _ _).drew))
          go_upto_region 21 with (fail)
          go_cut [] (fun wc => Lone (fun k => k = g ∨ k = g2) w0.heap.size w0 db (D1.write sector s).1 wc ∧ wc.ownsRow 0 9 1 (.slice (some ⟨g, 0, none⟩) N c5) N ((strV (curs D1)).set sector.toNat (.string s)) ∧ wc.ownsRow 0 9 1 (.slice (some ⟨g2, 0, none⟩) N c6) N (strV (curs (D1.write sector s).1)))
          case first =>
            go_region_with (first
              | (go_at_call 24; refine (HT.out _).mono ?_; rintro e w9 ⟨rfl, hb⟩; have HB9 := Lib.hid hb; have b1 := (hb.cell (p := ⟨xb, 1, none⟩) hz8).trans z1; have b2 := (hb.cell (p := ⟨g, sector.toNat, none⟩) hgl8).trans hcg; have b3 := (hb.frozen (p := ⟨g, sector.toNat, none⟩) hgl8).trans hcf; clear hb))
            all_goals
              go_wp2_with fail
              go_meet
              have hbb := HB9.out
              have t9 : Touch (fun _ => False) w8 w9 := ((Touch.refl _ _).drew).trans (Touch.of_new hbb) fun _ _ => id
              have o1 := t9.own HO5''.out (fun _ _ => id)
              have o2 := t9.own HO6''.out (fun _ _ => id)
              have hl9 := HRD.out.below hbb
              have ht : Touch (fun k => k = g ∨ k = g2) w9 (w9.setCell ⟨g, sector.toNat, none⟩ (.string s)) := (Touch.refl _ _).setCell (p := ⟨g, _, none⟩) (.inr (.inl rfl)) _
              have ht2 : Touch (fun k => k = g) w9 (w9.setCell ⟨g, sector.toNat, none⟩ (.string s)) := (Touch.refl (fun k => k = g) w9).setCell (p := ⟨g, _, none⟩) (.inr rfl) _
              exact ⟨hl9.touch ht (fun k hk => by rcases hk with rfl | rfl <;> assumption), (o1.stored sector.toNat (.string s)).1, ht2.own o2 (fun k hk e => by simp only [Value.ownBlock, Option.some.injEq] at hk; have := hgg; omega)⟩
          case rest =>
            obtain ⟨hl9, ho1, ho2⟩ := hcut
            have he : (strV (curs D1)).set sector.toNat (.string s) = strV (curs (D1.write sector s).1) := by
              rw [HWE.out]
              show _ = strV (curs { D1 with q := D1.q ++ [(sector.toNat, s)] })
              rw [curs_write D1 sector.toNat (by rw [HNS.out]; omega) s]
              simp [strV, List.map_set]
            rw [he] at ho1
            have HL9 := Lib.hid hl9
            have HP1 := Lib.hid ho1
            have HP2 := Lib.hid ho2
            clear hl9 ho1 ho2 he y0 z1 y2 y3 y4 y5 hcg hcf
            go_wp2_with fail
            refine (same_yes _ _ _ _ ⟨by rw [HLN2.out]; exact HP1.out, HSZ2.out⟩ ⟨by rw [HLN2.out]; exact HP2.out, HSZ2.out⟩).mono ?_
            rintro e w10 ⟨rfl, hb⟩
            have HL10 := Lib.hid (HL9.out.below hb)
            clear hb
            have hof : ((D1.write sector s).1.fail 0 0).off = true := by
              unfold Dk.fail
              rw [if_neg (by simp [HPW.out.1.1])]
            have HWO := Lib.hid (show ((D1.write sector s).1.fail 0 0).write 0 (fillv ⟨#[97]⟩) = ((D1.write sector s).1.fail 0 0, 28) from Dk.write_dark hof _ _)
            have HRO := Lib.hid (show ((D1.write sector s).1.fail 0 0).read 0 = (Dk.str [], 28) from Dk.read_dark hof _)
            have hqf : ((D1.write sector s).1.fail 0 0).q.length ≤ 61 := by
              unfold Dk.fail
              rw [if_neg (by simp [HPW.out.1.1])]
              simp
            have HQF := Lib.hid hqf
            have ce : (Dk.str []).toList = [] := by rw [ByteArray.toList_eq]; rfl
            clear hof hqf
            go_wp2_with fail
            refine (HL10.out.step (fun S hS => fail_any w10 S _ _ 0 0 hS (Nat.le_trans HQW.out (by omega)))).mono ?_
            intro e w11 hp
            obtain ⟨rfl, hl, hgk, hs⟩ := hp
            have HL11 := Lib.hid hl
            clear hl hgk hs
            go_wp2_with fail
            refine (fill_any w11 ⟨#[97]⟩ (by decide)).mono ?_
            rintro e w12 ⟨rfl, hb⟩
            have HL12 := Lib.hid (HL11.out.below hb)
            clear hb
            go_wp2_with fail
            refine (HL12.out.step (fun S hS => write_any w12 S _ _ 0 _ hS (by rw [show fillv ⟨#[97]⟩ = Head.fa from rfl, Head.fa_size]; omega) (Nat.lt_of_le_of_lt HQF.out (by omega)))).mono ?_
            intro e w13 hp
            rw [HWO.out] at hp
            simp only at hp
            obtain ⟨rfl, hl, hgk, hs⟩ := hp
            have HL13 := Lib.hid hl
            clear hl hgk hs
            go_wp2_with fail
            refine (HL13.out.look (fun S hS => read_any w13 S _ _ 0 hS (Nat.le_trans HQF.out (by omega)))).mono ?_
            rintro e w14 ⟨rfl, hb⟩
            rw [HRO.out]
            have HL14 := Lib.hid (HL13.out.below hb)
            clear hb
            go_wp2
            go_ret
            exact ⟨rfl, bthen HB0.out HB0.out.size HL14.out.bel⟩
        · have hw := HWI.out
          rw [if_neg hv] at hw
          have hw2 : (D1.write sector s).2 = 1 := by rw [hw]
          rw [hw2]
          have hw1 : (D1.write sector s).1 = D1 := by rw [hw]
          have HW1 := Lib.hid hw1
          have hvv : sector < 0 ∨ (N : Int) ≤ sector ∨ (0 ≤ sector ∧ sector < (N : Int) ∧ s.size ≠ 64) := by
            by_cases h1 : sector < 0
            · exact .inl h1
            · by_cases h2 : (N : Int) ≤ sector
              · exact .inr (.inl h2)
              · refine .inr (.inr ⟨by omega, by omega, fun h3 => hv ⟨(Dk.valid_iff _ _).2 ?_, h3⟩⟩)
                rw [HNS.out]; omega
          have z1 := (HL8.out.bel.cell (p := ⟨xb, 1, none⟩) hxl).trans (HX.out.cell 1)
          have HO5'' := Lib.hid ((Touch.of_new (S := fun _ => False) HB8.out).own HO5'.out (fun _ _ => id))
          have HO6'' := Lib.hid ((Touch.of_new (S := fun _ => False) HB8.out).own HO6'.out (fun _ _ => id))
          have ho2 := HO6''.out
          rw [hw1] at ho2
          have HP2 := Lib.hid ho2
          have HSM := Lib.hid (same_yes w8 _ _ _ ⟨by rw [HLN1.out]; exact HO5''.out, HSZ1.out⟩ ⟨by rw [HLN1.out]; exact HP2.out, HSZ1.out⟩)
          clear hw hw1 hw2 hv ho2
          rcases hvv with h1 | h2 | ⟨h1, h2, h3⟩
          · go_wp2_with fail
            refine HSM.out.mono ?_
            rintro e w9 ⟨rfl, hb⟩
            have z9 := pw_keep (z1.trans rfl) hb
            have HL9 := Lib.hid (HL8.out.below hb)
            clear hb z1
            go_wp2
            go_ret
            exact ⟨rfl, bthen HB0.out HB0.out.size HL9.out.bel⟩
          · have h1 : 0 ≤ sector := by omega
            go_wp2_with fail
            refine HSM.out.mono ?_
            rintro e w9 ⟨rfl, hb⟩
            have z9 := pw_keep (z1.trans rfl) hb
            have HL9 := Lib.hid (HL8.out.below hb)
            clear hb z1
            go_wp2
            go_ret
            exact ⟨rfl, bthen HB0.out HB0.out.size HL9.out.bel⟩
          · go_wp2_with fail
            refine HSM.out.mono ?_
            rintro e w9 ⟨rfl, hb⟩
            have HL9 := Lib.hid (HL8.out.below hb)
            have z0 := (HL9.out.bel.cell (p := ⟨xb, 0, none⟩) hxl).trans (HX.out.cell 0)
            have z9 := pw_keep (z1.trans rfl) hb
            have z2 := (HL9.out.bel.cell (p := ⟨xb, 2, none⟩) hxl).trans (HX.out.cell 2)
            have z3 := (HL9.out.bel.cell (p := ⟨xb, 3, none⟩) hxl).trans (HX.out.cell 3)
            have z4 := (HL9.out.bel.cell (p := ⟨xb, 4, none⟩) hxl).trans (HX.out.cell 4)
            have z5 := (HL9.out.bel.cell (p := ⟨xb, 5, none⟩) hxl).trans (HX.out.cell 5)
            have hb1 : ((s.size : Int) != 64) = true := by simp; omega
            have hb2 : ((s.size : Int) == 64) = false := by simp; omega
            have hss := HSS.out
            clear hb z1 h3
            go_wp2_with fail
            refine (HT.out w9).mono ?_
            rintro e w10 ⟨rfl, hb⟩
            have HL10 := Lib.hid (HL9.out.below hb)
            clear hb
            go_wp2
            go_ret
            exact ⟨rfl, bthen HB0.out HB0.out.size HL10.out.bel⟩

theorem reads_walk (w : World) (r : Int) (h0 : 0 ≤ r) (h1 : r ≤ 255) (A1 : Option Addr) (n1 c1 : Nat) (l1 : List Ac) (hl1 : ActsAt w A1 n1 l1) (q : Ac) (qwf : q.Wf) :
    Calls Try.prog 6 #[.int .u8 r, .slice A1 n1 c1, .agg q.cells] w fun e w' => e = .returned (.bool true) ∧ Below w.heap.size w w' := by
  cases hk1 : okA l1 with
  | false => exact reads_no w r h0 h1 A1 n1 c1 l1 hl1 q qwf (.inl hk1)
  | true =>
    cases hk2 : okA [q] with
    | false => exact reads_no w r h0 h1 A1 n1 c1 l1 hl1 q qwf (.inr ⟨hk1, hk2⟩)
    | true => exact reads_yes w r h0 h1 A1 n1 c1 l1 hl1 q qwf hk1 hk2
end Go.Proofs.Ythcjlohdfcdloaa
