/- The walk of DiskRaw. -/
import Derived.Test.YthcjlohdfcdloaaLawOne
set_option linter.unusedVariables false
set_option linter.unusedSimpArgs false
namespace Go.Proofs.Ythcjlohdfcdloaa
open Go.RowKit

theorem one_len (a : Ac) : okA [a] = decide (a.text.size ≤ 100) := by simp [okA]

set_option maxHeartbeats 400000 in
theorem raw_no (w : World) (r : Int) (h0 : 0 ≤ r) (h1 : r ≤ 255) (A1 : Option Addr) (n1 c1 : Nat) (l1 : List Ac) (hl1 : ActsAt w A1 n1 l1) (q : Ac) (qwf : q.Wf) (hno : okA l1 = false ∨ (okA l1 = true ∧ okA [q] = false)) :
    Calls Try.prog 10 #[.int .u8 r, .slice A1 n1 c1, .agg q.cells] w fun e w' => e = .returned (.bool true) ∧ Below w.heap.size w w' := by
  have HWF := Lib.hid qwf
  clear qwf
  obtain ⟨kind, sector, bytes, t, odd, after⟩ := q
  unfold Ac.cells
  simp only
  rcases hno with h | ⟨h, h'⟩
  · go_enter Try.func10, Try.ntmps10
    go_wp2_with fail
    have hX : Blk (w.alloc (.cells #[.int .i64 kind, .int .i64 sector, .int .i64 bytes, .string t, .bool odd, .int .i64 after] 34)) w.heap.size 34 #[.int .i64 kind, .int .i64 sector, .int .i64 bytes, .string t, .bool odd, .int .i64 after] := Blk.new w _ _
    have hB0 : Below w.heap.size w (w.alloc (.cells #[.int .i64 kind, .int .i64 sector, .int .i64 bytes, .string t, .bool odd, .int .i64 after] 34)) := (Below.refl _ _).alloc (Nat.le_refl _) _
    have hxl := hX.lt
    generalize w.alloc (.cells #[.int .i64 kind, .int .i64 sector, .int .i64 bytes, .string t, .bool odd, .int .i64 after] 34) = w0 at hX hB0 hxl ⊢
    have HX := Lib.hid hX
    have HB0 := Lib.hid hB0
    have HL1 := Lib.hid (hl1.below hB0)
    obtain ⟨xb, hxb⟩ : ∃ xb, xb = w.heap.size := ⟨_, rfl⟩
    rw [← hxb] at HX hxl
    simp only [← hxb]
    have HXB := Lib.hid hxb
    clear hX hB0 hl1 hxb
    refine (head_any w0).mono ?_
    rintro e w1 ⟨rfl, hb⟩
    have HB := Lib.hid hb
    have hz1 := hb.size
    have x0 := (hb.cell (p := ⟨xb, 0, none⟩) hxl).trans (HX.out.cell 0)
    have x1 := (hb.cell (p := ⟨xb, 1, none⟩) hxl).trans (HX.out.cell 1)
    have x2 := (hb.cell (p := ⟨xb, 2, none⟩) hxl).trans (HX.out.cell 2)
    have x3 := (hb.cell (p := ⟨xb, 3, none⟩) hxl).trans (HX.out.cell 3)
    have x4 := (hb.cell (p := ⟨xb, 4, none⟩) hxl).trans (HX.out.cell 4)
    have x5 := (hb.cell (p := ⟨xb, 5, none⟩) hxl).trans (HX.out.cell 5)
    have hxl1 : xb < w1.heap.size := Nat.lt_of_lt_of_le hxl hz1
    clear hb
    go_wp2_with fail
    refine (ok_any w1 A1 n1 c1 l1 (HL1.out.below HB.out)).mono ?_
    rintro e w2 ⟨rfl, rfl⟩
    rw [h]
    clear h
    go_wp2
    go_ret
    exact ⟨rfl, bthen HB0.out HB0.out.size HB.out⟩
  · go_enter Try.func10, Try.ntmps10
    go_wp2_with fail
    have hX : Blk (w.alloc (.cells #[.int .i64 kind, .int .i64 sector, .int .i64 bytes, .string t, .bool odd, .int .i64 after] 34)) w.heap.size 34 #[.int .i64 kind, .int .i64 sector, .int .i64 bytes, .string t, .bool odd, .int .i64 after] := Blk.new w _ _
    have hB0 : Below w.heap.size w (w.alloc (.cells #[.int .i64 kind, .int .i64 sector, .int .i64 bytes, .string t, .bool odd, .int .i64 after] 34)) := (Below.refl _ _).alloc (Nat.le_refl _) _
    have hxl := hX.lt
    generalize w.alloc (.cells #[.int .i64 kind, .int .i64 sector, .int .i64 bytes, .string t, .bool odd, .int .i64 after] 34) = w0 at hX hB0 hxl ⊢
    have HX := Lib.hid hX
    have HB0 := Lib.hid hB0
    have HL1 := Lib.hid (hl1.below hB0)
    obtain ⟨xb, hxb⟩ : ∃ xb, xb = w.heap.size := ⟨_, rfl⟩
    rw [← hxb] at HX hxl
    simp only [← hxb]
    have HXB := Lib.hid hxb
    clear hX hB0 hl1 hxb
    refine (head_any w0).mono ?_
    rintro e w1 ⟨rfl, hb⟩
    have HB := Lib.hid hb
    have hz1 := hb.size
    have x0 := (hb.cell (p := ⟨xb, 0, none⟩) hxl).trans (HX.out.cell 0)
    have x1 := (hb.cell (p := ⟨xb, 1, none⟩) hxl).trans (HX.out.cell 1)
    have x2 := (hb.cell (p := ⟨xb, 2, none⟩) hxl).trans (HX.out.cell 2)
    have x3 := (hb.cell (p := ⟨xb, 3, none⟩) hxl).trans (HX.out.cell 3)
    have x4 := (hb.cell (p := ⟨xb, 4, none⟩) hxl).trans (HX.out.cell 4)
    have x5 := (hb.cell (p := ⟨xb, 5, none⟩) hxl).trans (HX.out.cell 5)
    have hxl1 : xb < w1.heap.size := Nat.lt_of_lt_of_le hxl hz1
    clear hb
    go_wp2_with fail
    refine (ok_any w1 A1 n1 c1 l1 (HL1.out.below HB.out)).mono ?_
    rintro e w2 ⟨rfl, rfl⟩
    rw [h]
    clear h
    go_wp2_with fail
    refine (ok_any (w1.alloc (.cells #[.int .i64 kind, .int .i64 sector, .int .i64 bytes, .string t, .bool odd, .int .i64 after] 34)) _ _ _ [⟨kind, sector, bytes, t, odd, after⟩] (one_act w1 ⟨kind, sector, bytes, t, odd, after⟩ HWF.out)).mono ?_
    rintro e w2 ⟨rfl, rfl⟩
    rw [h']
    clear h'
    go_wp2
    go_ret
    exact ⟨rfl, (bthen HB0.out HB0.out.size HB.out).alloc (Nat.le_trans HB0.out.size HB.out.size) _⟩

theorem Dk.raw_write {D : Dk} (h : D.Plain) (i : Int) (s : ByteArray) : (D.write i s).1.raw = D.raw := by
  unfold Dk.raw; rw [(Dk.write_plain_keep h i s).2]
theorem Dk.raw_fail0 {D : Dk} (h : D.off = false) : (D.fail 0 0).raw = D.raw := by
  unfold Dk.raw Dk.fail
  rw [if_neg (by simp [h])]
  show Dk.str (Dk.failSt D 0 0).flatten = _
  unfold Dk.failSt
  have e : Dk.clamp 0 D.q.length = 0 := by simp [Dk.clamp]
  have e2 : Dk.clamp 0 64 = 0 := by simp [Dk.clamp]
  rw [e, e2]
  split
  · rename_i p hp
    rw [List.take_zero, List.take_zero, Dk.put_nil]; rfl
  · rw [List.take_zero]; rfl
theorem Dk.raw_size {D : Dk} (h : D.Inv) : D.raw.size = 64 * D.st.length := by
  show (D.st.flatten.toArray).size = _
  rw [List.size_toArray, Dk.flat_length h.sec]
/-- The bytes of the first sectors. -/
def Dk.firsts (D : Dk) (k : Nat) : ByteArray := Dk.str (D.st.take k).flatten
theorem Dk.firsts_succ (D : Dk) (h : D.q = []) (k : Nat) (hk : k < D.st.length) : D.firsts k ++ D.cur k = D.firsts (k + 1) := by
  rw [Dk.cur_quiet D h]
  unfold Dk.firsts Dk.str
  rw [List.take_succ_eq_append_getElem hk, List.flatten_append, List.flatten_singleton]
  apply ByteArray.ext
  simp [List.getD_eq_getElem?_getD, List.getElem?_eq_getElem hk]

set_option maxRecDepth 100000 in
set_option maxHeartbeats 1000000 in
theorem raw_yes (w : World) (r : Int) (h0 : 0 ≤ r) (h1 : r ≤ 255) (A1 : Option Addr) (n1 c1 : Nat) (l1 : List Ac) (hl1 : ActsAt w A1 n1 l1) (q : Ac) (qwf : q.Wf) (hk_l1 : okA l1 = true) (hk2 : okA [q] = true) :
    Calls Try.prog 10 #[.int .u8 r, .slice A1 n1 c1, .agg q.cells] w fun e w' => e = .returned (.bool true) ∧ Below w.heap.size w w' := by
  have hn1 : n1 ≤ 60 := by have := okA_len hk_l1; rw [hl1.len] at this; exact this
  have HK1 := Lib.hid hk_l1
  have HK2 := Lib.hid hk2
  have HWF := Lib.hid qwf
  obtain ⟨N, hN⟩ : ∃ N, N = sizeN r := ⟨_, rfl⟩
  have hN1 : 1 ≤ N := by rw [hN]; exact sizeN_lo r h0
  have hN2 : N ≤ 12 := by rw [hN]; exact sizeN_hi r h0
  have HSZ := Lib.hid (fun W => size_any W r h0 h1)
  rw [← hN] at HSZ
  clear hN
  have HQ1 := Lib.hid (show ∀ k, ((Dk.new N).run (l1.take k)).q.length < 1000000 from fun k => by
    have h := Dk.run_q (l1.take k) (Dk.new N)
    have h2 := List.length_take_le' k l1
    have h3 := okA_len hk_l1
    simp only [Dk.new, List.length_nil] at h
    exact Nat.lt_of_le_of_lt h (by omega))
  clear hk_l1 h0 h1 hk2 qwf
  obtain ⟨kind, sector, bytes, t, odd, after⟩ := q
  unfold Ac.cells
  simp only
  go_enter Try.func10, Try.ntmps10
  go_wp2_with fail
  have hX : Blk (w.alloc (.cells #[.int .i64 kind, .int .i64 sector, .int .i64 bytes, .string t, .bool odd, .int .i64 after] 34)) w.heap.size 34 #[.int .i64 kind, .int .i64 sector, .int .i64 bytes, .string t, .bool odd, .int .i64 after] := Blk.new w _ _
  have hB0 : Below w.heap.size w (w.alloc (.cells #[.int .i64 kind, .int .i64 sector, .int .i64 bytes, .string t, .bool odd, .int .i64 after] 34)) := (Below.refl _ _).alloc (Nat.le_refl _) _
  have hxl := hX.lt
  generalize w.alloc (.cells #[.int .i64 kind, .int .i64 sector, .int .i64 bytes, .string t, .bool odd, .int .i64 after] 34) = w0 at hX hB0 hxl ⊢
  have HX := Lib.hid hX
  have HB0 := Lib.hid hB0
  have HL1 := Lib.hid (hl1.below hB0)
  obtain ⟨xb, hxb⟩ : ∃ xb, xb = w.heap.size := ⟨_, rfl⟩
  rw [← hxb] at HX hxl
  simp only [← hxb]
  have HXB := Lib.hid hxb
  clear hX hB0 hl1 hxb
  refine (head_any w0).mono ?_
  rintro e w1 ⟨rfl, hb⟩
  have HB := Lib.hid hb
  have hz1 := hb.size
  have x0 := (hb.cell (p := ⟨xb, 0, none⟩) hxl).trans (HX.out.cell 0)
  have x1 := (hb.cell (p := ⟨xb, 1, none⟩) hxl).trans (HX.out.cell 1)
  have x2 := (hb.cell (p := ⟨xb, 2, none⟩) hxl).trans (HX.out.cell 2)
  have x3 := (hb.cell (p := ⟨xb, 3, none⟩) hxl).trans (HX.out.cell 3)
  have x4 := (hb.cell (p := ⟨xb, 4, none⟩) hxl).trans (HX.out.cell 4)
  have x5 := (hb.cell (p := ⟨xb, 5, none⟩) hxl).trans (HX.out.cell 5)
  have hxl1 : xb < w1.heap.size := Nat.lt_of_lt_of_le hxl hz1
  clear hb
  go_wp2_with fail
  refine (ok_any w1 A1 n1 c1 l1 (HL1.out.below HB.out)).mono ?_
  rintro e w2 ⟨rfl, rfl⟩
  rw [HK1.out]
  go_wp2_with fail
  refine (ok_any (w1.alloc (.cells #[.int .i64 kind, .int .i64 sector, .int .i64 bytes, .string t, .bool odd, .int .i64 after] 34)) _ _ _ [⟨kind, sector, bytes, t, odd, after⟩] (one_act w1 ⟨kind, sector, bytes, t, odd, after⟩ HWF.out)).mono ?_
  rintro e w2 ⟨rfl, rfl⟩
  rw [HK2.out]
  go_wp2_with fail
  have hB2 : Below w0.heap.size w0 (w1.alloc (.cells #[.int .i64 kind, .int .i64 sector, .int .i64 bytes, .string t, .bool odd, .int .i64 after] 34)) := HB.out.alloc hz1 _
  clear x0 x1 x2 x3 x4 x5 hxl1
  generalize w1.alloc (.cells #[.int .i64 kind, .int .i64 sector, .int .i64 bytes, .string t, .bool odd, .int .i64 after] 34) = w1' at hB2 ⊢
  have hz2 := hB2.size
  have HB2 := Lib.hid hB2
  clear hB2
  refine (HSZ.out _).mono ?_
  rintro e w2 ⟨rfl, rfl⟩
  go_wp2_with fail
  refine (new_bound w1' N hN1 (by omega)).mono ?_
  rintro e w3 ⟨rfl, hd, hb⟩
  have HD := Lib.hid (Lone.new hd HB2.out hz2 hb)
  clear hd hb
  obtain ⟨db, hdb⟩ : ∃ db, db = w1'.heap.size + 1 := ⟨_, rfl⟩
  rw [← hdb] at HD ⊢
  clear hdb
  go_wp2_with fail
  go_loopw [10] (fun i wr => ∃ k : Nat, k ≤ n1 ∧ i = .int .i64 (k : Int) ∧ Lone (fun _ => False) w0.heap.size w0 db ((Dk.new N).run (l1.take k)) wr) (fun i _ => n1 - (intOf i).toNat)
  case atStart => exact ⟨0, Nat.zero_le _, rfl, HD.out⟩
  case round =>
    obtain ⟨k, hk, rfl, hrel⟩ := hrel
    have HR := Lib.hid hrel
    clear hrel
    by_cases hlt : k < n1
    · obtain ⟨b, o, kind, sector, bytes, t, odd, after, rfl, hbl, hget, hwf, a0, a1, a2, a3, a4, a5⟩ := HL1.out.get HR.out.bel hlt
      have HC := Lib.hid (HR.out.step (fun S hS => do_any wr S _ _ ⟨kind, sector, bytes, t, odd, after⟩ hwf hS (HQ1.out k)))
      have HG := Lib.hid hget
      clear hget hwf
      unfold Ac.cells at HC
      simp only at HC
      go_wp2_with fail
      refine HC.out.mono ?_
      intro e w2 hp
      obtain ⟨rfl, hl, hg, hs⟩ := hp
      have HL2 := Lib.hid hl
      clear hl hg hs HC
      go_wp2
      go_roundw
      case rel => exact ⟨k + 1, by omega, by go_num, by rw [Dk.run_take _ _ _ _ HG.out]; exact HL2.out⟩
      case measure => simp [intOf]; omega
    · obtain rfl : k = n1 := by omega
      have e1 : (Dk.new N).run (l1.take k) = (Dk.new N).run l1 := by rw [List.take_of_length_le (by rw [HL1.out.len]; omega)]
      rw [e1] at HR
      clear hlt hk e1 HD
      obtain ⟨D0, hD0⟩ : ∃ D0, D0 = (Dk.new N).run l1 := ⟨_, rfl⟩
      rw [← hD0] at HR
      have HN0 := Lib.hid (show D0.st.length = N by rw [hD0, Dk.run_n]; simp [Dk.new])
      have HQ0 := Lib.hid (show D0.q.length ≤ 60 by
        have h := Dk.run_q l1 (Dk.new N)
        rw [← hD0] at h
        simp only [Dk.new, List.length_nil] at h
        have := HL1.out.len
        omega)
      clear hD0
      go_wp2_with fail
      refine (HR.out.step (fun S hS => start_c _ S _ _ hS)).mono ?_
      intro e w4 hp
      obtain ⟨rfl, hl, hg, hs⟩ := hp
      have HS1 := Lib.hid hl
      clear hl hg hs
      have hpl : D0.start.Plain := ⟨rfl, rfl⟩
      have HPL := Lib.hid hpl
      have HQS := Lib.hid (show D0.start.q.length < 1000000 from Nat.lt_of_le_of_lt HQ0.out (by omega))
      have HNS := Lib.hid (show D0.start.st.length = N from HN0.out)
      clear hpl HR HQ0 HN0
      generalize D0.start = D1 at HS1 HPL HQS HNS
      go_wp2_with fail
      refine (HS1.out.look (fun S hS => raw_any w4 S _ _ hS)).mono ?_
      rintro e w5 ⟨rfl, rfl⟩
      have hrs := Dk.raw_size HS1.out.inv
      obtain ⟨R, hR⟩ : ∃ R, R = D1.raw := ⟨_, rfl⟩
      rw [← hR] at hrs ⊢
      have HRR := Lib.hid hR
      have HRS := Lib.hid hrs
      clear hR hrs
      have HT := Lib.hid (fun W => text_any W ⟨kind, sector, bytes, t, odd, after⟩ HWF.out.2.2.2.1)
      have hss := txt_size ⟨kind, sector, bytes, t, odd, after⟩ HWF.out
      obtain ⟨s, hs⟩ : ∃ s, Ac.txt ⟨kind, sector, bytes, t, odd, after⟩ = s := ⟨_, rfl⟩
      have HS := Lib.hid hs
      rw [hs] at HT hss
      unfold Ac.cells at HT
      simp only at HT
      have HSS := Lib.hid hss
      have y0 := (HS1.out.bel.cell (p := ⟨xb, 0, none⟩) hxl).trans (HX.out.cell 0)
      have y1 := (HS1.out.bel.cell (p := ⟨xb, 1, none⟩) hxl).trans (HX.out.cell 1)
      have y2 := (HS1.out.bel.cell (p := ⟨xb, 2, none⟩) hxl).trans (HX.out.cell 2)
      have y3 := (HS1.out.bel.cell (p := ⟨xb, 3, none⟩) hxl).trans (HX.out.cell 3)
      have y4 := (HS1.out.bel.cell (p := ⟨xb, 4, none⟩) hxl).trans (HX.out.cell 4)
      have y5 := (HS1.out.bel.cell (p := ⟨xb, 5, none⟩) hxl).trans (HX.out.cell 5)
      have HRD := Lib.hid (HS1.out.below ((Below.refl _ _).drew))
      have hz4 : xb < w4.heap.size := Nat.lt_of_lt_of_le hxl HS1.out.bel.size
      clear hs hss
      go_upto_region 12 with (fail)
      go_cut [53] (fun _ wc => Lone (fun _ => False) w0.heap.size w0 db (D1.write sector s).1 wc)
      case first =>
        go_region_with (first
          | (go_at_call 24; refine (HT.out _).mono ?_; rintro e w7 ⟨rfl, hb⟩; have HB7 := Lib.hid hb; have b1 := (hb.cell (p := ⟨xb, 1, none⟩) hz4).trans y1; clear hb)
          | (go_at_call 23; refine ((HRD.out.below HB7.out).step (fun S hS => write_any _ S _ _ sector s hS HSS.out HQS.out)).mono ?_; intro e w8 hp; obtain ⟨rfl, hl, hgk, hsz⟩ := hp; have HL8 := Lib.hid hl; clear hl hgk hsz))
        all_goals
          go_wp2_with fail
          go_meet
          exact HL8.out
      case rest =>
        have HW := Lib.hid hcut
        have z1 := (hcut.bel.cell (p := ⟨xb, 1, none⟩) hxl).trans (HX.out.cell 1)
        have z4 := (hcut.bel.cell (p := ⟨xb, 4, none⟩) hxl).trans (HX.out.cell 4)
        have HPW := Lib.hid (Dk.write_plain_keep HPL.out sector s)
        have HRW := Lib.hid (Dk.raw_write HPL.out sector s)
        have HQW := Lib.hid (show (D1.write sector s).1.q.length ≤ 1000000 from Nat.le_trans (Dk.write_q D1 sector s) HQS.out)
        clear hcut y0 y1 y2 y3 y4 y5 HT HSS HRD HS
        generalize (D1.write sector s).1 = D2 at HW HPW HRW HQW
        go_wp2_with fail
        refine (HW.out.look (fun S hS => read_any wc S _ _ sector hS HQW.out)).mono ?_
        rintro e w6 ⟨rfl, hb⟩
        have HW6 := Lib.hid (HW.out.below hb)
        have z4' := (HW6.out.bel.cell (p := ⟨xb, 4, none⟩) hxl).trans (HX.out.cell 4)
        clear hb z1 z4
        go_wp2_with fail
        refine (HW6.out.look (fun S hS => raw_any w6 S _ _ hS)).mono ?_
        rintro e w7 ⟨rfl, rfl⟩
        rw [HRW.out, ← HRR.out]
        have hsz : R.size = N * 64 := by rw [HRS.out, HNS.out]; omega
        have hszi : (R.size : Int) = (N : Int) * 64 := by rw [hsz]; simp
        have hb1 : ((R.size : Int) != (N : Int) * 64) = false := by rw [hszi]; simp
        have hb2 : ((R.size : Int) == (N : Int) * 64) = true := by rw [hszi]; simp
        have hrl : R.size ≤ 1000 := by omega
        clear hsz hszi
        cases odd with
        | true =>
          go_wp2_with fail
          refine (HW6.out.step (fun S hS => fail_any w6 S _ _ 0 0 hS HQW.out)).mono ?_
          intro e w8 hp
          obtain ⟨rfl, hl, hg, hs⟩ := hp
          have HL8 := Lib.hid hl
          clear hl hg hs
          have HR0 := Lib.hid ((Dk.raw_fail0 HPW.out.1.1).trans HRW.out)
          have HR1 := Lib.hid (show (D2.fail 0 0).start.raw = D1.raw from HR0.out)
          go_wp2_with fail
          refine (HL8.out.look (fun S hS => raw_any w8 S _ _ hS)).mono ?_
          rintro e w9 ⟨rfl, rfl⟩
          rw [HR0.out, ← HRR.out]
          go_wp2_with fail
          refine (HL8.out.step (fun S hS => start_c w8 S _ _ hS)).mono ?_
          intro e w10 hp
          obtain ⟨rfl, hl, hg, hs⟩ := hp
          have HL10 := Lib.hid hl
          clear hl hg hs
          go_wp2_with fail
          refine (HL10.out.look (fun S hS => raw_any w10 S _ _ hS)).mono ?_
          rintro e w11 ⟨rfl, rfl⟩
          rw [HR1.out, ← HRR.out]
          go_wp2
          go_ret
          exact ⟨rfl, bthen HB0.out HB0.out.size HL10.out.bel⟩
        | false =>
          have hsy : D2.sync = ({ st := Dk.settle D2.st D2.q, q := [], off := false, al := none }, 0) := by
            have h := HPW.out.1
            unfold Dk.sync Dk.count
            rw [h.1, h.2]
            simp [h.1, h.2]
          have HSY := Lib.hid hsy
          clear hsy
          go_wp2_with fail
          refine (HW6.out.step (fun S hS => sync_any w6 S _ _ hS HQW.out)).mono ?_
          intro e w8 hp
          rw [HSY.out] at hp
          simp only at hp
          obtain ⟨rfl, hl, hg, hs⟩ := hp
          obtain ⟨D3, hD3⟩ : ∃ D3 : Dk, D3 = { st := Dk.settle D2.st D2.q, q := [], off := false, al := none } := ⟨_, rfl⟩
          rw [← hD3] at hl
          have HL8 := Lib.hid hl
          have HN3 := Lib.hid (show D3.st.length = N by rw [hD3]; show (Dk.settle _ _).length = N; rw [Dk.settle_length, HPW.out.2, HNS.out])
          have HQ3 := Lib.hid (show D3.q = [] by rw [hD3])
          have HO3 := Lib.hid (show D3.off = false by rw [hD3])
          clear hl hg hs hD3 HSY
          go_wp2_with fail
          refine (HL8.out.look (fun S hS => contents_row w8 S _ _ hS HO3.out (by rw [HQ3.out]; simp) N HN3.out.symm)).mono ?_
          rintro e w9 ⟨g, c9, rfl, hg, hc, hown, hb⟩
          have HL9 := Lib.hid (HL8.out.below hb)
          have HC9 := Lib.hid hc
          have hgl := hg.2
          clear hg hc hown hb
          go_wp2_with fail
          go_loop [15, 16] (fun v i => ∃ k : Nat, k ≤ N ∧ i = .int .i64 (k : Int) ∧ v = .string (D3.firsts k)) (fun _ i => N - (intOf i).toNat)
          case atStart => exact ⟨0, Nat.zero_le _, rfl, rfl⟩
          case round =>
            obtain ⟨k, hk, rfl, rfl⟩ := hrel
            by_cases hlt : k < N
            · have ck := HC9.out k hlt
              have hsz : (D3.cur k).size = 64 := cur_size HL9.out.inv (by rw [HN3.out]; exact hlt)
              have hfz : (D3.firsts k).size ≤ 1000 := by
                show ((D3.st.take k).flatten.toArray).size ≤ _
                rw [List.size_toArray, Dk.flat_length (fun s hs => HL9.out.inv.sec s (List.mem_of_mem_take hs)), List.length_take]
                omega
              have HF := Lib.hid (Dk.firsts_succ D3 HQ3.out k (by rw [HN3.out]; exact hlt))
              go_wp2
              go_round
              case rel => exact ⟨k + 1, by omega, by go_num, by rw [← HF.out]⟩
              case measure => simp [intOf]; omega
            · obtain rfl : k = N := by omega
              have hfe : D3.firsts k = D3.raw := by
                unfold Dk.firsts Dk.raw
                rw [List.take_of_length_le (by rw [HN3.out]; omega)]
              rw [hfe]
              clear hlt hk hfe
              go_wp2_with fail
              refine (HL9.out.look (fun S hS => raw_any w9 S _ _ hS)).mono ?_
              rintro e w10 ⟨rfl, rfl⟩
              go_wp2
              go_ret
              exact ⟨rfl, bthen HB0.out HB0.out.size HL9.out.bel⟩

theorem raw_walk (w : World) (r : Int) (h0 : 0 ≤ r) (h1 : r ≤ 255) (A1 : Option Addr) (n1 c1 : Nat) (l1 : List Ac) (hl1 : ActsAt w A1 n1 l1) (q : Ac) (qwf : q.Wf) :
    Calls Try.prog 10 #[.int .u8 r, .slice A1 n1 c1, .agg q.cells] w fun e w' => e = .returned (.bool true) ∧ Below w.heap.size w w' := by
  cases hk1 : okA l1 with
  | false => exact raw_no w r h0 h1 A1 n1 c1 l1 hl1 q qwf (.inl hk1)
  | true =>
    cases hk2 : okA [q] with
    | false => exact raw_no w r h0 h1 A1 n1 c1 l1 hl1 q qwf (.inr ⟨hk1, hk2⟩)
    | true => exact raw_yes w r h0 h1 A1 n1 c1 l1 hl1 q qwf hk1 hk2
end Go.Proofs.Ythcjlohdfcdloaa
