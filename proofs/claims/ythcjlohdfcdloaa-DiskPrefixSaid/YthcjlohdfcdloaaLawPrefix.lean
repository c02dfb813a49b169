/- The walk of DiskPrefix. -/
import Derived.Test.YthcjlohdfcdloaaLawPre
set_option linter.unusedVariables false
set_option linter.unusedSimpArgs false
namespace Go.Proofs.Ythcjlohdfcdloaa
open Go.RowKit

theorem Ac.wf0 : Ac.Wf ⟨0, -1, 0, ⟨#[]⟩, false, 0⟩ := by unfold Ac.Wf Dk.i64; refine ⟨?_, ?_, ?_, ?_, ?_⟩ <;> decide
/-- Behind k writes, of which d succeeded: the disk, and the act whose write is the next one behind the first W. -/
def PxRel (B : Nat) (w0 : World) (db nb : Nat) (D1 : Dk) (N : Nat) (l : List Ac) (W k d : Nat) (a : Ac) (w : World) : Prop :=
  Lone (fun k => k = nb) B w0 db (D1.wrs (l.take k)) w ∧ (D1.wrs (l.take k)).q.length = d ∧ Blk w nb 34 a.cells ∧ a.Wf ∧
    ((d ≤ W ∧ a = ⟨0, -1, 0, ⟨#[]⟩, false, 0⟩) ∨ (W < d ∧ (D1.wrs (l.take k)).q[W]? = some (a.sector.toNat, a.txt) ∧ 0 ≤ a.sector ∧ a.sector < (N : Int) ∧ a.txt.size = 64))
section
variable {B : Nat} {w0 w wr : World} {db nb N W k d : Nat} {D1 : Dk} {l : List Ac} {a x : Ac} {s : ByteArray}
theorem PxRel.took (h : Lone (fun k => k = nb) B w0 db ((D1.wrs (l.take k)).write x.sector s).1 w) (hs : x.txt = s) (hB : B ≤ nb)
    (hwe : (D1.wrs (l.take k)).write x.sector s = ({ D1.wrs (l.take k) with q := (D1.wrs (l.take k)).q ++ [(x.sector.toNat, s)] }, 0))
    (hv : (D1.wrs (l.take k)).valid x.sector = true ∧ s.size = 64) (hst : (D1.wrs (l.take k)).st = D1.st) (hN : D1.st.length = N)
    (hget : l[k]? = some x) (hwf : x.Wf) (hr : PxRel B w0 db nb D1 N l W k d a wr) (hd : d = W) (hg : Blk w nb 34 a.cells) :
    PxRel B w0 db nb D1 N l W (k + 1) (d + 1) x ((((((w.setCell ⟨nb, 0, none⟩ (.int .i64 x.kind)).setCell ⟨nb, 1, none⟩ (.int .i64 x.sector)).setCell ⟨nb, 2, none⟩ (.int .i64 x.bytes)).setCell ⟨nb, 3, none⟩ (.string x.text)).setCell ⟨nb, 4, none⟩ (.bool x.odd)).setCell ⟨nb, 5, none⟩ (.int .i64 x.after)) := by
  subst hs; subst hd
  have ht : Touch (fun k => k = nb) w ((((((w.setCell ⟨nb, 0, none⟩ (.int .i64 x.kind)).setCell ⟨nb, 1, none⟩ (.int .i64 x.sector)).setCell ⟨nb, 2, none⟩ (.int .i64 x.bytes)).setCell ⟨nb, 3, none⟩ (.string x.text)).setCell ⟨nb, 4, none⟩ (.bool x.odd)).setCell ⟨nb, 5, none⟩ (.int .i64 x.after)) :=
    ((((((Touch.refl (fun k => k = nb) w).setCell (p := ⟨nb, 0, none⟩) (.inr rfl) _).setCell (p := ⟨nb, 1, none⟩) (.inr rfl) _).setCell (p := ⟨nb, 2, none⟩) (.inr rfl) _).setCell (p := ⟨nb, 3, none⟩) (.inr rfl) _).setCell (p := ⟨nb, 4, none⟩) (.inr rfl) _).setCell (p := ⟨nb, 5, none⟩) (.inr rfl) _
  have hb := (((((hg.set_ 0 (.int .i64 x.kind)).set_ 1 (.int .i64 x.sector)).set_ 2 (.int .i64 x.bytes)).set_ 3 (.string x.text)).set_ 4 (.bool x.odd)).set_ 5 (.int .i64 x.after)
  have hv1 := (Dk.valid_iff _ _).1 hv.1
  rw [hst, hN] at hv1
  unfold PxRel
  rw [Dk.wrs_take _ _ _ _ hget]
  refine ⟨h.touch ht fun k e => by rw [e]; exact hB, ?_, ?_, hwf, .inr ⟨by omega, ?_, hv1.1, hv1.2, hv.2⟩⟩
  · rw [hwe]; simp [hr.2.1]
  · have e : ((((((a.cells.setIfInBounds 0 (.int .i64 x.kind)).setIfInBounds 1 (.int .i64 x.sector)).setIfInBounds 2 (.int .i64 x.bytes)).setIfInBounds 3 (.string x.text)).setIfInBounds 4 (.bool x.odd)).setIfInBounds 5 (.int .i64 x.after)) = x.cells := by
      unfold Ac.cells
      simp
    rw [← e]; exact hb
  · rw [hwe]
    simp [← hr.2.1]
theorem PxRel.kept (h : Lone (fun k => k = nb) B w0 db ((D1.wrs (l.take k)).write x.sector s).1 w) (hs : x.txt = s)
    (hwe : (D1.wrs (l.take k)).write x.sector s = ({ D1.wrs (l.take k) with q := (D1.wrs (l.take k)).q ++ [(x.sector.toNat, s)] }, 0))
    (hget : l[k]? = some x) (hr : PxRel B w0 db nb D1 N l W k d a wr) (hd : ¬ d = W) (hg : w.heap[nb]? = wr.heap[nb]?) :
    PxRel B w0 db nb D1 N l W (k + 1) (d + 1) a w := by
  subst hs
  obtain ⟨_, h2, h3, h4, h5⟩ := hr
  unfold PxRel
  rw [Dk.wrs_take _ _ _ _ hget]
  refine ⟨h, by rw [hwe]; simp [h2], hg.trans h3, h4, ?_⟩
  rcases h5 with ⟨h5, e⟩ | ⟨h5, h6, h7⟩
  · exact .inl ⟨by omega, e⟩
  · refine .inr ⟨by omega, ?_, h7⟩
    rw [hwe]
    show ((D1.wrs (l.take k)).q ++ _)[W]? = _
    rw [List.getElem?_append_left (by omega)]; exact h6
theorem PxRel.missed (h : Lone (fun k => k = nb) B w0 db ((D1.wrs (l.take k)).write x.sector s).1 w) (hs : x.txt = s)
    (hwe : (D1.wrs (l.take k)).write x.sector s = (D1.wrs (l.take k), 1))
    (hget : l[k]? = some x) (hr : PxRel B w0 db nb D1 N l W k d a wr) (hg : w.heap[nb]? = wr.heap[nb]?) :
    PxRel B w0 db nb D1 N l W (k + 1) d a w := by
  subst hs
  obtain ⟨_, h2, h3, h4, h5⟩ := hr
  unfold PxRel
  rw [Dk.wrs_take _ _ _ _ hget]
  rw [hwe] at h ⊢
  exact ⟨h, h2, hg.trans h3, h4, h5⟩
end
theorem Dk.pre_q {D1 : Dk} (h : D1.Plain) {l : List Ac} {j W : Nat} (hj : (D1.wrs (l.take j)).q.length = W ∨ (j = l.length ∧ (D1.wrs (l.take j)).q.length ≤ W)) : (D1.wrs (l.take j)).q = (D1.wrs l).q.take W := by
  rcases hj with hj | ⟨rfl, hj⟩
  · have := wrs_q_take l h j
    rw [hj] at this
    exact this
  · rw [List.take_of_length_le (Nat.le_refl _)] at hj ⊢
    rw [List.take_of_length_le hj]

set_option maxRecDepth 100000 in
set_option maxHeartbeats 400000 in
theorem prefix_no (w : World) (r : Int) (h0 : 0 ≤ r) (h1 : r ≤ 255) (A1 : Option Addr) (n1 c1 : Nat) (l1 : List Ac) (hl1 : ActsAt w A1 n1 l1) (A2 : Option Addr) (n2 c2 : Nat) (l2 : List Ac) (hl2 : ActsAt w A2 n2 l2) (p : Int) (p0 : 0 ≤ p) (p1 : p ≤ 255) (t : Int) (t0 : 0 ≤ t) (t1 : t ≤ 255) (hno : okA l1 = false ∨ (okA l1 = true ∧ okA l2 = false)) :
    Calls Try.prog 5 #[.int .u8 r, .slice A1 n1 c1, .slice A2 n2 c2, .int .u8 p, .int .u8 t] w fun e w' => e = .returned (.bool true) ∧ Below w.heap.size w w' := by
  have HL1 := Lib.hid hl1
  have HL2 := Lib.hid hl2
  clear hl1 hl2
  rcases hno with h | ⟨h, h'⟩
  · go_enter Try.func5, Try.ntmps5
    go_wp2_with fail
    refine (head_any w).mono ?_
    rintro e w1 ⟨rfl, hb⟩
    have HB := Lib.hid hb
    have hz1 := hb.size
    clear hb
    go_wp2_with fail
    refine (ok_any w1 A1 n1 c1 l1 (HL1.out.below HB.out)).mono ?_
    rintro e w2 ⟨rfl, rfl⟩
    rw [h]
    clear h
    go_wp2
    go_ret
    exact ⟨rfl, HB.out⟩
  · go_enter Try.func5, Try.ntmps5
    go_wp2_with fail
    refine (head_any w).mono ?_
    rintro e w1 ⟨rfl, hb⟩
    have HB := Lib.hid hb
    have hz1 := hb.size
    clear hb
    go_wp2_with fail
    refine (ok_any w1 A1 n1 c1 l1 (HL1.out.below HB.out)).mono ?_
    rintro e w2 ⟨rfl, rfl⟩
    rw [h]
    clear h
    go_wp2_with fail
    refine (ok_any w1 A2 n2 c2 l2 (HL2.out.below HB.out)).mono ?_
    rintro e w2 ⟨rfl, rfl⟩
    rw [h']
    clear h'
    go_wp2
    go_ret
    exact ⟨rfl, HB.out⟩

set_option maxRecDepth 100000 in
set_option maxHeartbeats 4000000 in
theorem prefix_yes (w : World) (r : Int) (h0 : 0 ≤ r) (h1 : r ≤ 255) (A1 : Option Addr) (n1 c1 : Nat) (l1 : List Ac) (hl1 : ActsAt w A1 n1 l1) (A2 : Option Addr) (n2 c2 : Nat) (l2 : List Ac) (hl2 : ActsAt w A2 n2 l2) (p : Int) (p0 : 0 ≤ p) (p1 : p ≤ 255) (t : Int) (t0 : 0 ≤ t) (t1 : t ≤ 255) (hk_l1 : okA l1 = true) (hk_l2 : okA l2 = true) :
    Calls Try.prog 5 #[.int .u8 r, .slice A1 n1 c1, .slice A2 n2 c2, .int .u8 p, .int .u8 t] w fun e w' => e = .returned (.bool true) ∧ Below w.heap.size w w' := by
  have hn1 : n1 ≤ 60 := by have := okA_len hk_l1; rw [hl1.len] at this; exact this
  have hn2 : n2 ≤ 60 := by have := okA_len hk_l2; rw [hl2.len] at this; exact this
  have HL1 := Lib.hid hl1
  have HL2 := Lib.hid hl2
  have HK1 := Lib.hid hk_l1
  have HK2 := Lib.hid hk_l2
  obtain ⟨N, hN⟩ : ∃ N, N = sizeN r := ⟨_, rfl⟩
  have hN1 : 1 ≤ N := by rw [hN]; exact sizeN_lo r h0
  have hN2 : N ≤ 12 := by rw [hN]; exact sizeN_hi r h0
  have HSZ := Lib.hid (fun W => size_any W r h0 h1)
  rw [← hN] at HSZ
  clear hN
  have HQ1 := Lib.hid (show ∀ k, ((Dk.new N).run (l1.take k)).q.length < 1000000 from fun k => by
    have h := Dk.run_q (l1.take k) (Dk.new N)
    have h2 := List.length_take_le' k l1
    have h3 := okA_len hk_l1
    simp only [Dk.new, List.length_nil] at h
    exact Nat.lt_of_le_of_lt h (by omega))
  clear hl1 hl2 hk_l1 hk_l2 h0 h1
  go_enter Try.func5, Try.ntmps5
  go_wp2_with fail
  refine (head_any w).mono ?_
  rintro e w1 ⟨rfl, hb⟩
  have HB := Lib.hid hb
  have hz1 := hb.size
  clear hb
  go_wp2_with fail
  refine (ok_any w1 A1 n1 c1 l1 (HL1.out.below HB.out)).mono ?_
  rintro e w2 ⟨rfl, rfl⟩
  rw [HK1.out]
  go_wp2_with fail
  refine (ok_any w1 A2 n2 c2 l2 (HL2.out.below HB.out)).mono ?_
  rintro e w2 ⟨rfl, rfl⟩
  rw [HK2.out]
  go_wp2_with fail
  refine (HSZ.out w1).mono ?_
  rintro e w2 ⟨rfl, rfl⟩
  go_wp2_with fail
  obtain ⟨W, hWp⟩ : ∃ W : Nat, (W : Int) = p % 61 := ⟨(p % 61).toNat, by omega⟩
  obtain ⟨tb, htb⟩ : ∃ tb : Nat, (tb : Int) = t % 33 := ⟨(t % 33).toNat, by omega⟩
  have hW : W ≤ 60 := by omega
  have htb32 : tb ≤ 32 := by omega
  rw [← hWp, ← htb]
  clear hWp htb p0 p1 t0 t1
  refine (new_bound w1 N hN1 (by omega)).mono ?_
  rintro e w2 ⟨rfl, hd, hb⟩
  have HD := Lib.hid (Lone.new hd HB.out hz1 hb)
  clear hd hb
  obtain ⟨db, hdb⟩ : ∃ db, db = w1.heap.size + 1 := ⟨_, rfl⟩
  rw [← hdb] at HD ⊢
  clear hdb
  go_wp2_with fail
  go_loopw [16] (fun i wr => ∃ k : Nat, k ≤ n1 ∧ i = .int .i64 (k : Int) ∧ Lone (fun _ => False) w.heap.size w db ((Dk.new N).run (l1.take k)) wr) (fun i _ => n1 - (intOf i).toNat)
  case atStart => exact ⟨0, Nat.zero_le _, rfl, HD.out⟩
  case round =>
    obtain ⟨k, hk, rfl, hrel⟩ := hrel
    have HR := Lib.hid hrel
    clear hrel
    by_cases hlt : k < n1
    · obtain ⟨b, o, kind, sector, bytes, t, odd, after, rfl, hbl, hget, hwf, a0, a1, a2, a3, a4, a5⟩ := HL1.out.get HR.out.bel hlt
      have HC := Lib.hid (HR.out.step (fun S hS => do_any wr S _ _ ⟨kind, sector, bytes, t, odd, after⟩ hwf hS (HQ1.out k)))
      have HG := Lib.hid hget
      clear hget hwf
      unfold Ac.cells at HC
      simp only at HC
      go_wp2_with fail
      refine HC.out.mono ?_
      intro e w2 hp
      obtain ⟨rfl, hl, hg, hs⟩ := hp
      have HL2 := Lib.hid hl
      clear hl hg hs HC
      go_wp2
      go_roundw
      case rel => exact ⟨k + 1, by omega, by go_num, by rw [Dk.run_take _ _ _ _ HG.out]; exact HL2.out⟩
      case measure => simp [intOf]; omega
    · obtain rfl : k = n1 := by omega
      have e1 : (Dk.new N).run (l1.take k) = (Dk.new N).run l1 := by rw [List.take_of_length_le (by rw [HL1.out.len]; omega)]
      rw [e1] at HR
      clear hlt hk e1 HD
      obtain ⟨D0, hD0⟩ : ∃ D0, D0 = (Dk.new N).run l1 := ⟨_, rfl⟩
      rw [← hD0] at HR
      have HN0 := Lib.hid (show D0.st.length = N by rw [hD0, Dk.run_n]; simp [Dk.new])
      have HQ0 := Lib.hid (show D0.q.length ≤ 60 by
        have h := Dk.run_q l1 (Dk.new N)
        rw [← hD0] at h
        simp only [Dk.new, List.length_nil] at h
        have := HL1.out.len
        omega)
      have HD0 := Lib.hid hD0
      clear hD0
      go_wp2_with fail
      refine (HR.out.step (fun S hS => start_c _ S _ _ hS)).mono ?_
      intro e w3 hp
      obtain ⟨rfl, hl, hg, hs⟩ := hp
      have HL3 := Lib.hid hl
      clear hl hg hs
      go_wp2_with fail
      refine (HL3.out.step (fun S hS => sync_any w3 S _ _ hS (Nat.le_trans HQ0.out (by omega)))).mono ?_
      intro e w4 hp
      rw [Dk.start_sync] at hp
      simp only at hp
      obtain ⟨rfl, hl, hg, hs⟩ := hp
      have HL4 := Lib.hid hl
      clear hl hg hs
      obtain ⟨D1, hD1⟩ : ∃ D1 : Dk, D1 = { st := Dk.settle D0.st D0.q, q := [], off := false, al := none } := ⟨_, rfl⟩
      rw [← hD1] at HL4
      have HDE := Lib.hid (show D1 = ((Dk.new N).run l1).start.sync.1 from by rw [← HD0.out, Dk.start_sync, hD1])
      have hp1 : D1.Plain := by rw [hD1]; exact ⟨rfl, rfl⟩
      have hq1 : D1.q = [] := by rw [hD1]
      have hN1' : D1.st.length = N := by rw [hD1, ← HN0.out]; exact Dk.settle_length _ _
      have HP1 := Lib.hid hp1
      have HN1 := Lib.hid hN1'
      have HE1 := Lib.hid hq1
      have HI1 := Lib.hid HL4.out.inv
      have HW2 := Lib.hid (show ∀ k, (D1.wrs (l2.take k)).q.length < 1000000 from fun k => by
        have h := Dk.wrs_q (l2.take k) D1
        have h2 := List.length_take_le' k l2
        rw [HL2.out.len] at h2
        rw [hq1] at h
        simp only [List.length_nil] at h
        omega)
      clear hD1 HD0 hp1 hq1 hN1' HL3 HQ0 HN0 HR
      go_wp2_with fail
      have hb6 : Below w4.heap.size w4 (w4.alloc (.cells #[.int .i64 0, .int .i64 (-1), .int .i64 0, .string ⟨#[]⟩, .bool false, .int .i64 0] 34)) := (Below.refl _ _).alloc (Nat.le_refl _) _
      have hLN := HL4.out.guard hb6 (fun k => k = w4.heap.size) (fun k e => by rw [e]; simp)
      have HPX := Lib.hid (show PxRel w.heap.size w db w4.heap.size D1 N l2 W 0 0 ⟨0, -1, 0, ⟨#[]⟩, false, 0⟩ (w4.alloc (.cells #[.int .i64 0, .int .i64 (-1), .int .i64 0, .string ⟨#[]⟩, .bool false, .int .i64 0] 34)) from
        ⟨hLN.loosen (fun k hk => .inr hk), by show D1.q.length = 0; rw [HE1.out]; rfl, Blk.new _ _ _, Ac.wf0, .inl ⟨Nat.zero_le _, rfl⟩⟩)
      have hnbB := HL4.out.size
      clear hb6 hLN
      generalize w4.alloc (.cells #[.int .i64 0, .int .i64 (-1), .int .i64 0, .string ⟨#[]⟩, .bool false, .int .i64 0] 34) = w5 at HPX ⊢
      generalize w4.heap.size = nb at HPX hnbB ⊢
      clear HL4
      go_loopw [17, 19] (fun v i wr => ∃ (k d : Nat) (a : Ac), k ≤ n2 ∧ i = .int .i64 (k : Int) ∧ v = .int .i64 (d : Int) ∧ PxRel w.heap.size w db nb D1 N l2 W k d a wr) (fun _ i _ => n2 - (intOf i).toNat)
      case atStart => exact ⟨0, 0, _, Nat.zero_le _, rfl, rfl, HPX.out⟩
      case round =>
        obtain ⟨k, d, a, hk, rfl, rfl, hrel⟩ := hrel
        have HR := Lib.hid hrel
        clear hrel HPX
        have HDB := Lib.hid (show d ≤ k from by
          have h := Dk.wrs_q (l2.take k) D1
          rw [HE1.out, HR.out.2.1] at h
          have h2 := List.length_take_le k l2
          simp only [List.length_nil] at h
          omega)
        by_cases hlt : k < n2
        · have hd60 : d ≤ 60 := by have := HDB.out; omega
          obtain ⟨b, o, kind, sector, bytes, t, odd, after, rfl, hbl, hget, hwf, a0, a1, a2, a3, a4, a5⟩ := HL2.out.get HR.out.1.bel hlt
          have HA := Lib.hid (show ActCells wr b o k ⟨kind, sector, bytes, t, odd, after⟩ from ⟨a0, a1, a2, a3, a4, a5⟩)
          have HG := Lib.hid hget
          have HWF := Lib.hid hwf
          have HT := Lib.hid (fun W => text_any W ⟨kind, sector, bytes, t, odd, after⟩ hwf.2.2.2.1)
          have hss := txt_size ⟨kind, sector, bytes, t, odd, after⟩ hwf
          obtain ⟨s, hs⟩ : ∃ s, Ac.txt ⟨kind, sector, bytes, t, odd, after⟩ = s := ⟨_, rfl⟩
          have HS := Lib.hid hs
          rw [hs] at HT hss
          unfold Ac.cells at HT
          simp only at HT
          have HSS := Lib.hid hss
          have HRD := Lib.hid (HR.out.1.below ((Below.refl _ _).drew))
          have hbl1 := hbl.1
          have hbl2 := hbl.2
          have hpl := Dk.wrs_plain (l2.take k) HP1.out
          have hw := Dk.write_plain hpl.1 sector s
          clear hget hs hss hwf hbl
          by_cases hv : (D1.wrs (l2.take k)).valid sector = true ∧ s.size = 64
          · rw [if_pos hv] at hw
            have HWE := Lib.hid hw
            have HV := Lib.hid hv
            have HST := Lib.hid hpl.2
            clear hv hw hpl
            go_upto_region 19 with (fail)
            go_cut [79] (fun v wc => v = .bool true ∧ Lone (fun k => k = nb) w.heap.size w db ((D1.wrs (l2.take k)).write sector s).1 wc ∧ wc.heap[nb]? = wr.heap[nb]?)
            case first =>
              go_region_with (first
                | (go_at_call 24; refine (HT.out _).mono ?_; rintro e w7 ⟨rfl, hb⟩; have HB7 := Lib.hid hb; have b1 := (hb.cell (p := ⟨b, o + k * 6 + 1, none⟩) hbl2).trans a1; clear hb)
                | (go_at_call 23; refine ((HRD.out.below HB7.out).step (fun S hS => write_any _ S _ _ sector s hS HSS.out (HW2.out k))).mono ?_; intro e w8 hp; obtain ⟨rfl, hl, hgk, hsz⟩ := hp; have hwz := congrArg Prod.snd HWE.out; simp only at hwz; rw [hwz]; have HL8 := Lib.hid hl; have HG8 := Lib.hid hgk; clear hl hgk hsz hwz))
              all_goals
                go_wp2_with fail
                go_meet
                have q1 := HG8.out nb rfl
                have q3 := HB7.out.block nb (HR.out.1.2.2.2 nb rfl)
                exact ⟨rfl, HL8.out, q1.trans q3⟩
            case rest =>
              obtain ⟨rfl, hcl, hcg⟩ := hcut
              have HCL := Lib.hid hcl
              have HCG := Lib.hid hcg
              by_cases hdw : d = W
              · have bdw : ((d : Int) == (W : Int)) = true := by simp [hdw]
                have HDW := Lib.hid hdw
                obtain ⟨b0, b1, b2, b3, b4, b5⟩ := HA.out.move (acts_moved HR.out.1.bel hcl.bel hbl1)
                simp only at b0 b1 b2 b3 b4 b5
                have hbz : b < wc.heap.size := Nat.lt_of_lt_of_le hbl1 hcl.bel.size
                have hcb : Blk wc nb 34 a.cells := hcg.trans HR.out.2.2.1
                have HCB := Lib.hid hcb
                obtain ⟨ak, as_, ab, at_, ao, aa⟩ := a
                unfold Ac.cells at hcb
                simp only at hcb
                have y0 := hcb.cell 0
                have y1 := hcb.cell 1
                have y2 := hcb.cell 2
                have y3 := hcb.cell 3
                have y4 := hcb.cell 4
                have y5 := hcb.cell 5
                have yf0 := hcb.frozen 0
                have yf1 := hcb.frozen 1
                have yf2 := hcb.frozen 2
                have yf3 := hcb.frozen 3
                have yf4 := hcb.frozen 4
                have yf5 := hcb.frozen 5
                have ylt := hcb.lt
                clear hcb hdw a0 a1 a2 a3 a4 a5 hcl hcg
                go_wp2
                go_roundw
                case rel => exact ⟨k + 1, d + 1, ⟨kind, sector, bytes, t, odd, after⟩, by omega, by go_num, by go_num, PxRel.took (x := ⟨kind, sector, bytes, t, odd, after⟩) HCL.out HS.out hnbB HWE.out HV.out HST.out HN1.out HG.out HWF.out HR.out HDW.out HCB.out⟩
                case measure => simp [intOf]; omega
              · have bdw : ((d : Int) == (W : Int)) = false := by simp [hdw]; omega
                have HDW := Lib.hid hdw
                clear hdw a0 a1 a2 a3 a4 a5 hcl hcg
                go_wp2
                go_roundw
                case rel => exact ⟨k + 1, d + 1, a, by omega, by go_num, by go_num, PxRel.kept (x := ⟨kind, sector, bytes, t, odd, after⟩) HCL.out HS.out HWE.out HG.out HR.out HDW.out HCG.out⟩
                case measure => simp [intOf]; omega
          · rw [if_neg hv] at hw
            have HWE := Lib.hid hw
            clear hv hw hpl
            go_upto_region 19 with (fail)
            go_cut [79] (fun v wc => v = .bool false ∧ Lone (fun k => k = nb) w.heap.size w db ((D1.wrs (l2.take k)).write sector s).1 wc ∧ wc.heap[nb]? = wr.heap[nb]?)
            case first =>
              go_region_with (first
                | (go_at_call 24; refine (HT.out _).mono ?_; rintro e w7 ⟨rfl, hb⟩; have HB7 := Lib.hid hb; have b1 := (hb.cell (p := ⟨b, o + k * 6 + 1, none⟩) hbl2).trans a1; clear hb)
                | (go_at_call 23; refine ((HRD.out.below HB7.out).step (fun S hS => write_any _ S _ _ sector s hS HSS.out (HW2.out k))).mono ?_; intro e w8 hp; obtain ⟨rfl, hl, hgk, hsz⟩ := hp; have hwz := congrArg Prod.snd HWE.out; simp only at hwz; rw [hwz]; have HL8 := Lib.hid hl; have HG8 := Lib.hid hgk; clear hl hgk hsz hwz))
              all_goals
                go_wp2_with fail
                go_meet
                have q1 := HG8.out nb rfl
                have q3 := HB7.out.block nb (HR.out.1.2.2.2 nb rfl)
                exact ⟨rfl, HL8.out, q1.trans q3⟩
            case rest =>
              obtain ⟨rfl, hcl, hcg⟩ := hcut
              have HCL := Lib.hid hcl
              have HCG := Lib.hid hcg
              clear a0 a1 a2 a3 a4 a5 hcl hcg
              go_wp2
              go_roundw
              case rel => exact ⟨k + 1, d, a, by omega, by go_num, by go_num, PxRel.missed (x := ⟨kind, sector, bytes, t, odd, after⟩) HCL.out HS.out HWE.out HG.out HR.out HCG.out⟩
              case measure => simp [intOf]; omega
        · obtain rfl : k = n2 := by omega
          have e1 : l2.take k = l2 := List.take_of_length_le (by rw [HL2.out.len]; omega)
          have hq2 := HW2.out k
          unfold PxRel at HR
          rw [e1] at HR hq2
          have HQ2 := Lib.hid (Nat.le_of_lt hq2)
          have hpl := Dk.wrs_plain l2 HP1.out
          have hfs := Dk.fail_start hpl.1.1 (W : Int) (tb : Int)
          have hfl : ((D1.wrs l2).fail (W : Int) (tb : Int)).start.st.length = N := by rw [hfs]; show (Dk.failSt _ _ _).length = _; rw [Dk.failSt_length, hpl.2, HN1.out]
          have HFL := Lib.hid hfl
          have HFO := Lib.hid (show ((D1.wrs l2).fail (W : Int) (tb : Int)).start.off = false by rw [hfs])
          have HFQ := Lib.hid (show ((D1.wrs l2).fail (W : Int) (tb : Int)).start.q.length ≤ 1000000 by rw [hfs]; simp)
          clear e1 hq2 hpl hfs hfl hlt hk
          go_wp2_with fail
          refine (HR.out.1.step (fun S hS => fail_any wr S _ _ (W : Int) (tb : Int) hS HQ2.out)).mono ?_
          intro e w6 hp
          obtain ⟨rfl, hl6, hg6, hz6⟩ := hp
          have HL6 := Lib.hid hl6
          have p6 := hg6 nb rfl
          clear hl6 hg6
          have HP6 := Lib.hid p6
          clear p6
          go_wp2_with fail
          refine (HL6.out.step (fun S hS => start_c w6 S _ _ hS)).mono ?_
          intro e w7 hp
          obtain ⟨rfl, hl7, hg7, hz7⟩ := hp
          have HL7 := Lib.hid hl7
          have HP7 := Lib.hid ((hg7 nb rfl).trans HP6.out)
          clear hl7 hg7
          go_wp2_with fail
          refine (HL7.out.look (fun S hS => contents_row w7 S _ _ hS HFO.out HFQ.out N HFL.out.symm)).mono ?_
          rintro e w8 ⟨g1, c8, rfl, hg8, hc8, hown8, hb8⟩
          have HB8 := Lib.hid (bthen HL7.out.bel HL7.out.size hb8)
          have HZ8 := Lib.hid (Nat.le_trans HL7.out.size hb8.size)
          have HO8 := Lib.hid hown8
          have HG8 := Lib.hid hg8
          have HP8 := Lib.hid ((hb8.block nb (HL7.out.2.2.2 nb rfl)).trans HP7.out)
          have HNB := Lib.hid (show nb < w7.heap.size from HL7.out.2.2.2 nb rfl)
          have HZZ := Lib.hid hb8.size
          clear hg8 hc8 hown8 hb8
          go_wp2_with fail
          refine (prefix_any w8 N hN1 hN2 _ _ _ l1 (HL1.out.below HB8.out) _ _ _ l2 (HL2.out.below HB8.out) W hW HK1.out HK2.out D1 HDE.out).mono ?_
          rintro e w9 ⟨j, hj, hIj, g2, c9, rfl, hg9, hc9, hown9, hb9⟩
          have HB9 := Lib.hid (bthen HB8.out HZ8.out hb9)
          have hnb8 : nb < w8.heap.size := Nat.lt_of_lt_of_le HNB.out HZZ.out
          have hnb9 : nb < w9.heap.size := Nat.lt_of_lt_of_le hnb8 hb9.size
          have HBK := Lib.hid (show Blk w9 nb 34 a.cells from ((hb9.block nb hnb8).trans HP8.out).trans HR.out.2.2.1)
          have HO1 := Lib.hid ((Touch.of_new (S := fun _ => False) hb9).own HO8.out (fun _ _ => id))
          have HO2 := Lib.hid hown9
          have HC2 := Lib.hid hc9
          have hg12 : g1 < g2 := Nat.lt_of_lt_of_le HG8.out.2 hg9.1
          have hnb2 : nb < g2 := Nat.lt_of_lt_of_le hnb8 hg9.1
          have hg1w : w.heap.size ≤ g1 := Nat.le_trans HL7.out.size HG8.out.1
          have hg29 := hg9.2
          have HEQ := Lib.hid (Dk.pre_q HP1.out hj)
          have HPE := Lib.hid (Dk.wrs_plain (l2.take j) HP1.out)
          have HIE := Lib.hid hIj
          clear hj hIj hg9 hc9 hown9 hb9 hnb8 hnb9
          have hlenF : (curs ((D1.wrs l2).fail (W : Int) (tb : Int)).start).length = N := by simp [curs, HFL.out]
          have hszF : ∀ s ∈ curs ((D1.wrs l2).fail (W : Int) (tb : Int)).start, s.size ≤ 140737488351232 := fun s hs => by
            obtain ⟨i, hi, rfl⟩ := List.mem_map.1 hs
            have := cur_size HL7.out.inv (i := i) (by simpa using hi)
            omega
          have HLF := Lib.hid hlenF
          have HSF := Lib.hid hszF
          have HCASE := HR.out.2.2.2.2
          have HWFA := Lib.hid HR.out.2.2.2.1
          have HLQ := Lib.hid HR.out.2.1
          clear hlenF hszF HR HP8 HP7 HP6 HL6 HL7
          have hcb := HBK.out
          obtain ⟨ak, as_, ab, at_, ao, aa⟩ := a
          rcases HCASE with ⟨hdW, hz⟩ | ⟨hdW, hqW, hs0, hs1, hsz⟩
          · injection hz with z1 z2 z3 z4 z5 z6
            subst z1 z2 z3 z4 z5 z6
            have he : curs ((D1.wrs l2).fail (W : Int) (tb : Int)).start = curs (D1.wrs (l2.take j)) := Dk.prefix_none HP1.out HE1.out HI1.out l2 W tb HPE.out HIE.out HEQ.out (by rw [HLQ.out]; exact hdW)
            have ho2 := HO2.out
            rw [← he] at ho2
            have HSM := Lib.hid (same_yes w9 _ _ _ ⟨by rw [HLF.out]; exact HO1.out, HSF.out⟩ ⟨by rw [HLF.out]; exact ho2, HSF.out⟩)
            clear he ho2
            unfold Ac.cells at hcb
            simp only at hcb
            have y0 := hcb.cell 0
            have y1 := hcb.cell 1
            have y2 := hcb.cell 2
            have y3 := hcb.cell 3
            have y4 := hcb.cell 4
            have y5 := hcb.cell 5
            have yf0 := hcb.frozen 0
            have yf1 := hcb.frozen 1
            have yf2 := hcb.frozen 2
            have yf3 := hcb.frozen 3
            have yf4 := hcb.frozen 4
            have yf5 := hcb.frozen 5
            have ylt := hcb.lt
            clear hcb
            go_wp2_with fail
            refine HSM.out.mono ?_
            rintro e w10 ⟨rfl, hb⟩
            have hb10 := bthen HB9.out HB9.out.size hb
            have HB10 := Lib.hid hb10
            clear hb hb10
            go_wp2
            go_ret
            exact ⟨rfl, HB10.out⟩
          · simp only at hs0 hs1
            have HT := Lib.hid (fun X => text_any X ⟨ak, as_, ab, at_, ao, aa⟩ HWFA.out.2.2.2.1)
            obtain ⟨s, hs⟩ : ∃ s, Ac.txt ⟨ak, as_, ab, at_, ao, aa⟩ = s := ⟨_, rfl⟩
            rw [hs] at HT hqW hsz
            have HQW := Lib.hid hqW
            have HS64 := Lib.hid hsz
            have hs64a : s.size ≤ 64 := by omega
            have hs64b : 64 ≤ s.size := by omega
            have hcur := HC2.out as_.toNat (by omega)
            have hcz := cur_size HIE.out (i := as_.toNat) (by rw [HPE.out.2, HN1.out]; omega)
            have hcf := HO2.out.frozenAt as_.toNat
            have HPS := Lib.hid (Dk.prefix_some HP1.out HE1.out HI1.out l2 W tb htb32 HPE.out HIE.out HEQ.out as_.toNat s hsz (by rw [HN1.out]; omega) hqW)
            generalize (D1.wrs (l2.take j)).cur as_.toNat = cs at hcur hcz HPS
            have hc64a : cs.size ≤ 64 := by omega
            have hc64b : 64 ≤ cs.size := by omega
            have HC64 := Lib.hid hcz
            unfold Ac.cells at HT hcb
            simp only at HT hcb
            have y0 := hcb.cell 0
            have y1 := hcb.cell 1
            have y2 := hcb.cell 2
            have y3 := hcb.cell 3
            have y4 := hcb.cell 4
            have y5 := hcb.cell 5
            have yf0 := hcb.frozen 0
            have yf1 := hcb.frozen 1
            have yf2 := hcb.frozen 2
            have yf3 := hcb.frozen 3
            have yf4 := hcb.frozen 4
            have yf5 := hcb.frozen 5
            have ylt := hcb.lt
            have q1 : (0 : Int) ≤ (tb : Int) := by omega
            have q2 : (tb : Int) ≤ (s.size : Int) := by omega
            have q3 : (tb : Int) ≤ (cs.size : Int) := by omega
            have q4 : as_ < (N : Int) := hs1
            clear hqW hsz hs hcz hcb yf0 yf1 yf2 yf3 yf4 yf5
            go_upto_region 30 with (fail)
            go_cut [] (fun wc => Below w.heap.size w wc ∧ w.heap.size ≤ wc.heap.size ∧ wc.ownsRow 0 9 1 (.slice (some ⟨g1, 0, none⟩) N c8) N (strV (curs ((D1.wrs l2).fail (W : Int) (tb : Int)).start)) ∧ wc.ownsRow 0 9 1 (.slice (some ⟨g2, 0, none⟩) N c9) N ((strV (curs (D1.wrs (l2.take j)))).set as_.toNat (.string (s.extract 0 tb ++ cs.extract tb 64))))
            case first =>
              have y0 : w9.cell? ⟨nb, 0, none⟩ = some (.int .i64 ak) := y0
              have y1 : w9.cell? ⟨nb, 1, none⟩ = some (.int .i64 as_) := y1
              have y2 : w9.cell? ⟨nb, 2, none⟩ = some (.int .i64 ab) := y2
              have y3 : w9.cell? ⟨nb, 3, none⟩ = some (.string at_) := y3
              have y4 : w9.cell? ⟨nb, 4, none⟩ = some (.bool ao) := y4
              have y5 : w9.cell? ⟨nb, 5, none⟩ = some (.int .i64 aa) := y5
              refine wp_region_held_drew (S := (fun w' => w'.cell? ⟨nb, 0, none⟩ = some (.int .i64 ak) ∧ w'.cell? ⟨nb, 1, none⟩ = some (.int .i64 as_) ∧ w'.cell? ⟨nb, 2, none⟩ = some (.int .i64 ab) ∧ w'.cell? ⟨nb, 3, none⟩ = some (.string at_) ∧ w'.cell? ⟨nb, 4, none⟩ = some (.bool ao) ∧ w'.cell? ⟨nb, 5, none⟩ = some (.int .i64 aa))) (by kernel_rfl) ⟨y0, y1, y2, y3, y4, y5⟩ (fun hHeld => ?_)
              refine wpAnyH_take (i := 0) (oi := _) (v := ?_) rfl (by kernel_rfl) (by kernel_rfl) (by kernel_rfl) (fun _ _ _ h => h) (Or.inl ⟨by rfl, ?_⟩) hHeld ?_
              rotate_left
              · intro w hSw
                go_simp
                try with_reducible rfl
              try simp only [Act.put, List.setIfInBounds_toArray, List.set_cons_zero, List.set_cons_succ]
              refine wpAnyH_take (i := 1) (oi := _) (v := ?_) rfl (by kernel_rfl) (by kernel_rfl) (by kernel_rfl) (fun _ _ _ h => h) (Or.inl ⟨by rfl, ?_⟩) hHeld ?_
              rotate_left
              · intro w hSw
                go_simp
                try with_reducible rfl
              try simp only [Act.put, List.setIfInBounds_toArray, List.set_cons_zero, List.set_cons_succ]
              refine wpAnyH_take (i := 2) (oi := _) (v := ?_) rfl (by kernel_rfl) (by kernel_rfl) (by kernel_rfl) (fun _ _ _ h => h) (Or.inl ⟨by rfl, ?_⟩) hHeld ?_
              rotate_left
              · intro w hSw
                go_simp
                try with_reducible rfl
              try simp only [Act.put, List.setIfInBounds_toArray, List.set_cons_zero, List.set_cons_succ]
              refine wpAnyH_take (i := 3) (oi := _) (v := ?_) rfl (by kernel_rfl) (by kernel_rfl) (by kernel_rfl) (fun _ _ _ h => h) (Or.inl ⟨by rfl, ?_⟩) hHeld ?_
              rotate_left
              · intro w hSw
                go_simp
                try with_reducible rfl
              try simp only [Act.put, List.setIfInBounds_toArray, List.set_cons_zero, List.set_cons_succ]
              refine wpAnyH_take (i := 5) (oi := _) (v := ?_) rfl (by kernel_rfl) (by kernel_rfl) (by kernel_rfl) (fun _ _ _ h => h) (Or.inl ⟨by rfl, ?_⟩) hHeld ?_
              rotate_left
              · intro w hSw
                go_simp
                try with_reducible rfl
              try simp only [Act.put, List.setIfInBounds_toArray, List.set_cons_zero, List.set_cons_succ]
              refine wpAnyH_take (i := 7) (oi := _) (v := ?_) rfl (by kernel_rfl) (by kernel_rfl) (by kernel_rfl) (fun _ _ _ h => h) (Or.inl ⟨by rfl, ?_⟩) hHeld ?_
              rotate_left
              · intro w hSw
                go_simp
                try with_reducible rfl
              try simp only [Act.put, List.setIfInBounds_toArray, List.set_cons_zero, List.set_cons_succ]
              refine wpAnyH_take (i := 8) (oi := _) (v := ?_) rfl (by kernel_rfl) (by kernel_rfl) (by kernel_rfl) (fun _ _ _ h => h) (Or.inl ⟨by rfl, ?_⟩) hHeld ?_
              rotate_left
              · intro w hSw
                go_simp
                try with_reducible rfl
              try simp only [Act.put, List.setIfInBounds_toArray, List.set_cons_zero, List.set_cons_succ]
              refine wpAnyH_take (i := 9) (oi := _) (v := ?_) rfl (by kernel_rfl) (by kernel_rfl) (by kernel_rfl) (fun _ _ _ h => h) (Or.inl ⟨by rfl, ?_⟩) hHeld ?_
              rotate_left
              · intro w hSw
                go_simp
                try with_reducible rfl
              try simp only [Act.put, List.setIfInBounds_toArray, List.set_cons_zero, List.set_cons_succ]
              refine wpAnyH_take (i := 10) (oi := _) (v := ?_) rfl (by kernel_rfl) (by kernel_rfl) (by kernel_rfl) (fun _ _ _ h => h) (Or.inl ⟨by rfl, ?_⟩) hHeld ?_
              rotate_left
              · intro w hSw
                go_simp
                try with_reducible rfl
              try simp only [Act.put, List.setIfInBounds_toArray, List.set_cons_zero, List.set_cons_succ]
              refine wpAnyH_take (i := 12) (oi := _) (v := ?_) rfl (by kernel_rfl) (by kernel_rfl) (by kernel_rfl) (fun _ _ _ h => h) (Or.inl ⟨by rfl, ?_⟩) hHeld ?_
              rotate_left
              · intro w hSw
                go_simp
                try with_reducible rfl
              try simp only [Act.put, List.setIfInBounds_toArray, List.set_cons_zero, List.set_cons_succ]
              refine wpAnyH_ready (rs := [4, 11]) (by kernel_rfl) (by simp) ?_
              refine AllReadyH.cons (o := _) rfl (fun K hK => ?_) ?_
              · go_simp
                go_at_call 24
                refine (HT.out _).mono ?_
                rintro e w10 ⟨rfl, hb⟩
                have HB10 := Lib.hid hb
                have b0 := (hb.cell (p := ⟨nb, 0, none⟩) ylt).trans y0
                have b1 := (hb.cell (p := ⟨nb, 1, none⟩) ylt).trans y1
                have b2 := (hb.cell (p := ⟨nb, 2, none⟩) ylt).trans y2
                have b3 := (hb.cell (p := ⟨nb, 3, none⟩) ylt).trans y3
                have b4 := (hb.cell (p := ⟨nb, 4, none⟩) ylt).trans y4
                have b5 := (hb.cell (p := ⟨nb, 5, none⟩) ylt).trans y5
                have e2 := (hb.cell (p := ⟨g2, as_.toNat, none⟩) hg29).trans hcur
                have e3 := (hb.frozen (p := ⟨g2, as_.toNat, none⟩) hg29).trans hcf
                clear hb
                go_wp2_with fail
                refine hK.out _ _ ⟨b0, b1, b2, b3, b4, b5⟩ (fun hHeld => ?_)
                clear hK K
                try simp only [Act.put, List.setIfInBounds_toArray, List.set_cons_zero, List.set_cons_succ]
                refine wpAnyH_take (i := 6) (oi := _) (v := ?_) rfl (by kernel_rfl) (by kernel_rfl) (by kernel_rfl) (fun _ _ _ h => h) (Or.inl ⟨by rfl, ?_⟩) hHeld ?_
                rotate_left
                · intro w hSw
                  go_simp
                  try with_reducible rfl
                try simp only [Act.put, List.setIfInBounds_toArray, List.set_cons_zero, List.set_cons_succ]
                refine wpAnyH_ready (rs := [11]) (by kernel_rfl) (by simp) ?_
                refine AllReadyH.cons (o := _) rfl (fun K hK => ?_) ?_
                · go_simp
                  refine hK.out _ _ ⟨b0, b1, b2, b3, b4, b5⟩ (fun hHeld => ?_)
                  clear hK K
                  try simp only [Act.put, List.setIfInBounds_toArray, List.set_cons_zero, List.set_cons_succ]
                  refine wpAnyH_take (i := 13) (oi := _) (v := ?_) rfl (by kernel_rfl) (by kernel_rfl) (by kernel_rfl) (fun _ _ _ h => h) (Or.inl ⟨by rfl, ?_⟩) hHeld ?_
                  rotate_left
                  · intro w hSw
                    go_simp
                    try with_reducible rfl
                  try simp only [Act.put, List.setIfInBounds_toArray, List.set_cons_zero, List.set_cons_succ]
                  refine wpAnyH_ready (rs := [14]) (by kernel_rfl) (by simp) ?_
                  refine AllReadyH.cons (o := _) rfl (fun K hK => ?_) ?_
                  · go_simp
                    go_wp2_with fail
                    refine hK.out _ _ ⟨b0, b1, b2, b3, b4, b5⟩ (fun hHeld => ?_)
                    clear hK K
                    try simp only [Act.put, List.setIfInBounds_toArray, List.set_cons_zero, List.set_cons_succ]
                    refine wpAnyH_take (i := 15) (oi := _) (v := ?_) rfl (by kernel_rfl) (by kernel_rfl) (by kernel_rfl) (fun _ _ _ h => h) (Or.inl ⟨by rfl, ?_⟩) hHeld ?_
                    rotate_left
                    · intro w hSw
                      go_simp
                      try with_reducible rfl
                    try simp only [Act.put, List.setIfInBounds_toArray, List.set_cons_zero, List.set_cons_succ]
                    refine wpAnyH_ready (rs := [16]) (by kernel_rfl) (by simp) ?_
                    refine AllReadyH.cons (o := _) rfl (fun K hK => ?_) ?_
                    · go_simp
                      refine hK.out _ _ (by refine ⟨?_, ?_, ?_, ?_, ?_, ?_⟩ <;> (refine (World.cell?_of_block (a := ⟨nb, _, none⟩) (Below.heap_setCell _ _ _ nb (by show nb ≠ g2; omega))).trans ?_; assumption)) (fun hHeld => ?_)
                      clear hK K
                      try simp only [Act.put, List.setIfInBounds_toArray, List.set_cons_zero, List.set_cons_succ]
                      refine wpAnyH_done (by kernel_rfl) ?_ _
                      go_wp2_with fail
                      go_meet
                      rw [HC64.out]
                      have hbb := HB10.out
                      have t9 : Touch (fun _ => False) w9 w10 := ((Touch.refl _ w9).drew).trans (Touch.of_new hbb) fun _ _ => id
                      have o1 := t9.own HO1.out (fun _ _ => id)
                      have o2 := t9.own HO2.out (fun _ _ => id)
                      have hbw : Below w.heap.size w w10 := bthen (w1 := w9.drew) HB9.out.drew HB9.out.size hbb
                      have ht := (Touch.refl (fun k => k = g2) w10).setCell (p := ⟨g2, as_.toNat, none⟩) (.inr rfl) (.string (s.extract 0 tb ++ cs.extract tb 64))
                      exact ⟨hbw.trans (ht.below hbw.size fun k e => by rw [e]; omega), Nat.le_trans hbw.size ht.size, ht.own o1 (fun k hk e => by simp only [Value.ownBlock, Option.some.injEq] at hk; omega), (o2.stored as_.toNat _).1⟩
                    exact AllReadyH.nil
                  exact AllReadyH.nil
                exact AllReadyH.nil
              refine AllReadyH.cons (o := _) rfl (fun K hK => ?_) ?_
              · go_simp
                refine hK.out _ _ ⟨y0, y1, y2, y3, y4, y5⟩ (fun hHeld => ?_)
                clear hK K
                try simp only [Act.put, List.setIfInBounds_toArray, List.set_cons_zero, List.set_cons_succ]
                refine wpAnyH_take (i := 13) (oi := _) (v := ?_) rfl (by kernel_rfl) (by kernel_rfl) (by kernel_rfl) (fun _ _ _ h => h) (Or.inl ⟨by rfl, ?_⟩) hHeld ?_
                rotate_left
                · intro w hSw
                  go_simp
                  try with_reducible rfl
                try simp only [Act.put, List.setIfInBounds_toArray, List.set_cons_zero, List.set_cons_succ]
                refine wpAnyH_ready (rs := [4]) (by kernel_rfl) (by simp) ?_
                refine AllReadyH.cons (o := _) rfl (fun K hK => ?_) ?_
                · go_simp
                  go_at_call 24
                  refine (HT.out _).mono ?_
                  rintro e w10 ⟨rfl, hb⟩
                  have HB10 := Lib.hid hb
                  have b0 := (hb.cell (p := ⟨nb, 0, none⟩) ylt).trans y0
                  have b1 := (hb.cell (p := ⟨nb, 1, none⟩) ylt).trans y1
                  have b2 := (hb.cell (p := ⟨nb, 2, none⟩) ylt).trans y2
                  have b3 := (hb.cell (p := ⟨nb, 3, none⟩) ylt).trans y3
                  have b4 := (hb.cell (p := ⟨nb, 4, none⟩) ylt).trans y4
                  have b5 := (hb.cell (p := ⟨nb, 5, none⟩) ylt).trans y5
                  have e2 := (hb.cell (p := ⟨g2, as_.toNat, none⟩) hg29).trans hcur
                  have e3 := (hb.frozen (p := ⟨g2, as_.toNat, none⟩) hg29).trans hcf
                  clear hb
                  go_wp2_with fail
                  refine hK.out _ _ ⟨b0, b1, b2, b3, b4, b5⟩ (fun hHeld => ?_)
                  clear hK K
                  try simp only [Act.put, List.setIfInBounds_toArray, List.set_cons_zero, List.set_cons_succ]
                  refine wpAnyH_take (i := 6) (oi := _) (v := ?_) rfl (by kernel_rfl) (by kernel_rfl) (by kernel_rfl) (fun _ _ _ h => h) (Or.inl ⟨by rfl, ?_⟩) hHeld ?_
                  rotate_left
                  · intro w hSw
                    go_simp
                    try with_reducible rfl
                  try simp only [Act.put, List.setIfInBounds_toArray, List.set_cons_zero, List.set_cons_succ]
                  refine wpAnyH_ready (rs := [14]) (by kernel_rfl) (by simp) ?_
                  refine AllReadyH.cons (o := _) rfl (fun K hK => ?_) ?_
                  · go_simp
                    go_wp2_with fail
                    refine hK.out _ _ ⟨b0, b1, b2, b3, b4, b5⟩ (fun hHeld => ?_)
                    clear hK K
                    try simp only [Act.put, List.setIfInBounds_toArray, List.set_cons_zero, List.set_cons_succ]
                    refine wpAnyH_take (i := 15) (oi := _) (v := ?_) rfl (by kernel_rfl) (by kernel_rfl) (by kernel_rfl) (fun _ _ _ h => h) (Or.inl ⟨by rfl, ?_⟩) hHeld ?_
                    rotate_left
                    · intro w hSw
                      go_simp
                      try with_reducible rfl
                    try simp only [Act.put, List.setIfInBounds_toArray, List.set_cons_zero, List.set_cons_succ]
                    refine wpAnyH_ready (rs := [16]) (by kernel_rfl) (by simp) ?_
                    refine AllReadyH.cons (o := _) rfl (fun K hK => ?_) ?_
                    · go_simp
                      refine hK.out _ _ (by refine ⟨?_, ?_, ?_, ?_, ?_, ?_⟩ <;> (refine (World.cell?_of_block (a := ⟨nb, _, none⟩) (Below.heap_setCell _ _ _ nb (by show nb ≠ g2; omega))).trans ?_; assumption)) (fun hHeld => ?_)
                      clear hK K
                      try simp only [Act.put, List.setIfInBounds_toArray, List.set_cons_zero, List.set_cons_succ]
                      refine wpAnyH_done (by kernel_rfl) ?_ _
                      go_wp2_with fail
                      go_meet
                      rw [HC64.out]
                      have hbb := HB10.out
                      have t9 : Touch (fun _ => False) w9 w10 := ((Touch.refl _ w9).drew).trans (Touch.of_new hbb) fun _ _ => id
                      have o1 := t9.own HO1.out (fun _ _ => id)
                      have o2 := t9.own HO2.out (fun _ _ => id)
                      have hbw : Below w.heap.size w w10 := bthen (w1 := w9.drew) HB9.out.drew HB9.out.size hbb
                      have ht := (Touch.refl (fun k => k = g2) w10).setCell (p := ⟨g2, as_.toNat, none⟩) (.inr rfl) (.string (s.extract 0 tb ++ cs.extract tb 64))
                      exact ⟨hbw.trans (ht.below hbw.size fun k e => by rw [e]; omega), Nat.le_trans hbw.size ht.size, ht.own o1 (fun k hk e => by simp only [Value.ownBlock, Option.some.injEq] at hk; omega), (o2.stored as_.toNat _).1⟩
                    exact AllReadyH.nil
                  exact AllReadyH.nil
                exact AllReadyH.nil
              exact AllReadyH.nil
            case rest =>
              obtain ⟨hb9, hz9, ho1, ho2⟩ := hcut
              have he : (strV (curs (D1.wrs (l2.take j)))).set as_.toNat (.string (s.extract 0 tb ++ cs.extract tb 64)) = strV (curs ((D1.wrs l2).fail (W : Int) (tb : Int)).start) := by
                rw [HPS.out]
                simp [strV, List.map_set]
              rw [he] at ho2
              have HSM := Lib.hid (same_yes wc _ _ _ ⟨by rw [HLF.out]; exact ho1, HSF.out⟩ ⟨by rw [HLF.out]; exact ho2, HSF.out⟩)
              have HBC := Lib.hid hb9
              have HZC := Lib.hid hz9
              clear he ho1 ho2 hb9 hz9 y0 y1 y2 y3 y4 y5 hcur hcf
              go_wp2_with fail
              refine HSM.out.mono ?_
              rintro e w10 ⟨rfl, hb⟩
              have hb10 := bthen HBC.out HZC.out hb
              have HB10 := Lib.hid hb10
              clear hb hb10
              go_wp2
              go_ret
              exact ⟨rfl, HB10.out⟩

theorem prefix_walk (w : World) (r : Int) (h0 : 0 ≤ r) (h1 : r ≤ 255) (A1 : Option Addr) (n1 c1 : Nat) (l1 : List Ac) (hl1 : ActsAt w A1 n1 l1) (A2 : Option Addr) (n2 c2 : Nat) (l2 : List Ac) (hl2 : ActsAt w A2 n2 l2) (p : Int) (p0 : 0 ≤ p) (p1 : p ≤ 255) (t : Int) (t0 : 0 ≤ t) (t1 : t ≤ 255) :
    Calls Try.prog 5 #[.int .u8 r, .slice A1 n1 c1, .slice A2 n2 c2, .int .u8 p, .int .u8 t] w fun e w' => e = .returned (.bool true) ∧ Below w.heap.size w w' := by
  cases hk : okA l1 with
  | false => exact prefix_no w r h0 h1 A1 n1 c1 l1 hl1 A2 n2 c2 l2 hl2 p p0 p1 t t0 t1 (.inl hk)
  | true =>
    cases hk2 : okA l2 with
    | false => exact prefix_no w r h0 h1 A1 n1 c1 l1 hl1 A2 n2 c2 l2 hl2 p p0 p1 t t0 t1 (.inr ⟨hk, hk2⟩)
    | true => exact prefix_yes w r h0 h1 A1 n1 c1 l1 hl1 A2 n2 c2 l2 hl2 p p0 p1 t t0 t1 hk hk2

end Go.Proofs.Ythcjlohdfcdloaa
