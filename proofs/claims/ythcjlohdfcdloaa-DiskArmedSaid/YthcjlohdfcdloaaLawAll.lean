/- The walk of DiskAll. -/
import Derived.Test.YthcjlohdfcdloaaLawMore
set_option linter.unusedVariables false
set_option linter.unusedSimpArgs false
namespace Go.Proofs.Ythcjlohdfcdloaa
open Go.RowKit

theorem Dk.all_pure (D : Dk) (h : D.q.length ≤ 60) (x y : Int) : ((D.start.fail 60 x).fail y x).start.start = { st := Dk.settle D.st D.q, q := [], off := false, al := none } ∧ ((D.start.fail 60 x).fail y x).start = { st := Dk.settle D.st D.q, q := [], off := false, al := none } ∧ (D.start.sync.1.fail 0 x).start = { st := Dk.settle D.st D.q, q := [], off := false, al := none } := by
  have e1 : D.start.fail 60 x = { st := Dk.settle D.st D.q, q := [], off := true, al := none } := by
    unfold Dk.fail
    rw [if_neg (by simp [Dk.start])]
    unfold Dk.failSt
    have hc : Dk.clamp 60 D.start.q.length = D.q.length := by unfold Dk.clamp Dk.start; simp only; omega
    rw [hc]
    rw [List.getElem?_eq_none (by simp [Dk.start])]
    simp [Dk.start]
  have e2 : (D.start.fail 60 x).fail y x = { st := Dk.settle D.st D.q, q := [], off := true, al := none } := by
    rw [e1]; rfl
  have e3 : (D.start.sync.1.fail 0 x).start = { st := Dk.settle D.st D.q, q := [], off := false, al := none } := by
    rw [Dk.start_sync, Dk.fail_start rfl]
    rfl
  rw [e2]
  exact ⟨rfl, rfl, e3⟩

set_option maxHeartbeats 400000 in
theorem all_no (w : World) (r : Int) (h0 : 0 ≤ r) (h1 : r ≤ 255) (A1 : Option Addr) (n1 c1 : Nat) (l1 : List Ac) (hl1 : ActsAt w A1 n1 l1) (x : Int) (x0 : -9223372036854775808 ≤ x) (x1 : x ≤ 9223372036854775807) (y : Int) (y0 : -9223372036854775808 ≤ y) (y1 : y ≤ 9223372036854775807) (hk : okA l1 = false) :
    Calls Try.prog 7 #[.int .u8 r, .slice A1 n1 c1, .int .i64 x, .int .i64 y] w fun e w' => e = .returned (.bool true) ∧ Below w.heap.size w w' := by
  have HL1 := Lib.hid hl1
  clear hl1
  go_enter Try.func7, Try.ntmps7
  go_wp2_with fail
  refine (head_any w).mono ?_
  rintro e w1 ⟨rfl, hb⟩
  have HB := Lib.hid hb
  have hz1 := hb.size
  clear hb
  go_wp2_with fail
  refine (ok_any w1 A1 n1 c1 l1 (HL1.out.below HB.out)).mono ?_
  rintro e w2 ⟨rfl, rfl⟩
  rw [hk]
  clear hk
  go_wp2
  go_ret
  exact ⟨rfl, HB.out⟩

set_option maxRecDepth 100000 in
set_option maxHeartbeats 1000000 in
theorem all_yes (w : World) (r : Int) (h0 : 0 ≤ r) (h1 : r ≤ 255) (A1 : Option Addr) (n1 c1 : Nat) (l1 : List Ac) (hl1 : ActsAt w A1 n1 l1) (x : Int) (x0 : -9223372036854775808 ≤ x) (x1 : x ≤ 9223372036854775807) (y : Int) (y0 : -9223372036854775808 ≤ y) (y1 : y ≤ 9223372036854775807) (hk_l1 : okA l1 = true) :
    Calls Try.prog 7 #[.int .u8 r, .slice A1 n1 c1, .int .i64 x, .int .i64 y] w fun e w' => e = .returned (.bool true) ∧ Below w.heap.size w w' := by
  have hn1 : n1 ≤ 60 := by have := okA_len hk_l1; rw [hl1.len] at this; exact this
  have HL1 := Lib.hid hl1
  have HK1 := Lib.hid hk_l1
  obtain ⟨N, hN⟩ : ∃ N, N = sizeN r := ⟨_, rfl⟩
  have hN1 : 1 ≤ N := by rw [hN]; exact sizeN_lo r h0
  have hN2 : N ≤ 12 := by rw [hN]; exact sizeN_hi r h0
  have HSZ := Lib.hid (fun W => size_any W r h0 h1)
  rw [← hN] at HSZ
  clear hN
  have HQ1 := Lib.hid (show ∀ k, ((Dk.new N).run (l1.take k)).q.length < 1000000 from fun k => by
    have h := Dk.run_q (l1.take k) (Dk.new N)
    have h2 := List.length_take_le' k l1
    have h3 := okA_len hk_l1
    simp only [Dk.new, List.length_nil] at h
    exact Nat.lt_of_le_of_lt h (by omega))
  clear hl1 hk_l1 h0 h1
  go_enter Try.func7, Try.ntmps7
  go_wp2_with fail
  refine (head_any w).mono ?_
  rintro e w1 ⟨rfl, hb⟩
  have HB := Lib.hid hb
  have hz1 := hb.size
  clear hb
  go_wp2_with fail
  refine (ok_any w1 A1 n1 c1 l1 (HL1.out.below HB.out)).mono ?_
  rintro e w2 ⟨rfl, rfl⟩
  rw [HK1.out]
  go_wp2_with fail
  refine (HSZ.out w1).mono ?_
  rintro e w2 ⟨rfl, rfl⟩
  go_wp2_with fail
  refine (new_bound w1 N hN1 (by omega)).mono ?_
  rintro e w2 ⟨rfl, hd, hb⟩
  have HD := Lib.hid (Lone.new hd HB.out hz1 hb)
  clear hd hb
  obtain ⟨da, hdb⟩ : ∃ da, da = w1.heap.size + 1 := ⟨_, rfl⟩
  rw [← hdb] at HD ⊢
  clear hdb
  go_wp2_with fail
  refine (new_bound w2 N hN1 (by omega)).mono ?_
  rintro e w3 ⟨rfl, hd, hb⟩
  have HT := Lib.hid (HD.out.two hd hb)
  clear hd hb
  obtain ⟨db, hdb⟩ : ∃ db, db = w2.heap.size + 1 := ⟨_, rfl⟩
  rw [← hdb] at HT ⊢
  clear hdb
  clear HD
  go_wp2_with fail
  go_loopw [13] (fun i wr => ∃ k : Nat, k ≤ n1 ∧ i = .int .i64 (k : Int) ∧ Two w.heap.size w da ((Dk.new N).run (l1.take k)) db ((Dk.new N).run (l1.take k)) wr) (fun i _ => n1 - (intOf i).toNat)
  case atStart => exact ⟨0, Nat.zero_le _, rfl, HT.out⟩
  case round =>
    obtain ⟨k, hk, rfl, hrel⟩ := hrel
    have HR := Lib.hid hrel
    clear hrel
    by_cases hlt : k < n1
    · obtain ⟨b, o, kind, sector, bytes, t, odd, after, rfl, hbl, hget, hwf, a0, a1, a2, a3, a4, a5⟩ := HL1.out.get HR.out.bel hlt
      have HA := Lib.hid (show ActCells wr b o k ⟨kind, sector, bytes, t, odd, after⟩ from ⟨a0, a1, a2, a3, a4, a5⟩)
      have HC := Lib.hid (HR.out.step (fun S hS => do_any wr S _ _ ⟨kind, sector, bytes, t, odd, after⟩ hwf hS (HQ1.out k)))
      have HD2 := Lib.hid (fun W (h : Two w.heap.size w db ((Dk.new N).run (l1.take k)) da (((Dk.new N).run (l1.take k)).act ⟨kind, sector, bytes, t, odd, after⟩).1 W) => h.step (fun S hS => do_any W S _ _ ⟨kind, sector, bytes, t, odd, after⟩ hwf hS (HQ1.out k)))
      have HG := Lib.hid hget
      have hbl1 := hbl.1
      clear hget hwf hbl
      unfold Ac.cells at HC HD2
      simp only at HC HD2
      go_wp2_with fail
      refine HC.out.mono ?_
      intro e w4 hp
      obtain ⟨rfl, hl, hs⟩ := hp
      obtain ⟨b0, b1, b2, b3, b4, b5⟩ := HA.out.move (acts_moved HR.out.bel hl.bel hbl1)
      simp only at b0 b1 b2 b3 b4 b5
      have HL4 := Lib.hid hl
      clear hl hs HC a0 a1 a2 a3 a4 a5
      go_wp2_with fail
      refine (HD2.out _ HL4.out.swap).mono ?_
      intro e w5 hp
      obtain ⟨rfl, hl, hs⟩ := hp
      have HL5 := Lib.hid hl.swap
      clear hl hs HD2
      go_wp2
      go_roundw
      case rel => exact ⟨k + 1, by omega, by go_num, by rw [Dk.run_take _ _ _ _ HG.out]; exact HL5.out⟩
      case measure => simp [intOf]; omega
    · obtain rfl : k = n1 := by omega
      have e1 : (Dk.new N).run (l1.take k) = (Dk.new N).run l1 := by rw [List.take_of_length_le (by rw [HL1.out.len]; omega)]
      rw [e1] at HR
      clear hlt hk e1 HT
      obtain ⟨D0, hD0⟩ : ∃ D0, D0 = (Dk.new N).run l1 := ⟨_, rfl⟩
      rw [← hD0] at HR
      have HN0 := Lib.hid (show D0.st.length = N by rw [hD0, Dk.run_n]; simp [Dk.new])
      have hq : D0.q.length ≤ 60 := by
        have h := Dk.run_q l1 (Dk.new N)
        rw [← hD0] at h
        simp only [Dk.new, List.length_nil] at h
        have := HL1.out.len
        omega
      have HQ0 := Lib.hid hq
      have hp := Dk.all_pure D0 hq x y
      have hz : D0.start.sync.2 = 0 := by rw [Dk.start_sync]
      have HP := Lib.hid hp
      have HZ := Lib.hid hz
      have HQS := Lib.hid (show D0.start.sync.1.q.length ≤ 1000000 by rw [Dk.start_sync]; simp)
      have HQF := Lib.hid (show (D0.start.fail 60 x).q.length ≤ 1000000 by unfold Dk.fail Dk.start; simp)
      clear hD0 hq hp hz
      go_wp2_with fail
      refine (HR.out.step (fun S hS => start_c _ S _ _ hS)).mono ?_
      intro e w4 hp
      obtain ⟨rfl, hl, hs⟩ := hp
      have T1 := Lib.hid hl
      clear hl hs
      go_wp2_with fail
      refine (T1.out.swap.step (fun S hS => start_c _ S _ _ hS)).mono ?_
      intro e w5 hp
      obtain ⟨rfl, hl, hs⟩ := hp
      have T2 := Lib.hid hl.swap
      clear hl hs
      go_wp2_with fail
      refine (T2.out.step (fun S hS => fail_any _ S _ _ 60 x hS (Nat.le_trans HQ0.out (by omega)))).mono ?_
      intro e w6 hp
      obtain ⟨rfl, hl, hs⟩ := hp
      have T3 := Lib.hid hl
      clear hl hs
      go_wp2_with fail
      refine (T3.out.step (fun S hS => fail_any _ S _ _ y x hS HQF.out)).mono ?_
      intro e w7 hp
      obtain ⟨rfl, hl, hs⟩ := hp
      have T4 := Lib.hid hl
      clear hl hs
      go_wp2_with fail
      refine (T4.out.swap.step (fun S hS => sync_any _ S _ _ hS (Nat.le_trans HQ0.out (by omega)))).mono ?_
      intro e w8 hp
      obtain ⟨rfl, hl, hs⟩ := hp
      have T5 := Lib.hid hl.swap
      clear hl hs
      rw [HZ.out]
      go_wp2_with fail
      refine (T5.out.swap.step (fun S hS => fail_any _ S _ _ 0 x hS HQS.out)).mono ?_
      intro e w9 hp
      obtain ⟨rfl, hl, hs⟩ := hp
      have T6 := Lib.hid hl.swap
      clear hl hs
      go_wp2_with fail
      refine (T6.out.step (fun S hS => start_c _ S _ _ hS)).mono ?_
      intro e w10 hp
      obtain ⟨rfl, hl, hs⟩ := hp
      have T7 := Lib.hid hl
      clear hl hs
      go_wp2_with fail
      refine (T7.out.swap.step (fun S hS => start_c _ S _ _ hS)).mono ?_
      intro e w11 hp
      obtain ⟨rfl, hl, hs⟩ := hp
      have T8 := Lib.hid hl.swap
      clear hl hs
      go_wp2_with fail
      refine (T8.out.step (fun S hS => start_c _ S _ _ hS)).mono ?_
      intro e w12 hp
      obtain ⟨rfl, hl, hs⟩ := hp
      have T9 := Lib.hid hl
      clear hl hs
      have HT9 := T9
      rw [HP.out.1, HP.out.2.2] at HT9
      have HNF := Lib.hid (show N = (Dk.settle D0.st D0.q).length by rw [Dk.settle_length, HN0.out])
      clear HR T1 T2 T3 T4 T5 T6 T7 T8 T9
      go_wp2_with fail
      refine (HT9.out.look (fun S hS => contents_row w12 S _ _ hS rfl (by simp) N HNF.out)).mono ?_
      rintro e w13 ⟨g, c13, rfl, hg, hc, hown, hb⟩
      have HT10 := Lib.hid (HT9.out.below hb)
      have HO1 := Lib.hid hown
      clear hg hc hown hb
      go_wp2_with fail
      refine (HT10.out.swap.look (fun S hS => contents_row w13 S _ _ hS rfl (by simp) N HNF.out)).mono ?_
      rintro e w14 ⟨g2, c14, rfl, hg, hc, hown, hb⟩
      have HT11 := Lib.hid (HT10.out.below hb)
      have HO2 := Lib.hid hown
      have HO3 := Lib.hid ((Touch.of_new (S := fun _ => False) hb).own HO1.out (fun _ _ => id))
      clear hg hc hown hb
      have hlen : (curs { st := Dk.settle D0.st D0.q, q := [], off := false, al := none }).length = N := by simp [curs, ← HNF.out]
      have hinv := HT9.out.inv
      have hsz : ∀ s ∈ curs { st := Dk.settle D0.st D0.q, q := [], off := false, al := none }, s.size ≤ 140737488351232 := fun s hs => by
        obtain ⟨i, hi, rfl⟩ := List.mem_map.1 hs
        have := cur_size hinv (i := i) (by simpa using hi)
        omega
      have HSM := Lib.hid (same_yes w14 _ _ _ ⟨by rw [hlen]; exact HO3.out, hsz⟩ ⟨by rw [hlen]; exact HO2.out, hsz⟩)
      clear hlen hinv hsz
      go_wp2_with fail
      refine HSM.out.mono ?_
      rintro e w15 ⟨rfl, hb⟩
      have hb15 := bthen HT11.out.bel HT11.out.size hb
      have HB15 := Lib.hid hb15
      clear hb hb15
      go_wp2
      go_ret
      exact ⟨rfl, HB15.out⟩

theorem all_walk (w : World) (r : Int) (h0 : 0 ≤ r) (h1 : r ≤ 255) (A1 : Option Addr) (n1 c1 : Nat) (l1 : List Ac) (hl1 : ActsAt w A1 n1 l1) (x : Int) (x0 : -9223372036854775808 ≤ x) (x1 : x ≤ 9223372036854775807) (y : Int) (y0 : -9223372036854775808 ≤ y) (y1 : y ≤ 9223372036854775807) :
    Calls Try.prog 7 #[.int .u8 r, .slice A1 n1 c1, .int .i64 x, .int .i64 y] w fun e w' => e = .returned (.bool true) ∧ Below w.heap.size w w' := by
  cases hk : okA l1 with
  | false => exact all_no w r h0 h1 A1 n1 c1 l1 hl1 x x0 x1 y y0 y1 hk
  | true => exact all_yes w r h0 h1 A1 n1 c1 l1 hl1 x x0 x1 y y0 y1 hk
end Go.Proofs.Ythcjlohdfcdloaa
