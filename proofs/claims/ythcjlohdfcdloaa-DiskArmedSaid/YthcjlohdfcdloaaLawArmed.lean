/- The walk of DiskArmed. -/
import Derived.Test.YthcjlohdfcdloaaLawAll
set_option linter.unusedVariables false
set_option linter.unusedSimpArgs false
namespace Go.Proofs.Ythcjlohdfcdloaa
open Go.RowKit

namespace Dk
def armed (B : Dk) (a x y : Int) : Dk := { B with al := some (a, x, y) }
theorem write_armed {B : Dk} (h : B.Plain) (a x y : Int) (h0 : 0 < a) (i : Int) (s : ByteArray) : (B.armed a x y).write i s = if (B.write i s).2 = 0 then ((B.write i s).1.armed (a - 1) x y, 0) else (B.armed a x y, 1) := by
  obtain ⟨st, q, off, al⟩ := B
  obtain ⟨h1, h2⟩ := h
  simp only at h1 h2
  subst h1
  subst h2
  by_cases hv : 0 ≤ i ∧ i < (st.length : Int)
  · by_cases hs : s.size = 64
    · simp [write, armed, count, valid, hv, hs, h0]
    · simp [write, armed, count, valid, hv, hs]
  · have hv' : (decide (0 ≤ i) && decide (i < (st.length : Int))) = false := by
      rw [Bool.and_eq_false_iff, decide_eq_false_iff_not, decide_eq_false_iff_not]; omega
    simp [write, armed, valid, hv']
    intro h1 h2
    exact absurd ⟨h1, of_decide_eq_true h2⟩ hv
theorem write_armed0 {B : Dk} (h : B.Plain) (x y : Int) (i : Int) (s : ByteArray) : (B.armed 0 x y).write i s = if (B.write i s).2 = 0 then ((B.write i s).1.fail x y, 28) else (B.armed 0 x y, 1) := by
  obtain ⟨st, q, off, al⟩ := B
  obtain ⟨h1, h2⟩ := h
  simp only at h1 h2
  subst h1
  subst h2
  by_cases hv : 0 ≤ i ∧ i < (st.length : Int)
  · by_cases hs : s.size = 64
    · simp [write, armed, count, valid, hv, hs, fail, failSt]
    · simp [write, armed, count, valid, hv, hs]
  · have hv' : (decide (0 ≤ i) && decide (i < (st.length : Int))) = false := by
      rw [Bool.and_eq_false_iff, decide_eq_false_iff_not, decide_eq_false_iff_not]; omega
    simp [write, armed, valid, hv']
    intro h1 h2
    exact absurd ⟨h1, of_decide_eq_true h2⟩ hv
theorem sync_plain {B : Dk} (h : B.Plain) : B.sync = ({ B with st := settle B.st B.q, q := [] }, 0) := by
  obtain ⟨st, q, off, al⟩ := B
  obtain ⟨h1, h2⟩ := h
  simp only at h1 h2
  subst h1
  subst h2
  simp [sync, count]
theorem sync_armed {B : Dk} (h : B.Plain) (a x y : Int) (h0 : 0 < a) : (B.armed a x y).sync = (B.sync.1.armed (a - 1) x y, 0) := by
  rw [sync_plain h]
  obtain ⟨st, q, off, al⟩ := B
  obtain ⟨h1, h2⟩ := h
  simp only at h1 h2
  subst h1
  subst h2
  simp [sync, count, armed, h0]
theorem sync_armed0 {B : Dk} (h : B.Plain) (x y : Int) : (B.armed 0 x y).sync = (B.fail x y, 28) := by
  obtain ⟨st, q, off, al⟩ := B
  obtain ⟨h1, h2⟩ := h
  simp only at h1 h2
  subst h1
  subst h2
  simp [sync, count, armed, fail, failSt]
/-- The armed disk, or the plain one where the arming only disarms. -/
def armedBy (B : Dk) (z a x y : Int) : Dk := if z < 0 then B else B.armed a x y
theorem armedBy_start (B : Dk) (z a x y : Int) : (B.armedBy z a x y).start = B.start := by
  unfold armedBy
  split <;> rfl
end Dk
/-- At the head of a round: how many calls are left. -/
def ArmRel (w0 : World) (da db : Nat) (z x y : Int) (a : Int) (B : Dk) (w : World) : Prop :=
  Two w0.heap.size w0 da (B.armedBy z a x y) db B w ∧ B.Plain ∧ (z < 0 → a = z) ∧ (0 ≤ z → 0 ≤ a ∧ a ≤ z)

set_option maxRecDepth 100000 in
set_option maxHeartbeats 400000 in
theorem armed_no (w : World) (r : Int) (h0 : 0 ≤ r) (h1 : r ≤ 255) (A1 : Option Addr) (n1 c1 : Nat) (l1 : List Ac) (hl1 : ActsAt w A1 n1 l1) (A2 : Option Addr) (n2 c2 : Nat) (l2 : List Ac) (hl2 : ActsAt w A2 n2 l2) (z : Int) (z0 : -9223372036854775808 ≤ z) (z1 : z ≤ 9223372036854775807) (x : Int) (x0 : -9223372036854775808 ≤ x) (x1 : x ≤ 9223372036854775807) (y : Int) (y0 : -9223372036854775808 ≤ y) (y1 : y ≤ 9223372036854775807) (hno : okA l1 = false ∨ (okA l1 = true ∧ okA l2 = false)) :
    Calls Try.prog 8 #[.int .u8 r, .slice A1 n1 c1, .slice A2 n2 c2, .int .i64 z, .int .i64 x, .int .i64 y] w fun e w' => e = .returned (.bool true) ∧ Below w.heap.size w w' := by
  have HL1 := Lib.hid hl1
  have HL2 := Lib.hid hl2
  clear hl1 hl2
  rcases hno with h | ⟨h, h'⟩
  · go_enter Try.func8, Try.ntmps8
    go_wp2_with fail
    refine (head_any w).mono ?_
    rintro e w1 ⟨rfl, hb⟩
    have HB := Lib.hid hb
    have hz1 := hb.size
    clear hb
    go_wp2_with fail
    refine (ok_any w1 A1 n1 c1 l1 (HL1.out.below HB.out)).mono ?_
    rintro e w2 ⟨rfl, rfl⟩
    rw [h]
    clear h
    go_wp2
    go_ret
    exact ⟨rfl, HB.out⟩
  · go_enter Try.func8, Try.ntmps8
    go_wp2_with fail
    refine (head_any w).mono ?_
    rintro e w1 ⟨rfl, hb⟩
    have HB := Lib.hid hb
    have hz1 := hb.size
    clear hb
    go_wp2_with fail
    refine (ok_any w1 A1 n1 c1 l1 (HL1.out.below HB.out)).mono ?_
    rintro e w2 ⟨rfl, rfl⟩
    rw [h]
    clear h
    go_wp2_with fail
    refine (ok_any w1 A2 n2 c2 l2 (HL2.out.below HB.out)).mono ?_
    rintro e w2 ⟨rfl, rfl⟩
    rw [h']
    clear h'
    go_wp2
    go_ret
    exact ⟨rfl, HB.out⟩

set_option maxRecDepth 100000 in
set_option maxHeartbeats 12000000 in
theorem armed_yes (w : World) (r : Int) (h0 : 0 ≤ r) (h1 : r ≤ 255) (A1 : Option Addr) (n1 c1 : Nat) (l1 : List Ac) (hl1 : ActsAt w A1 n1 l1) (A2 : Option Addr) (n2 c2 : Nat) (l2 : List Ac) (hl2 : ActsAt w A2 n2 l2) (z : Int) (z0 : -9223372036854775808 ≤ z) (z1 : z ≤ 9223372036854775807) (x : Int) (x0 : -9223372036854775808 ≤ x) (x1 : x ≤ 9223372036854775807) (y : Int) (y0 : -9223372036854775808 ≤ y) (y1 : y ≤ 9223372036854775807) (hk_l1 : okA l1 = true) (hk_l2 : okA l2 = true) :
    Calls Try.prog 8 #[.int .u8 r, .slice A1 n1 c1, .slice A2 n2 c2, .int .i64 z, .int .i64 x, .int .i64 y] w fun e w' => e = .returned (.bool true) ∧ Below w.heap.size w w' := by
  have hn1 : n1 ≤ 60 := by have := okA_len hk_l1; rw [hl1.len] at this; exact this
  have hn2 : n2 ≤ 60 := by have := okA_len hk_l2; rw [hl2.len] at this; exact this
  have HL1 := Lib.hid hl1
  have HL2 := Lib.hid hl2
  have HK1 := Lib.hid hk_l1
  have HK2 := Lib.hid hk_l2
  have HIX := Lib.hid (show Dk.i64 z ∧ Dk.i64 x ∧ Dk.i64 y from ⟨⟨z0, z1⟩, ⟨x0, x1⟩, ⟨y0, y1⟩⟩)
  obtain ⟨N, hN⟩ : ∃ N, N = sizeN r := ⟨_, rfl⟩
  have hN1 : 1 ≤ N := by rw [hN]; exact sizeN_lo r h0
  have hN2 : N ≤ 12 := by rw [hN]; exact sizeN_hi r h0
  have HSZ := Lib.hid (fun W => size_any W r h0 h1)
  rw [← hN] at HSZ
  clear hN
  have HQ1 := Lib.hid (show ∀ k, ((Dk.new N).run (l1.take k)).q.length < 1000000 from fun k => by
    have h := Dk.run_q (l1.take k) (Dk.new N)
    have h2 := List.length_take_le' k l1
    have h3 := okA_len hk_l1
    simp only [Dk.new, List.length_nil] at h
    exact Nat.lt_of_le_of_lt h (by omega))
  clear hl1 hl2 hk_l1 hk_l2 h0 h1 x0 x1 y0 y1
  go_enter Try.func8, Try.ntmps8
  go_wp2_with fail
  refine (head_any w).mono ?_
  rintro e w1 ⟨rfl, hb⟩
  have HB := Lib.hid hb
  have hz1 := hb.size
  clear hb
  go_wp2_with fail
  refine (ok_any w1 A1 n1 c1 l1 (HL1.out.below HB.out)).mono ?_
  rintro e w2 ⟨rfl, rfl⟩
  rw [HK1.out]
  go_wp2_with fail
  refine (ok_any w1 A2 n2 c2 l2 (HL2.out.below HB.out)).mono ?_
  rintro e w2 ⟨rfl, rfl⟩
  rw [HK2.out]
  go_wp2_with fail
  refine (HSZ.out w1).mono ?_
  rintro e w2 ⟨rfl, rfl⟩
  go_wp2_with fail
  refine (new_bound w1 N hN1 (by omega)).mono ?_
  rintro e w2 ⟨rfl, hd, hb⟩
  have HD := Lib.hid (Lone.new hd HB.out hz1 hb)
  clear hd hb
  obtain ⟨da, hdb⟩ : ∃ da, da = w1.heap.size + 1 := ⟨_, rfl⟩
  rw [← hdb] at HD ⊢
  clear hdb
  go_wp2_with fail
  refine (new_bound w2 N hN1 (by omega)).mono ?_
  rintro e w3 ⟨rfl, hd, hb⟩
  have HT := Lib.hid (HD.out.two hd hb)
  clear hd hb
  obtain ⟨db, hdb⟩ : ∃ db, db = w2.heap.size + 1 := ⟨_, rfl⟩
  rw [← hdb] at HT ⊢
  clear hdb
  clear HD
  go_wp2_with fail
  go_loopw [17] (fun i wr => ∃ k : Nat, k ≤ n1 ∧ i = .int .i64 (k : Int) ∧ Two w.heap.size w da ((Dk.new N).run (l1.take k)) db ((Dk.new N).run (l1.take k)) wr) (fun i _ => n1 - (intOf i).toNat)
  case atStart => exact ⟨0, Nat.zero_le _, rfl, HT.out⟩
  case round =>
    obtain ⟨k, hk, rfl, hrel⟩ := hrel
    have HR := Lib.hid hrel
    clear hrel
    by_cases hlt : k < n1
    · obtain ⟨b, o, kind, sector, bytes, t, odd, after, rfl, hbl, hget, hwf, a0, a1, a2, a3, a4, a5⟩ := HL1.out.get HR.out.bel hlt
      have HA := Lib.hid (show ActCells wr b o k ⟨kind, sector, bytes, t, odd, after⟩ from ⟨a0, a1, a2, a3, a4, a5⟩)
      have HC := Lib.hid (HR.out.step (fun S hS => do_any wr S _ _ ⟨kind, sector, bytes, t, odd, after⟩ hwf hS (HQ1.out k)))
      have HD2 := Lib.hid (fun W (h : Two w.heap.size w db ((Dk.new N).run (l1.take k)) da (((Dk.new N).run (l1.take k)).act ⟨kind, sector, bytes, t, odd, after⟩).1 W) => h.step (fun S hS => do_any W S _ _ ⟨kind, sector, bytes, t, odd, after⟩ hwf hS (HQ1.out k)))
      have HG := Lib.hid hget
      have hbl1 := hbl.1
      clear hget hwf hbl
      unfold Ac.cells at HC HD2
      simp only at HC HD2
      go_wp2_with fail
      refine HC.out.mono ?_
      intro e w4 hp
      obtain ⟨rfl, hl, hs⟩ := hp
      obtain ⟨b0, b1, b2, b3, b4, b5⟩ := HA.out.move (acts_moved HR.out.bel hl.bel hbl1)
      simp only at b0 b1 b2 b3 b4 b5
      have HL4 := Lib.hid hl
      clear hl hs HC a0 a1 a2 a3 a4 a5
      go_wp2_with fail
      refine (HD2.out _ HL4.out.swap).mono ?_
      intro e w5 hp
      obtain ⟨rfl, hl, hs⟩ := hp
      have HL5 := Lib.hid hl.swap
      clear hl hs HD2
      go_wp2
      go_roundw
      case rel => exact ⟨k + 1, by omega, by go_num, by rw [Dk.run_take _ _ _ _ HG.out]; exact HL5.out⟩
      case measure => simp [intOf]; omega
    · obtain rfl : k = n1 := by omega
      have e1 : (Dk.new N).run (l1.take k) = (Dk.new N).run l1 := by rw [List.take_of_length_le (by rw [HL1.out.len]; omega)]
      rw [e1] at HR
      clear hlt hk e1 HT
      obtain ⟨D0, hD0⟩ : ∃ D0, D0 = (Dk.new N).run l1 := ⟨_, rfl⟩
      rw [← hD0] at HR
      have HN0 := Lib.hid (show D0.st.length = N by rw [hD0, Dk.run_n]; simp [Dk.new])
      have hq : D0.q.length ≤ 60 := by
        have h := Dk.run_q l1 (Dk.new N)
        rw [← hD0] at h
        simp only [Dk.new, List.length_nil] at h
        have := HL1.out.len
        omega
      have HQ0 := Lib.hid hq
      clear hD0 hq
      go_wp2_with fail
      refine (HR.out.step (fun S hS => start_c _ S _ _ hS)).mono ?_
      intro e w4 hp
      obtain ⟨rfl, hl, hs⟩ := hp
      have T1 := Lib.hid hl
      clear hl hs
      go_wp2_with fail
      refine (T1.out.swap.step (fun S hS => start_c _ S _ _ hS)).mono ?_
      intro e w5 hp
      obtain ⟨rfl, hl, hs⟩ := hp
      have T2 := Lib.hid hl.swap
      clear hl hs
      have HPS := Lib.hid (show D0.start.Plain from ⟨rfl, rfl⟩)
      have HNS := Lib.hid (show D0.start.st.length = N from HN0.out)
      have HQS := Lib.hid (show D0.start.q.length ≤ 60 from HQ0.out)
      clear HR T1 HN0 HQ0
      generalize D0.start = B0 at T2 HPS HNS HQS
      go_wp2_with fail
      refine (T2.out.step (fun S hS => arm_any _ S _ _ z x y hS HIX.out.1 HIX.out.2.1 HIX.out.2.2)).mono ?_
      intro e w6 hp
      obtain ⟨rfl, hl, hs⟩ := hp
      have HAR := Lib.hid (show ArmRel w da db z x y z B0 w6 from ⟨by
        have e : B0.arm z x y = B0.armedBy z z x y := by
          unfold Dk.arm Dk.armedBy Dk.armed
          rw [if_neg (by simp [HPS.out.1])]
          by_cases h : z < 0
          · rw [if_neg (by omega), if_pos h, ← HPS.out.2]
          · rw [if_pos (by omega), if_neg h]
        rw [← e]; exact hl, HPS.out, fun _ => rfl, fun h => ⟨h, Int.le_refl _⟩⟩)
      clear hl hs T2
      go_upto_block 2 with (fail)
      go_cut [18] (fun v wc => ∃ a F G, v = .int .i64 a ∧ (z < 0 → a = z) ∧ Two w.heap.size w da F db G wc ∧ F.start = G.start ∧ G.st.length = N ∧ G.q.length ≤ 1000)
      case first =>
        go_wp2_with fail
        go_loopw [18, 19] (fun v i wr => ∃ (k : Nat) (a : Int) (B : Dk), k ≤ n2 ∧ i = .int .i64 (k : Int) ∧ v = .int .i64 a ∧ ArmRel w da db z x y a B wr ∧ B.q.length ≤ 60 + k ∧ B.st.length = N) (fun _ i _ => n2 - (intOf i).toNat)
        case atStart => exact ⟨0, z, B0, Nat.zero_le _, rfl, rfl, HAR.out, HQS.out, HNS.out⟩
        case round =>
          obtain ⟨k, a, B, hk, rfl, rfl, hrel, hqb, hnb⟩ := hrel
          have HR := Lib.hid hrel
          have HQK := Lib.hid hqb
          have HNK := Lib.hid hnb
          clear hrel hqb hnb
          by_cases hlt : k < n2
          · obtain ⟨b, o, kind, sector, bytes, t, odd, after, rfl, hbl, hget, hwf, a0, a1, a2, a3, a4, a5⟩ := HL2.out.get HR.out.1.bel hlt
            have HA := Lib.hid (show ActCells wr b o k ⟨kind, sector, bytes, t, odd, after⟩ from ⟨a0, a1, a2, a3, a4, a5⟩)
            have HT := Lib.hid (fun W => text_any W ⟨kind, sector, bytes, t, odd, after⟩ hwf.2.2.2.1)
            have hss := txt_size ⟨kind, sector, bytes, t, odd, after⟩ hwf
            generalize Ac.txt ⟨kind, sector, bytes, t, odd, after⟩ = s at HT hss
            unfold Ac.cells at HT
            simp only at HT
            have HSS := Lib.hid hss
            have HT0 := Lib.hid HR.out.1
            have HRB := Lib.hid HR.out.1.bel
            have HPB := Lib.hid HR.out.2.1
            have HQB := Lib.hid (show B.q.length < 1000000 by have := HQK.out; omega)
            have hz0 := HR.out.2.2.1
            have hz1 := HR.out.2.2.2
            have hbl1 := hbl.1
            clear hget hwf hss hbl
            by_cases hz : z < 0
            · have haz := hz0 hz
              have ha0 : a < 0 := by omega
              have he : B.armedBy z a x y = B := by unfold Dk.armedBy; rw [if_pos hz]
              rw [he] at HT0
              have bz : (a == 0) = false := by simp; omega
              have HSB := Lib.hid (show B.sync.2 = 0 by rw [Dk.sync_plain HPB.out])
              have HZ0 := Lib.hid hz0
              clear he haz hz1 hz0
              by_cases hkind : kind = 2
              · subst hkind
                go_wp2_with fail
                refine (HT0.out.swap.step (fun S hS => sync_any _ S _ _ hS (Nat.le_of_lt HQB.out))).mono ?_
                intro e w8 hp
                obtain ⟨rfl, hl, hs⟩ := hp
                rw [HSB.out]
                have T1 := Lib.hid hl.swap
                clear hl hs
                go_wp2_with fail
                refine (T1.out.step (fun S hS => sync_any _ S _ _ hS (Nat.le_of_lt HQB.out))).mono ?_
                intro e w9 hp
                obtain ⟨rfl, hl, hs⟩ := hp
                rw [HSB.out]
                have T2 := Lib.hid hl
                clear hl hs
                go_wp2
                go_roundw
                case rel => exact ⟨k + 1, a, B.sync.1, by omega, by go_num, rfl, ⟨(show Two w.heap.size w da (Dk.armedBy B.sync.1 z a x y) db B.sync.1 _ by unfold Dk.armedBy; rw [if_pos hz]; exact T2.out), by rw [Dk.sync_plain HPB.out]; exact HPB.out, fun h => HZ0.out h, fun h => absurd hz (by omega)⟩, by rw [Dk.sync_plain HPB.out]; simp, by rw [Dk.sync_n]; exact HNK.out⟩
                case measure => simp [intOf]; omega
              · have hkb : (kind == 2) = false := by simpa using hkind
                clear hkind
                have hzb : b < wr.heap.size := Nat.lt_of_lt_of_le hbl1 HT0.out.bel.size
                obtain ⟨a0, a1, a2, a3, a4, a5⟩ := HA.out.move (acts_moved HRB.out HT0.out.bel hbl1)
                simp only at a0 a1 a2 a3 a4 a5
                have HTD := Lib.hid (HT0.out.below ((Below.refl _ _).drew))
                go_upto_region 22 with (fail)
                go_cut [21] (fun e wc => e = .int .i64 (B.write sector s).2 ∧ Two w.heap.size w da B db (B.write sector s).1 wc)
                case first =>
                  go_region_with (first
                    | (go_at_call 24; refine (HT.out _).mono ?_; rintro e w7 ⟨rfl, hb⟩; have HB7 := Lib.hid hb; have b1 := (hb.cell (p := ⟨b, o + k * 6 + 1, none⟩) hzb).trans a1; clear hb)
                    | (go_at_call 23; refine (((HTD.out.below HB7.out).swap).step (fun S hS => write_any _ S _ _ sector s hS HSS.out (HQB.out))).mono ?_; intro e w8 hp; obtain ⟨rfl, hl, hsz⟩ := hp; have HL8 := Lib.hid (hl.swap); clear hl hsz))
                  all_goals
                    go_wp2_with fail
                    go_meet
                    exact ⟨rfl, HL8.out⟩
                case rest =>
                  obtain ⟨rfl, ht1⟩ := hcut
                  have T1 := Lib.hid ht1
                  clear ht1 HTD a0 a1 a2 a3 a4 a5 hzb
                  by_cases hw0 : (B.write sector s).2 = 0
                  · rw [hw0]
                    have HW0 := Lib.hid hw0
                    have HWN := Lib.hid (show (B.write sector s).1.st.length = N by rw [Dk.write_n]; exact HNK.out)
                    have HWQ := Lib.hid (show (B.write sector s).1.q.length ≤ 61 + k from Nat.le_trans (Dk.write_q B sector s) (by have := HQK.out; omega))
                    have HWP := Lib.hid (Dk.write_plain_keep HPB.out sector s).1
                    clear hw0
                    have hzb : b < wc.heap.size := Nat.lt_of_lt_of_le hbl1 T1.out.bel.size
                    obtain ⟨a0, a1, a2, a3, a4, a5⟩ := HA.out.move (acts_moved HRB.out T1.out.bel hbl1)
                    simp only at a0 a1 a2 a3 a4 a5
                    have HTD := Lib.hid (T1.out.below ((Below.refl _ _).drew))
                    go_upto_region 32 with (fail)
                    go_cut [23] (fun e wc => e = .int .i64 (B.write sector s).2 ∧ Two w.heap.size w da (B.write sector s).1 db (B.write sector s).1 wc)
                    case first =>
                      go_region_with (first
                        | (go_at_call 24; refine (HT.out _).mono ?_; rintro e w7 ⟨rfl, hb⟩; have HB7 := Lib.hid hb; have b1 := (hb.cell (p := ⟨b, o + k * 6 + 1, none⟩) hzb).trans a1; clear hb)
                        | (go_at_call 23; refine (((HTD.out.below HB7.out)).step (fun S hS => write_any _ S _ _ sector s hS HSS.out (HQB.out))).mono ?_; intro e w8 hp; obtain ⟨rfl, hl, hsz⟩ := hp; have HL8 := Lib.hid (hl); clear hl hsz))
                      all_goals
                        go_wp2_with fail
                        go_meet
                        exact ⟨rfl, HL8.out⟩
                    case rest =>
                      obtain ⟨rfl, ht2⟩ := hcut
                      rw [HW0.out]
                      have T3 := Lib.hid ht2
                      clear ht2 HTD a0 a1 a2 a3 a4 a5 hzb
                      go_wp2
                      go_roundw
                      case rel => exact ⟨k + 1, a, (B.write sector s).1, by omega, by go_num, rfl, ⟨(show Two w.heap.size w da (Dk.armedBy (B.write sector s).1 z a x y) db (B.write sector s).1 _ by unfold Dk.armedBy; rw [if_pos hz]; exact T3.out), HWP.out, fun h => HZ0.out h, fun h => absurd hz (by omega)⟩, by have := HWQ.out; omega, HWN.out⟩
                      case measure => simp [intOf]; omega
                  · have HWI := Lib.hid (Dk.write_plain HPB.out sector s)
                    have hw1 : (B.write sector s).2 = 1 := by
                      have h := HWI.out
                      by_cases hc : B.valid sector = true ∧ s.size = 64
                      · rw [if_pos hc] at h; rw [h] at hw0; exact absurd rfl hw0
                      · rw [if_neg hc] at h; rw [h]
                    have hwB : (B.write sector s).1 = B := by
                      have h := HWI.out
                      by_cases hc : B.valid sector = true ∧ s.size = 64
                      · rw [if_pos hc] at h; rw [h] at hw0; exact absurd rfl hw0
                      · rw [if_neg hc] at h; rw [h]
                    rw [hwB] at T1
                    rw [hw1]
                    have HW0 := Lib.hid hw0
                    have HW1 := Lib.hid hw1
                    have HWB := Lib.hid hwB
                    clear hw0 hw1 hwB HWI
                    have hzb : b < wc.heap.size := Nat.lt_of_lt_of_le hbl1 T1.out.bel.size
                    obtain ⟨a0, a1, a2, a3, a4, a5⟩ := HA.out.move (acts_moved HRB.out T1.out.bel hbl1)
                    simp only at a0 a1 a2 a3 a4 a5
                    have HTD := Lib.hid (T1.out.below ((Below.refl _ _).drew))
                    go_upto_region 32 with (fail)
                    go_cut [23] (fun e wc => e = .int .i64 (B.write sector s).2 ∧ Two w.heap.size w da (B.write sector s).1 db B wc)
                    case first =>
                      go_region_with (first
                        | (go_at_call 24; refine (HT.out _).mono ?_; rintro e w7 ⟨rfl, hb⟩; have HB7 := Lib.hid hb; have b1 := (hb.cell (p := ⟨b, o + k * 6 + 1, none⟩) hzb).trans a1; clear hb)
                        | (go_at_call 23; refine (((HTD.out.below HB7.out)).step (fun S hS => write_any _ S _ _ sector s hS HSS.out (HQB.out))).mono ?_; intro e w8 hp; obtain ⟨rfl, hl, hsz⟩ := hp; have HL8 := Lib.hid (hl); clear hl hsz))
                      all_goals
                        go_wp2_with fail
                        go_meet
                        exact ⟨rfl, HL8.out⟩
                    case rest =>
                      obtain ⟨rfl, ht2⟩ := hcut
                      rw [HW1.out]
                      rw [HWB.out] at ht2
                      have T3 := Lib.hid ht2
                      clear ht2 HTD a0 a1 a2 a3 a4 a5 hzb
                      go_wp2
                      go_roundw
                      case rel => exact ⟨k + 1, a, B, by omega, by go_num, rfl, ⟨(show Two w.heap.size w da (Dk.armedBy B z a x y) db B _ by unfold Dk.armedBy; rw [if_pos hz]; exact T3.out), HPB.out, fun h => HZ0.out h, fun h => absurd hz (by omega)⟩, by have := HQK.out; omega, HNK.out⟩
                      case measure => simp [intOf]; omega
            · have hza := hz1 (by omega)
              by_cases ha0 : a = 0
              · subst ha0
                have he : B.armedBy z 0 x y = B.armed 0 x y := by unfold Dk.armedBy; rw [if_neg (by omega)]
                rw [he] at HT0
                have HSY := Lib.hid (Dk.sync_armed0 HPB.out x y)
                clear he hz0
                by_cases hkind : kind = 2
                · subst hkind
                  go_wp2_with fail
                  refine (HT0.out.swap.step (fun S hS => fail_any _ S _ _ x y hS (Nat.le_of_lt HQB.out))).mono ?_
                  intro e w8 hp
                  obtain ⟨rfl, hl, hs⟩ := hp
                  have T1 := Lib.hid hl.swap
                  clear hl hs
                  go_wp2_with fail
                  refine (T1.out.step (fun S hS => sync_any _ S _ _ hS (Nat.le_of_lt HQB.out))).mono ?_
                  intro e w9 hp
                  rw [HSY.out] at hp
                  simp only at hp
                  obtain ⟨rfl, hl, hs⟩ := hp
                  have T2 := Lib.hid hl
                  clear hl hs
                  go_wp2_with fail
                  go_meet
                  exact ⟨0, _, _, rfl, fun h => by omega, T2.out, rfl, by rw [Dk.fail_n]; exact HNK.out, by unfold Dk.fail; rw [if_neg (by simp [HPB.out.1])]; simp⟩
                · have hkb : (kind == 2) = false := by simpa using hkind
                  clear hkind
                  have hzb : b < wr.heap.size := Nat.lt_of_lt_of_le hbl1 HT0.out.bel.size
                  obtain ⟨a0, a1, a2, a3, a4, a5⟩ := HA.out.move (acts_moved HRB.out HT0.out.bel hbl1)
                  simp only at a0 a1 a2 a3 a4 a5
                  have HTD := Lib.hid (HT0.out.below ((Below.refl _ _).drew))
                  go_upto_region 22 with (fail)
                  go_cut [21] (fun e wc => e = .int .i64 (B.write sector s).2 ∧ Two w.heap.size w da (B.armed 0 x y) db (B.write sector s).1 wc)
                  case first =>
                    go_region_with (first
                      | (go_at_call 24; refine (HT.out _).mono ?_; rintro e w7 ⟨rfl, hb⟩; have HB7 := Lib.hid hb; have b1 := (hb.cell (p := ⟨b, o + k * 6 + 1, none⟩) hzb).trans a1; clear hb)
                      | (go_at_call 23; refine (((HTD.out.below HB7.out).swap).step (fun S hS => write_any _ S _ _ sector s hS HSS.out (HQB.out))).mono ?_; intro e w8 hp; obtain ⟨rfl, hl, hsz⟩ := hp; have HL8 := Lib.hid (hl.swap); clear hl hsz))
                    all_goals
                      go_wp2_with fail
                      go_meet
                      exact ⟨rfl, HL8.out⟩
                  case rest =>
                    obtain ⟨rfl, ht1⟩ := hcut
                    have T1 := Lib.hid ht1
                    clear ht1 HTD a0 a1 a2 a3 a4 a5 hzb
                    by_cases hw0 : (B.write sector s).2 = 0
                    · rw [hw0]
                      have HW0 := Lib.hid hw0
                      have HWN := Lib.hid (show (B.write sector s).1.st.length = N by rw [Dk.write_n]; exact HNK.out)
                      have HWQ := Lib.hid (show (B.write sector s).1.q.length ≤ 61 + k from Nat.le_trans (Dk.write_q B sector s) (by have := HQK.out; omega))
                      have HWP := Lib.hid (Dk.write_plain_keep HPB.out sector s).1
                      clear hw0
                      go_wp2_with fail
                      refine (T1.out.swap.step (fun S hS => fail_any _ S _ _ x y hS (by have := HWQ.out; omega))).mono ?_
                      intro e w8 hp
                      obtain ⟨rfl, hl, hs⟩ := hp
                      have T2 := Lib.hid hl.swap
                      clear hl hs
                      have hzb : b < w8.heap.size := Nat.lt_of_lt_of_le hbl1 T2.out.bel.size
                      obtain ⟨a0, a1, a2, a3, a4, a5⟩ := HA.out.move (acts_moved HRB.out T2.out.bel hbl1)
                      simp only at a0 a1 a2 a3 a4 a5
                      have HTD := Lib.hid (T2.out.below ((Below.refl _ _).drew))
                      go_upto_region 32 with (fail)
                      go_cut [23] (fun e wc => e = .int .i64 ((B.armed 0 x y).write sector s).2 ∧ Two w.heap.size w da ((B.armed 0 x y).write sector s).1 db ((B.write sector s).1.fail x y) wc)
                      case first =>
                        go_region_with (first
                          | (go_at_call 24; refine (HT.out _).mono ?_; rintro e w7 ⟨rfl, hb⟩; have HB7 := Lib.hid hb; have b1 := (hb.cell (p := ⟨b, o + k * 6 + 1, none⟩) hzb).trans a1; clear hb)
                          | (go_at_call 23; refine (((HTD.out.below HB7.out)).step (fun S hS => write_any _ S _ _ sector s hS HSS.out (HQB.out))).mono ?_; intro e w8 hp; obtain ⟨rfl, hl, hsz⟩ := hp; have HL8 := Lib.hid (hl); clear hl hsz))
                        all_goals
                          go_wp2_with fail
                          go_meet
                          exact ⟨rfl, HL8.out⟩
                      case rest =>
                        obtain ⟨rfl, ht2⟩ := hcut
                        have hwa := Dk.write_armed0 HPB.out x y sector s
                        rw [if_pos HW0.out] at hwa
                        rw [hwa] at ht2 ⊢
                        have T3 := Lib.hid ht2
                        clear ht2 hwa HTD a0 a1 a2 a3 a4 a5 hzb
                        go_wp2_with fail
                        go_meet
                        exact ⟨0, _, _, rfl, fun h => by omega, T3.out, rfl, by rw [Dk.fail_n]; exact HWN.out, by unfold Dk.fail; rw [if_neg (by simp [HWP.out.1])]; simp⟩
                    · have HWI := Lib.hid (Dk.write_plain HPB.out sector s)
                      have hw1 : (B.write sector s).2 = 1 := by
                        have h := HWI.out
                        by_cases hc : B.valid sector = true ∧ s.size = 64
                        · rw [if_pos hc] at h; rw [h] at hw0; exact absurd rfl hw0
                        · rw [if_neg hc] at h; rw [h]
                      have hwB : (B.write sector s).1 = B := by
                        have h := HWI.out
                        by_cases hc : B.valid sector = true ∧ s.size = 64
                        · rw [if_pos hc] at h; rw [h] at hw0; exact absurd rfl hw0
                        · rw [if_neg hc] at h; rw [h]
                      rw [hwB] at T1
                      rw [hw1]
                      have HW0 := Lib.hid hw0
                      have HW1 := Lib.hid hw1
                      have HWB := Lib.hid hwB
                      clear hw0 hw1 hwB HWI
                      have hzb : b < wc.heap.size := Nat.lt_of_lt_of_le hbl1 T1.out.bel.size
                      obtain ⟨a0, a1, a2, a3, a4, a5⟩ := HA.out.move (acts_moved HRB.out T1.out.bel hbl1)
                      simp only at a0 a1 a2 a3 a4 a5
                      have HTD := Lib.hid (T1.out.below ((Below.refl _ _).drew))
                      go_upto_region 32 with (fail)
                      go_cut [23] (fun e wc => e = .int .i64 ((B.armed 0 x y).write sector s).2 ∧ Two w.heap.size w da ((B.armed 0 x y).write sector s).1 db B wc)
                      case first =>
                        go_region_with (first
                          | (go_at_call 24; refine (HT.out _).mono ?_; rintro e w7 ⟨rfl, hb⟩; have HB7 := Lib.hid hb; have b1 := (hb.cell (p := ⟨b, o + k * 6 + 1, none⟩) hzb).trans a1; clear hb)
                          | (go_at_call 23; refine (((HTD.out.below HB7.out)).step (fun S hS => write_any _ S _ _ sector s hS HSS.out (HQB.out))).mono ?_; intro e w8 hp; obtain ⟨rfl, hl, hsz⟩ := hp; have HL8 := Lib.hid (hl); clear hl hsz))
                        all_goals
                          go_wp2_with fail
                          go_meet
                          exact ⟨rfl, HL8.out⟩
                      case rest =>
                        obtain ⟨rfl, ht2⟩ := hcut
                        have hwa := Dk.write_armed0 HPB.out x y sector s
                        rw [if_neg HW0.out] at hwa
                        rw [hwa] at ht2 ⊢
                        have T3 := Lib.hid ht2
                        clear ht2 hwa HTD a0 a1 a2 a3 a4 a5 hzb
                        go_wp2
                        go_roundw
                        case rel => exact ⟨k + 1, 0, B, by omega, by go_num, rfl, ⟨(show Two w.heap.size w da (Dk.armedBy B z 0 x y) db B _ by unfold Dk.armedBy; rw [if_neg (by omega)]; exact T3.out), HPB.out, fun h => by omega, fun h => ⟨by omega, by omega⟩⟩, by have := HQK.out; omega, HNK.out⟩
                        case measure => simp [intOf]; omega
              · have hap : 0 < a := by omega
                have he : B.armedBy z a x y = B.armed a x y := by unfold Dk.armedBy; rw [if_neg (by omega)]
                rw [he] at HT0
                have bz : (a == 0) = false := by simp; omega
                have HSY := Lib.hid (Dk.sync_armed HPB.out a x y hap)
                have HSB := Lib.hid (show B.sync.2 = 0 by rw [Dk.sync_plain HPB.out])
                clear he hz0 ha0
                by_cases hkind : kind = 2
                · subst hkind
                  go_wp2_with fail
                  refine (HT0.out.swap.step (fun S hS => sync_any _ S _ _ hS (Nat.le_of_lt HQB.out))).mono ?_
                  intro e w8 hp
                  obtain ⟨rfl, hl, hs⟩ := hp
                  rw [HSB.out]
                  have T1 := Lib.hid hl.swap
                  clear hl hs
                  go_wp2_with fail
                  refine (T1.out.step (fun S hS => sync_any _ S _ _ hS (Nat.le_of_lt HQB.out))).mono ?_
                  intro e w9 hp
                  rw [HSY.out] at hp
                  simp only at hp
                  obtain ⟨rfl, hl, hs⟩ := hp
                  have T2 := Lib.hid hl
                  clear hl hs
                  go_wp2
                  go_roundw
                  case rel => exact ⟨k + 1, (a - 1), B.sync.1, by omega, by go_num, rfl, ⟨(show Two w.heap.size w da (Dk.armedBy B.sync.1 z (a - 1) x y) db B.sync.1 _ by unfold Dk.armedBy; rw [if_neg (by omega)]; exact T2.out), by rw [Dk.sync_plain HPB.out]; exact HPB.out, fun h => by omega, fun h => ⟨by omega, by omega⟩⟩, by rw [Dk.sync_plain HPB.out]; simp, by rw [Dk.sync_n]; exact HNK.out⟩
                  case measure => simp [intOf]; omega
                · have hkb : (kind == 2) = false := by simpa using hkind
                  clear hkind
                  have hzb : b < wr.heap.size := Nat.lt_of_lt_of_le hbl1 HT0.out.bel.size
                  obtain ⟨a0, a1, a2, a3, a4, a5⟩ := HA.out.move (acts_moved HRB.out HT0.out.bel hbl1)
                  simp only at a0 a1 a2 a3 a4 a5
                  have HTD := Lib.hid (HT0.out.below ((Below.refl _ _).drew))
                  go_upto_region 22 with (fail)
                  go_cut [21] (fun e wc => e = .int .i64 (B.write sector s).2 ∧ Two w.heap.size w da (B.armed a x y) db (B.write sector s).1 wc)
                  case first =>
                    go_region_with (first
                      | (go_at_call 24; refine (HT.out _).mono ?_; rintro e w7 ⟨rfl, hb⟩; have HB7 := Lib.hid hb; have b1 := (hb.cell (p := ⟨b, o + k * 6 + 1, none⟩) hzb).trans a1; clear hb)
                      | (go_at_call 23; refine (((HTD.out.below HB7.out).swap).step (fun S hS => write_any _ S _ _ sector s hS HSS.out (HQB.out))).mono ?_; intro e w8 hp; obtain ⟨rfl, hl, hsz⟩ := hp; have HL8 := Lib.hid (hl.swap); clear hl hsz))
                    all_goals
                      go_wp2_with fail
                      go_meet
                      exact ⟨rfl, HL8.out⟩
                  case rest =>
                    obtain ⟨rfl, ht1⟩ := hcut
                    have T1 := Lib.hid ht1
                    clear ht1 HTD a0 a1 a2 a3 a4 a5 hzb
                    by_cases hw0 : (B.write sector s).2 = 0
                    · rw [hw0]
                      have HW0 := Lib.hid hw0
                      have HWN := Lib.hid (show (B.write sector s).1.st.length = N by rw [Dk.write_n]; exact HNK.out)
                      have HWQ := Lib.hid (show (B.write sector s).1.q.length ≤ 61 + k from Nat.le_trans (Dk.write_q B sector s) (by have := HQK.out; omega))
                      have HWP := Lib.hid (Dk.write_plain_keep HPB.out sector s).1
                      clear hw0
                      have hzb : b < wc.heap.size := Nat.lt_of_lt_of_le hbl1 T1.out.bel.size
                      obtain ⟨a0, a1, a2, a3, a4, a5⟩ := HA.out.move (acts_moved HRB.out T1.out.bel hbl1)
                      simp only at a0 a1 a2 a3 a4 a5
                      have HTD := Lib.hid (T1.out.below ((Below.refl _ _).drew))
                      go_upto_region 32 with (fail)
                      go_cut [23] (fun e wc => e = .int .i64 ((B.armed a x y).write sector s).2 ∧ Two w.heap.size w da ((B.armed a x y).write sector s).1 db (B.write sector s).1 wc)
                      case first =>
                        go_region_with (first
                          | (go_at_call 24; refine (HT.out _).mono ?_; rintro e w7 ⟨rfl, hb⟩; have HB7 := Lib.hid hb; have b1 := (hb.cell (p := ⟨b, o + k * 6 + 1, none⟩) hzb).trans a1; clear hb)
                          | (go_at_call 23; refine (((HTD.out.below HB7.out)).step (fun S hS => write_any _ S _ _ sector s hS HSS.out (HQB.out))).mono ?_; intro e w8 hp; obtain ⟨rfl, hl, hsz⟩ := hp; have HL8 := Lib.hid (hl); clear hl hsz))
                        all_goals
                          go_wp2_with fail
                          go_meet
                          exact ⟨rfl, HL8.out⟩
                      case rest =>
                        obtain ⟨rfl, ht2⟩ := hcut
                        have hwa := Dk.write_armed HPB.out a x y hap sector s
                        rw [if_pos HW0.out] at hwa
                        rw [hwa] at ht2 ⊢
                        have T3 := Lib.hid ht2
                        clear ht2 hwa HTD a0 a1 a2 a3 a4 a5 hzb
                        go_wp2
                        go_roundw
                        case rel => exact ⟨k + 1, (a - 1), (B.write sector s).1, by omega, by go_num, rfl, ⟨(show Two w.heap.size w da (Dk.armedBy (B.write sector s).1 z (a - 1) x y) db (B.write sector s).1 _ by unfold Dk.armedBy; rw [if_neg (by omega)]; exact T3.out), HWP.out, fun h => by omega, fun h => ⟨by omega, by omega⟩⟩, by have := HWQ.out; omega, HWN.out⟩
                        case measure => simp [intOf]; omega
                    · have HWI := Lib.hid (Dk.write_plain HPB.out sector s)
                      have hw1 : (B.write sector s).2 = 1 := by
                        have h := HWI.out
                        by_cases hc : B.valid sector = true ∧ s.size = 64
                        · rw [if_pos hc] at h; rw [h] at hw0; exact absurd rfl hw0
                        · rw [if_neg hc] at h; rw [h]
                      have hwB : (B.write sector s).1 = B := by
                        have h := HWI.out
                        by_cases hc : B.valid sector = true ∧ s.size = 64
                        · rw [if_pos hc] at h; rw [h] at hw0; exact absurd rfl hw0
                        · rw [if_neg hc] at h; rw [h]
                      rw [hwB] at T1
                      rw [hw1]
                      have HW0 := Lib.hid hw0
                      have HW1 := Lib.hid hw1
                      have HWB := Lib.hid hwB
                      clear hw0 hw1 hwB HWI
                      have hzb : b < wc.heap.size := Nat.lt_of_lt_of_le hbl1 T1.out.bel.size
                      obtain ⟨a0, a1, a2, a3, a4, a5⟩ := HA.out.move (acts_moved HRB.out T1.out.bel hbl1)
                      simp only at a0 a1 a2 a3 a4 a5
                      have HTD := Lib.hid (T1.out.below ((Below.refl _ _).drew))
                      go_upto_region 32 with (fail)
                      go_cut [23] (fun e wc => e = .int .i64 ((B.armed a x y).write sector s).2 ∧ Two w.heap.size w da ((B.armed a x y).write sector s).1 db B wc)
                      case first =>
                        go_region_with (first
                          | (go_at_call 24; refine (HT.out _).mono ?_; rintro e w7 ⟨rfl, hb⟩; have HB7 := Lib.hid hb; have b1 := (hb.cell (p := ⟨b, o + k * 6 + 1, none⟩) hzb).trans a1; clear hb)
                          | (go_at_call 23; refine (((HTD.out.below HB7.out)).step (fun S hS => write_any _ S _ _ sector s hS HSS.out (HQB.out))).mono ?_; intro e w8 hp; obtain ⟨rfl, hl, hsz⟩ := hp; have HL8 := Lib.hid (hl); clear hl hsz))
                        all_goals
                          go_wp2_with fail
                          go_meet
                          exact ⟨rfl, HL8.out⟩
                      case rest =>
                        obtain ⟨rfl, ht2⟩ := hcut
                        have hwa := Dk.write_armed HPB.out a x y hap sector s
                        rw [if_neg HW0.out] at hwa
                        rw [hwa] at ht2 ⊢
                        have T3 := Lib.hid ht2
                        clear ht2 hwa HTD a0 a1 a2 a3 a4 a5 hzb
                        go_wp2
                        go_roundw
                        case rel => exact ⟨k + 1, a, B, by omega, by go_num, rfl, ⟨(show Two w.heap.size w da (Dk.armedBy B z a x y) db B _ by unfold Dk.armedBy; rw [if_neg (by omega)]; exact T3.out), HPB.out, fun h => by omega, fun h => ⟨by omega, by omega⟩⟩, by have := HQK.out; omega, HNK.out⟩
                        case measure => simp [intOf]; omega
          · have HK := Lib.hid hk
            clear hk
            go_wp2_with fail
            go_meet
            exact ⟨a, _, B, rfl, HR.out.2.2.1, HR.out.1, Dk.armedBy_start B z a x y, HNK.out, by have := HQK.out; have := HK.out; omega⟩
      case rest =>
        obtain ⟨a, F, G, rfl, haz, hT, hst, hn, hq⟩ := hcut
        have T1 := Lib.hid hT
        have HST := Lib.hid hst
        have HNG := Lib.hid hn
        have HQG := Lib.hid hq
        have HAZ := Lib.hid haz
        clear haz hT hst hn hq HAR
        by_cases hz : z < 0
        · obtain rfl : a = z := HAZ.out hz
          have bz : (a != a) = false := bne_self_eq_false a
          clear HAZ
          go_wp2_with fail
          refine (T1.out.step (fun S hS => start_c _ S _ _ hS)).mono ?_
          intro e w8 hp
          obtain ⟨rfl, hl, hs⟩ := hp
          have T2 := Lib.hid hl
          clear hl hs
          go_wp2_with fail
          refine (T2.out.swap.step (fun S hS => start_c _ S _ _ hS)).mono ?_
          intro e w9 hp
          obtain ⟨rfl, hl, hs⟩ := hp
          have T3 := Lib.hid hl.swap
          clear hl hs
          have HT9 := T3
          rw [HST.out] at HT9
          have HNF := Lib.hid (show N = G.start.st.length from HNG.out.symm)
          clear T1 T2 T3
          go_wp2_with fail
          refine (HT9.out.look (fun S hS => contents_row w9 S _ _ hS rfl (by have := HQG.out; unfold Dk.start; simp only; omega) N HNF.out)).mono ?_
          rintro e w13 ⟨g, c13, rfl, hg, hc, hown, hb⟩
          have HT10 := Lib.hid (HT9.out.below hb)
          have HO1 := Lib.hid hown
          clear hg hc hown hb
          go_wp2_with fail
          refine (HT10.out.swap.look (fun S hS => contents_row w13 S _ _ hS rfl (by have := HQG.out; unfold Dk.start; simp only; omega) N HNF.out)).mono ?_
          rintro e w14 ⟨g2, c14, rfl, hg, hc, hown, hb⟩
          have HT11 := Lib.hid (HT10.out.below hb)
          have HO2 := Lib.hid hown
          have HO3 := Lib.hid ((Touch.of_new (S := fun _ => False) hb).own HO1.out (fun _ _ => id))
          clear hg hc hown hb
          have hlen : (curs G.start).length = N := by simp [curs, ← HNF.out]
          have hinv := HT9.out.inv
          have hsz : ∀ s ∈ curs G.start, s.size ≤ 140737488351232 := fun s hs => by
            obtain ⟨i, hi, rfl⟩ := List.mem_map.1 hs
            have := cur_size hinv (i := i) (by simpa using hi)
            omega
          have HSM := Lib.hid (same_yes w14 _ _ _ ⟨by rw [hlen]; exact HO3.out, hsz⟩ ⟨by rw [hlen]; exact HO2.out, hsz⟩)
          clear hlen hinv hsz
          go_wp2_with fail
          refine HSM.out.mono ?_
          rintro e w15 ⟨rfl, hb⟩
          have hb15 := bthen HT11.out.bel HT11.out.size hb
          have HB15 := Lib.hid hb15
          clear hb hb15
          go_wp2
          go_ret
          exact ⟨rfl, HB15.out⟩
        · clear HAZ
          go_wp2_with fail
          refine (T1.out.step (fun S hS => start_c _ S _ _ hS)).mono ?_
          intro e w8 hp
          obtain ⟨rfl, hl, hs⟩ := hp
          have T2 := Lib.hid hl
          clear hl hs
          go_wp2_with fail
          refine (T2.out.swap.step (fun S hS => start_c _ S _ _ hS)).mono ?_
          intro e w9 hp
          obtain ⟨rfl, hl, hs⟩ := hp
          have T3 := Lib.hid hl.swap
          clear hl hs
          have HT9 := T3
          rw [HST.out] at HT9
          have HNF := Lib.hid (show N = G.start.st.length from HNG.out.symm)
          clear T1 T2 T3
          go_wp2_with fail
          refine (HT9.out.look (fun S hS => contents_row w9 S _ _ hS rfl (by have := HQG.out; unfold Dk.start; simp only; omega) N HNF.out)).mono ?_
          rintro e w13 ⟨g, c13, rfl, hg, hc, hown, hb⟩
          have HT10 := Lib.hid (HT9.out.below hb)
          have HO1 := Lib.hid hown
          clear hg hc hown hb
          go_wp2_with fail
          refine (HT10.out.swap.look (fun S hS => contents_row w13 S _ _ hS rfl (by have := HQG.out; unfold Dk.start; simp only; omega) N HNF.out)).mono ?_
          rintro e w14 ⟨g2, c14, rfl, hg, hc, hown, hb⟩
          have HT11 := Lib.hid (HT10.out.below hb)
          have HO2 := Lib.hid hown
          have HO3 := Lib.hid ((Touch.of_new (S := fun _ => False) hb).own HO1.out (fun _ _ => id))
          clear hg hc hown hb
          have hlen : (curs G.start).length = N := by simp [curs, ← HNF.out]
          have hinv := HT9.out.inv
          have hsz : ∀ s ∈ curs G.start, s.size ≤ 140737488351232 := fun s hs => by
            obtain ⟨i, hi, rfl⟩ := List.mem_map.1 hs
            have := cur_size hinv (i := i) (by simpa using hi)
            omega
          have HSM := Lib.hid (same_yes w14 _ _ _ ⟨by rw [hlen]; exact HO3.out, hsz⟩ ⟨by rw [hlen]; exact HO2.out, hsz⟩)
          clear hlen hinv hsz
          go_wp2_with fail
          refine HSM.out.mono ?_
          rintro e w15 ⟨rfl, hb⟩
          have hb15 := bthen HT11.out.bel HT11.out.size hb
          have HB15 := Lib.hid hb15
          clear hb hb15
          go_wp2
          go_ret
          exact ⟨rfl, HB15.out⟩

theorem armed_walk (w : World) (r : Int) (h0 : 0 ≤ r) (h1 : r ≤ 255) (A1 : Option Addr) (n1 c1 : Nat) (l1 : List Ac) (hl1 : ActsAt w A1 n1 l1) (A2 : Option Addr) (n2 c2 : Nat) (l2 : List Ac) (hl2 : ActsAt w A2 n2 l2) (z : Int) (z0 : -9223372036854775808 ≤ z) (z1 : z ≤ 9223372036854775807) (x : Int) (x0 : -9223372036854775808 ≤ x) (x1 : x ≤ 9223372036854775807) (y : Int) (y0 : -9223372036854775808 ≤ y) (y1 : y ≤ 9223372036854775807) :
    Calls Try.prog 8 #[.int .u8 r, .slice A1 n1 c1, .slice A2 n2 c2, .int .i64 z, .int .i64 x, .int .i64 y] w fun e w' => e = .returned (.bool true) ∧ Below w.heap.size w w' := by
  cases hk : okA l1 with
  | false => exact armed_no w r h0 h1 A1 n1 c1 l1 hl1 A2 n2 c2 l2 hl2 z z0 z1 x x0 x1 y y0 y1 (.inl hk)
  | true =>
    cases hk2 : okA l2 with
    | false => exact armed_no w r h0 h1 A1 n1 c1 l1 hl1 A2 n2 c2 l2 hl2 z z0 z1 x x0 x1 y y0 y1 (.inr ⟨hk, hk2⟩)
    | true => exact armed_yes w r h0 h1 A1 n1 c1 l1 hl1 A2 n2 c2 l2 hl2 z z0 z1 x x0 x1 y y0 y1 hk hk2
end Go.Proofs.Ythcjlohdfcdloaa
