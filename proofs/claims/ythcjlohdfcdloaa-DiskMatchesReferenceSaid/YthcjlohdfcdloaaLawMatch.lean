/- The walk of DiskMatchesReference. -/
import Derived.Test.YthcjlohdfcdloaaRefW10
import Derived.Test.YthcjlohdfcdloaaLawMore
set_option linter.unusedVariables false
set_option linter.unusedSimpArgs false
namespace Go.Proofs.Ythcjlohdfcdloaa
open Go.RowKit

/-- A disk and a disk of the reference, apart. -/
def Pair (B : Nat) (w0 : World) (da : Nat) (A : Dk) (db : Nat) (D : Dk) (w : World) : Prop :=
  ∃ S T, DiskAt w S da A ∧ RefAt w T db D ∧ (∀ k, S k → B ≤ k ∧ k < w.heap.size) ∧ (∀ k, T k → B ≤ k ∧ k < w.heap.size) ∧ (∀ k, S k → ¬ T k) ∧ Below B w0 w ∧ B ≤ w.heap.size
def PPost (B : Nat) (w0 : World) (da : Nat) (A : Dk) (db : Nat) (D : Dk) (w : World) (v : Value) (e : Ending) (w' : World) : Prop :=
  e = .returned v ∧ Pair B w0 da A db D w' ∧ w.heap.size ≤ w'.heap.size
section
variable {B : Nat} {w0 w w' : World} {da db : Nat} {A A' D D' : Dk}
theorem Pair.bel (h : Pair B w0 da A db D w) : Below B w0 w := by obtain ⟨S, T, h1, h2, h3, h4, h5, h6, h7⟩ := h; exact h6
theorem Pair.size (h : Pair B w0 da A db D w) : B ≤ w.heap.size := by obtain ⟨S, T, h1, h2, h3, h4, h5, h6, h7⟩ := h; exact h7
theorem Pair.below (h : Pair B w0 da A db D w) (hb : Below w.heap.size w w') : Pair B w0 da A db D w' := by
  obtain ⟨S, T, h1, h2, h3, h4, h5, h6, h7⟩ := h
  exact ⟨S, T, h1.below hb, h2.below hb, fun k hk => ⟨(h3 k hk).1, Nat.lt_of_lt_of_le (h3 k hk).2 hb.size⟩, fun k hk => ⟨(h4 k hk).1, Nat.lt_of_lt_of_le (h4 k hk).2 hb.size⟩, h5, bthen h6 h7 hb, Nat.le_trans h7 hb.size⟩
theorem Pair.left {P : Program} {f : FuncId} {args : Array Value} {v : Value} (h : Pair B w0 da A db D w) (hc : ∀ S, DiskAt w S da A → Calls P f args w (DPost S w da A' v)) : Calls P f args w (PPost B w0 da A' db D w v) := by
  obtain ⟨S, T, h1, h2, h3, h4, h5, h6, h7⟩ := h
  refine (hc S h1).mono fun e w' hp => ?_
  obtain ⟨rfl, hd', ht⟩ := hp
  refine ⟨rfl, ⟨_, T, hd', h2.touch ht fun k hk hs => h5 k hs hk, fun k hk => ?_, fun k hk => ⟨(h4 k hk).1, Nat.lt_of_lt_of_le (h4 k hk).2 ht.size⟩, fun k hk hT => ?_, h6.trans (ht.below h7 fun k hk => (h3 k hk).1), Nat.le_trans h7 ht.size⟩, ht.size⟩
  · rcases hk with hk | hk
    · exact ⟨(h3 k hk).1, Nat.lt_of_lt_of_le (h3 k hk).2 ht.size⟩
    · exact ⟨Nat.le_trans h7 hk.1, hk.2⟩
  · rcases hk with hk | hk
    · exact h5 k hk hT
    · have := (h4 k hT).2; omega
theorem Pair.right {P : Program} {f : FuncId} {args : Array Value} {v : Value} (h : Pair B w0 da A db D w) (hc : ∀ S, RefAt w S db D → Calls P f args w (RPost S w db D' v)) : Calls P f args w (PPost B w0 da A db D' w v) := by
  obtain ⟨S, T, h1, h2, h3, h4, h5, h6, h7⟩ := h
  refine (hc T h2).mono fun e w' hp => ?_
  obtain ⟨rfl, hd', ht⟩ := hp
  refine ⟨rfl, ⟨S, _, h1.touch ht fun k hk hs => h5 k hk hs, hd', fun k hk => ⟨(h3 k hk).1, Nat.lt_of_lt_of_le (h3 k hk).2 ht.size⟩, fun k hk => ?_, fun k hk hT => ?_, h6.trans (ht.below h7 fun k hk => (h4 k hk).1), Nat.le_trans h7 ht.size⟩, ht.size⟩
  · rcases hk with hk | hk
    · exact ⟨(h4 k hk).1, Nat.lt_of_lt_of_le (h4 k hk).2 ht.size⟩
    · exact ⟨Nat.le_trans h7 hk.1, hk.2⟩
  · rcases hT with hT | hT
    · exact h5 k hk hT
    · have := (h3 k hk).2; omega
theorem Pair.lookl {P : Program} {f : FuncId} {args : Array Value} {R : Ending → World → Prop} (h : Pair B w0 da A db D w) (hc : ∀ S, DiskAt w S da A → Calls P f args w R) : Calls P f args w R := by
  obtain ⟨S, T, h1, _⟩ := h
  exact hc S h1
theorem Pair.lookr {P : Program} {f : FuncId} {args : Array Value} {R : Ending → World → Prop} (h : Pair B w0 da A db D w) (hc : ∀ S, RefAt w S db D → Calls P f args w R) : Calls P f args w R := by
  obtain ⟨S, T, _, h2, _⟩ := h
  exact hc T h2
theorem Lone.pair (h : Lone (fun _ => False) B w0 da A w) (hd : RefAt w' (fun k => w.heap.size ≤ k ∧ k < w'.heap.size) db D) (hb : Below w.heap.size w w') : Pair B w0 da A db D w' := by
  obtain ⟨⟨S, h1, hs⟩, h2, h3, h4⟩ := h
  exact ⟨S, _, h1.below hb, hd, fun k hk => ⟨(hs k hk).1, Nat.lt_of_lt_of_le (hs k hk).2.1 hb.size⟩, fun k hk => ⟨Nat.le_trans h3 hk.1, hk.2⟩, fun k hk ht => by have := (hs k hk).2.1; omega, bthen h2 h3 hb, Nat.le_trans h3 hb.size⟩
end
theorem rnew_bound (w : World) (n : Nat) (h1 : 1 ≤ n) (h2 : n ≤ 4000) :
    Calls Try.prog 15 #[.int .i64 (n : Int)] w fun e w' => e = .returned (.pointer (some ⟨w.heap.size, 0, none⟩)) ∧ RefAt w' (fun k => w.heap.size ≤ k ∧ k < w'.heap.size) w.heap.size (Dk.new n) ∧ Below w.heap.size w w' := by
  refine (rnew_yes w n h1 h2).mono ?_
  rintro e w' ⟨rfl, hd, hb⟩
  exact ⟨rfl, hd.tight, hb⟩

set_option maxHeartbeats 400000 in
theorem match_no (w : World) (r : Int) (n : Int) (A1 : Option Addr) (n1 c1 : Nat) (l1 : List Ac) (hl1 : ActsAt w A1 n1 l1) (hk : okA l1 = false) :
    Calls Try.prog 3 #[.int .u8 r, .int .i64 n, .slice A1 n1 c1] w fun e w' => e = .returned (.bool true) ∧ Below w.heap.size w w' := by
  have HL1 := Lib.hid hl1
  clear hl1
  go_enter Try.func3, Try.ntmps3
  go_wp2_with fail
  refine (head_any w).mono ?_
  rintro e w1 ⟨rfl, hb⟩
  have HB := Lib.hid hb
  have hz1 := hb.size
  clear hb
  go_wp2_with fail
  refine (ok_any w1 A1 n1 c1 l1 (HL1.out.below HB.out)).mono ?_
  rintro e w2 ⟨rfl, rfl⟩
  rw [hk]
  clear hk
  go_wp2
  go_ret
  exact ⟨rfl, HB.out⟩

set_option maxRecDepth 100000 in
set_option maxHeartbeats 1000000 in
theorem match_yes (w : World) (r : Int) (h0 : 0 ≤ r) (h1 : r ≤ 255) (n : Int) (n0 : -9223372036854775808 ≤ n) (n9 : n ≤ 9223372036854775807) (A1 : Option Addr) (n1 c1 : Nat) (l1 : List Ac) (hl1 : ActsAt w A1 n1 l1) (hk_l1 : okA l1 = true) :
    Calls Try.prog 3 #[.int .u8 r, .int .i64 n, .slice A1 n1 c1] w fun e w' => e = .returned (.bool true) ∧ Below w.heap.size w w' := by
  have hn1 : n1 ≤ 60 := by have := okA_len hk_l1; rw [hl1.len] at this; exact this
  have HL1 := Lib.hid hl1
  have HK1 := Lib.hid hk_l1
  obtain ⟨N, hN⟩ : ∃ N, N = sizeN r := ⟨_, rfl⟩
  have hN1 : 1 ≤ N := by rw [hN]; exact sizeN_lo r h0
  have hN2 : N ≤ 12 := by rw [hN]; exact sizeN_hi r h0
  have HSZ := Lib.hid (fun W => size_any W r h0 h1)
  rw [← hN] at HSZ
  clear hN
  have HQ1 := Lib.hid (show ∀ k, ((Dk.new N).run (l1.take k)).q.length < 1000000 from fun k => by
    have h := Dk.run_q (l1.take k) (Dk.new N)
    have h2 := List.length_take_le' k l1
    have h3 := okA_len hk_l1
    simp only [Dk.new, List.length_nil] at h
    exact Nat.lt_of_le_of_lt h (by omega))
  clear hl1 hk_l1 h0 h1
  go_enter Try.func3, Try.ntmps3
  go_wp2_with fail
  refine (head_any w).mono ?_
  rintro e w1 ⟨rfl, hb⟩
  have HB := Lib.hid hb
  have hz1 := hb.size
  clear hb
  go_wp2_with fail
  refine (ok_any w1 A1 n1 c1 l1 (HL1.out.below HB.out)).mono ?_
  rintro e w2 ⟨rfl, rfl⟩
  rw [HK1.out]
  go_wp2_with fail
  have hstep : Calls Try.prog 13 #[.int .i64 n] w1 fun e w' => (∃ p, e = .returned (.pointer p) ∧ ((1 ≤ n ∧ n ≤ 4000 ∧ p = some ⟨w1.heap.size + 1, 0, none⟩) ∨ (n < 1 ∧ p = none) ∨ (1 ≤ n ∧ 4000 < n ∧ p = none))) ∧ Below w1.heap.size w1 w' := by
    by_cases hv : 1 ≤ n ∧ n ≤ 4000
    · obtain ⟨m, rfl⟩ := Int.eq_ofNat_of_zero_le (show 0 ≤ n by omega)
      refine (new_yes w1 m (by omega) (by omega)).mono ?_
      rintro e w' ⟨rfl, _, hb⟩
      exact ⟨⟨_, rfl, .inl ⟨hv.1, hv.2, rfl⟩⟩, hb⟩
    · refine (new_no w1 n hv).mono ?_
      rintro e w' ⟨rfl, rfl⟩
      refine ⟨⟨_, rfl, .inr ?_⟩, Below.refl _ _⟩
      by_cases h : n < 1
      · exact .inl ⟨h, rfl⟩
      · exact .inr ⟨by omega, by omega, rfl⟩
  have HST := Lib.hid hstep
  clear hstep
  refine HST.out.mono ?_
  rintro e w2 ⟨⟨p, rfl, hp⟩, hb⟩
  have HB2 := Lib.hid (bthen HB.out hz1 hb)
  have hz2 := Nat.le_trans hz1 hb.size
  clear hb HST
  rcases hp with ⟨v1, v2, rfl⟩ | ⟨v1, rfl⟩ | ⟨v1, v2, rfl⟩
  all_goals
    go_wp2_with fail
    refine (HSZ.out w2).mono ?_
    rintro e w3 ⟨rfl, rfl⟩
    go_wp2_with fail
    refine (new_bound w2 N hN1 (by omega)).mono ?_
    rintro e w3 ⟨rfl, hd, hb⟩
    have HD := Lib.hid (Lone.new hd HB2.out hz2 hb)
    clear hd hb
    obtain ⟨da, hdb⟩ : ∃ da, da = w2.heap.size + 1 := ⟨_, rfl⟩
    rw [← hdb] at HD ⊢
    clear hdb
    go_wp2_with fail
    refine (HSZ.out w3).mono ?_
    rintro e w4 ⟨rfl, rfl⟩
    go_wp2_with fail
    refine (rnew_bound w3 N hN1 (by omega)).mono ?_
    rintro e w4 ⟨rfl, hd, hb⟩
    have HT := Lib.hid (HD.out.pair hd hb)
    clear hd hb HD
    obtain ⟨db, hdb⟩ : ∃ db, db = w3.heap.size := ⟨_, rfl⟩
    rw [← hdb] at HT ⊢
    clear hdb
    go_wp2_with fail
    go_loopw [10] (fun i wr => ∃ k : Nat, k ≤ n1 ∧ i = .int .i64 (k : Int) ∧ Pair w.heap.size w da ((Dk.new N).run (l1.take k)) db ((Dk.new N).run (l1.take k)) wr) (fun i _ => n1 - (intOf i).toNat)
    case atStart => exact ⟨0, Nat.zero_le _, rfl, HT.out⟩
    case round =>
      obtain ⟨k, hk, rfl, hrel⟩ := hrel
      have HR := Lib.hid hrel
      clear hrel
      by_cases hlt : k < n1
      · obtain ⟨b, o, kind, sector, bytes, t, odd, after, rfl, hbl, hget, hwf, a0, a1, a2, a3, a4, a5⟩ := HL1.out.get HR.out.bel hlt
        have HA := Lib.hid (show ActCells wr b o k ⟨kind, sector, bytes, t, odd, after⟩ from ⟨a0, a1, a2, a3, a4, a5⟩)
        have hc := HR.out.left (fun S hS => do_any wr S _ _ ⟨kind, sector, bytes, t, odd, after⟩ hwf hS (HQ1.out k))
        have hd2 := fun W A2 (h : Pair w.heap.size w da A2 db ((Dk.new N).run (l1.take k)) W) => h.right (fun S hS => want_any W S _ _ ⟨kind, sector, bytes, t, odd, after⟩ hwf hS (HQ1.out k))
        have hrt := Dk.run_take (Dk.new N) l1 k _ hget
        obtain ⟨R, hR⟩ : ∃ R, ((Dk.new N).run (l1.take k)).act ⟨kind, sector, bytes, t, odd, after⟩ = R := ⟨_, rfl⟩
        rw [hR] at hc hd2 hrt
        obtain ⟨RD, Rs, Re⟩ := R
        simp only at hc hd2 hrt
        unfold Ac.cells at hc hd2
        simp only at hc hd2
        have HC := Lib.hid hc
        have HD2 := Lib.hid hd2
        have HRT := Lib.hid hrt
        have hbl1 := hbl.1
        clear hget hwf hbl hc hd2 hrt hR
        go_wp2_with fail
        refine HC.out.mono ?_
        intro e w4 hp
        obtain ⟨rfl, hl, hs⟩ := hp
        obtain ⟨b0, b1, b2, b3, b4, b5⟩ := HA.out.move (acts_moved HR.out.bel hl.bel hbl1)
        simp only at b0 b1 b2 b3 b4 b5
        have HL4 := Lib.hid hl
        clear hl hs HC a0 a1 a2 a3 a4 a5
        go_wp2_with fail
        refine (HD2.out _ _ HL4.out).mono ?_
        intro e w5 hp
        obtain ⟨rfl, hl, hs⟩ := hp
        have HL5 := Lib.hid hl
        clear hl hs HD2
        go_wp2
        go_roundw
        case rel => exact ⟨k + 1, by omega, by go_num, by rw [HRT.out]; exact HL5.out⟩
        case measure => simp [intOf]; omega
      · obtain rfl : k = n1 := by omega
        have e1 : (Dk.new N).run (l1.take k) = (Dk.new N).run l1 := by rw [List.take_of_length_le (by rw [HL1.out.len]; omega)]
        rw [e1] at HR
        clear hlt hk e1 HT
        obtain ⟨D0, hD0⟩ : ∃ D0, D0 = (Dk.new N).run l1 := ⟨_, rfl⟩
        rw [← hD0] at HR
        have HQ0 := Lib.hid (show D0.q.length ≤ 1000000 by
          have h := Dk.run_q l1 (Dk.new N)
          rw [← hD0] at h
          simp only [Dk.new, List.length_nil] at h
          have := HL1.out.len
          omega)
        clear hD0
        go_wp2_with fail
        go_loopw [15] (fun i wr => ∃ k : Nat, k ≤ N ∧ i = .int .i64 (k : Int) ∧ Pair w.heap.size w da D0 db D0 wr) (fun i _ => N - (intOf i).toNat)
        case atStart => exact ⟨0, Nat.zero_le _, rfl, HR.out⟩
        case round =>
          obtain ⟨k, hk, rfl, hrel⟩ := hrel
          have HS := Lib.hid hrel
          clear hrel
          go_wp2_with fail
          refine (HSZ.out _).mono ?_
          rintro e w4 ⟨rfl, rfl⟩
          by_cases hlt : k < N
          · have hc := HS.out.lookl (fun S hS => read_any _ S _ _ (k : Int) hS HQ0.out)
            have hd2 := fun W (h : Pair w.heap.size w da D0 db D0 W) => h.lookr (fun S hS => rread_any W S _ _ (k : Int) hS HQ0.out)
            obtain ⟨R, hR⟩ : ∃ R, D0.read (k : Int) = R := ⟨_, rfl⟩
            unfold ReadPost at hc
            rw [hR] at hc hd2
            obtain ⟨Rs, Re⟩ := R
            simp only at hc hd2
            have HC := Lib.hid hc
            have HD2 := Lib.hid hd2
            clear hc hd2 hR
            go_wp2_with fail
            refine HC.out.mono ?_
            rintro e w5 ⟨rfl, hb⟩
            have HS2 := Lib.hid (HS.out.below hb)
            clear hb HC
            go_wp2_with fail
            refine (HD2.out _ HS2.out).mono ?_
            rintro e w6 ⟨rfl, rfl⟩
            go_wp2
            go_roundw
            case rel => exact ⟨k + 1, by omega, by go_num, HS2.out⟩
            case measure => simp [intOf]; omega
          · obtain rfl : k = N := by omega
            clear hlt hk
            go_wp2
            go_ret
            exact ⟨rfl, HS.out.bel⟩

theorem match_walk (w : World) (r : Int) (h0 : 0 ≤ r) (h1 : r ≤ 255) (n : Int) (n0 : -9223372036854775808 ≤ n) (n9 : n ≤ 9223372036854775807) (A1 : Option Addr) (n1 c1 : Nat) (l1 : List Ac) (hl1 : ActsAt w A1 n1 l1) :
    Calls Try.prog 3 #[.int .u8 r, .int .i64 n, .slice A1 n1 c1] w fun e w' => e = .returned (.bool true) ∧ Below w.heap.size w w' := by
  cases hk : okA l1 with
  | false => exact match_no w r n A1 n1 c1 l1 hl1 hk
  | true => exact match_yes w r h0 h1 n n0 n9 A1 n1 c1 l1 hl1 hk
end Go.Proofs.Ythcjlohdfcdloaa
