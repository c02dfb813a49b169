/- The walk of DiskDamage. -/
import Derived.Test.YthcjlohdfcdloaaLawMore
set_option linter.unusedVariables false
set_option linter.unusedSimpArgs false
namespace Go.Proofs.Ythcjlohdfcdloaa
open Go.RowKit

theorem xor_bytes (a b : UInt8) : bits .xor .u8 (a.toNat : Int) (b.toNat : Int) = ((a ^^^ b).toNat : Int) := by
  rw [u8_xor a (b.toNat : Int) (by omega) (by have := b.toNat_lt; omega), Int.toNat_natCast, UInt8.ofNat_toNat]

theorem Dk.rot_rot (D : Dk) (i j m : Int) (hI : D.Inv) : (D.rot i j m).rot i j m = D := by
  by_cases h : D.rotOk i j m = true
  · have h0 : D.rot i j m = { D with st := D.st.set i.toNat (flip (D.st.getD i.toNat []) j.toNat m) } := by unfold rot; rw [if_pos h]
    have h1 : (D.rot i j m).rotOk i j m = true := by
      rw [h0]
      unfold rotOk valid at h ⊢
      simpa using h
    have hi : i.toNat < D.st.length := by
      simp only [rotOk, valid, Bool.and_eq_true, decide_eq_true_eq] at h
      omega
    rw [h0] at h1 ⊢
    unfold rot
    rw [if_pos h1]
    have e : flip ((D.st.set i.toNat (flip (D.st.getD i.toNat []) j.toNat m)).getD i.toNat []) j.toNat m = D.st.getD i.toNat [] := by
      rw [List.getD_eq_getElem?_getD, List.getElem?_set_self hi, Option.getD_some]
      generalize D.st.getD i.toNat [] = bs
      unfold flip
      rw [List.set_set]
      by_cases hj : j.toNat < bs.length
      · rw [List.getD_eq_getElem?_getD, List.getElem?_set_self hj, Option.getD_some, UInt8.xor_assoc, UInt8.xor_self, UInt8.xor_zero, List.getD_eq_getElem?_getD, List.getElem?_eq_getElem hj, Option.getD_some, List.set_getElem_self]
      · rw [List.set_eq_of_length_le (by omega)]
    simp only
    rw [e, List.set_set]
    have e2 : D.st.set i.toNat (D.st.getD i.toNat []) = D.st := by
      rw [List.getD_eq_getElem?_getD, List.getElem?_eq_getElem hi, Option.getD_some, List.set_getElem_self]
    rw [e2]
  · have h0 : D.rot i j m = D := by unfold rot; rw [if_neg h]
    rw [h0, h0]

/-- The byte k of sector i, before and behind Rot. -/
theorem Dk.rot_byte (D : Dk) (hq : D.q = []) (i j m : Int) (hI : D.Inv) (a k : Nat) (ha : a < D.st.length) (hk : k < 64) (h1 : k < (D.cur a).size) (h2 : k < ((D.rot i j m).cur a).size) :
    ((((D.cur a)[k]'h1) ^^^ (((D.rot i j m).cur a)[k]'h2)).toNat : Int) = if D.rotOk i j m = true ∧ (a : Int) = i ∧ (k : Int) = j then m else 0 := by
  have hq2 : (D.rot i j m).q = [] := by unfold rot; split <;> simp [hq]
  have hl : (D.st.getD a []).length = 64 := getD_len hI.sec ha
  have key : ∀ (D' : Dk) (h' : D'.q = []) (hh : k < (D'.cur a).size), (D'.cur a)[k]'hh = (D'.st.getD a []).getD k 0 := by
    intro D' h' hh
    have e := cur_quiet D' h' a
    have : ∀ (b : ByteArray) (hb : b = str (D'.st.getD a [])) (hk' : k < b.size), b[k]'hk' = (D'.st.getD a []).getD k 0 := by
      rintro b rfl hk'
      have : k < (D'.st.getD a []).length := by simpa [str, ByteArray.size] using hk'
      rw [List.getD_eq_getElem?_getD (l := D'.st.getD a []), List.getElem?_eq_getElem this, Option.getD_some]
      rfl
    exact this _ e hh
  rw [key D hq h1, key _ hq2 h2]
  by_cases h : D.rotOk i j m = true
  · have h0 : (D.rot i j m).st = D.st.set i.toNat (flip (D.st.getD i.toNat []) j.toNat m) := by unfold rot; rw [if_pos h]
    have hb := h
    simp only [rotOk, valid, Bool.and_eq_true, decide_eq_true_eq] at hb
    rw [h0]
    by_cases hai : (a : Int) = i
    · obtain rfl : i.toNat = a := by omega
      rw [List.getD_eq_getElem?_getD (l := D.st.set _ _), List.getElem?_set_self ha, Option.getD_some]
      unfold flip
      by_cases hkj : (k : Int) = j
      · obtain rfl : j.toNat = k := by omega
        rw [List.getD_eq_getElem?_getD (l := List.set _ _ _), List.getElem?_set_self (by omega), Option.getD_some, ← UInt8.xor_assoc, UInt8.xor_self, UInt8.zero_xor, if_pos ⟨h, hai, hkj⟩, UInt8.toNat_ofNat_of_lt' (by simp [UInt8.size]; omega)]
        omega
      · rw [List.getD_eq_getElem?_getD (l := List.set _ _ _), List.getElem?_set_ne (by omega), ← List.getD_eq_getElem?_getD, UInt8.xor_self, if_neg (fun e => hkj e.2.2)]
        rfl
    · rw [List.getD_eq_getElem?_getD (l := D.st.set _ _), List.getElem?_set_ne (by omega), ← List.getD_eq_getElem?_getD, UInt8.xor_self, if_neg (fun e => hai e.2.1)]
      rfl
  · have h0 : D.rot i j m = D := by unfold rot; rw [if_neg h]
    rw [h0, UInt8.xor_self, if_neg (fun e => h e.1)]
    rfl

theorem dmg_test (a b : UInt8) (x : Int) (h : ((a ^^^ b).toNat : Int) = x) : (wrap64 (bits .xor .u8 (a.toNat : Int) (b.toNat : Int)) != x) = false := by
  rw [xor_bytes, h]
  have h2 := (a ^^^ b).toNat_lt
  have : wrap64 x = x := by unfold wrap64; omega
  rw [this]
  simp
def DmgRel (w0 w : World) (D D2 : Dk) (N g g2 : Nat) : Prop :=
  Below w0.heap.size w0 w ∧ (∀ k, k < N → w.cell? ⟨g, k, none⟩ = some (.string (D.cur k))) ∧ (∀ k, k < N → w.cell? ⟨g2, k, none⟩ = some (.string (D2.cur k)))
theorem DmgRel.drewN {w0 w : World} {D D2 : Dk} {N g g2 : Nat} (h : DmgRel w0 w D D2 N g g2) (n : Nat) : DmgRel w0 (w.drewN n) D D2 N g g2 :=
  ⟨h.1.trans ⟨rfl, rfl, rfl, Nat.le_refl _, fun _ _ => rfl⟩, h.2⟩

set_option maxHeartbeats 400000 in
theorem damage_no (w : World) (r : Int) (h0 : 0 ≤ r) (h1 : r ≤ 255) (A1 : Option Addr) (n1 c1 : Nat) (l1 : List Ac) (hl1 : ActsAt w A1 n1 l1) (s : Int) (s0 : -9223372036854775808 ≤ s) (s1 : s ≤ 9223372036854775807) (j : Int) (j0 : -9223372036854775808 ≤ j) (j1 : j ≤ 9223372036854775807) (m : Int) (m0 : -9223372036854775808 ≤ m) (m1 : m ≤ 9223372036854775807) (hk : okA l1 = false) :
    Calls Try.prog 9 #[.int .u8 r, .slice A1 n1 c1, .int .i64 s, .int .i64 j, .int .i64 m] w fun e w' => e = .returned (.bool true) ∧ Below w.heap.size w w' := by
  have HL1 := Lib.hid hl1
  clear hl1
  go_enter Try.func9, Try.ntmps9
  go_wp2_with fail
  refine (head_any w).mono ?_
  rintro e w1 ⟨rfl, hb⟩
  have HB := Lib.hid hb
  have hz1 := hb.size
  clear hb
  go_wp2_with fail
  refine (ok_any w1 A1 n1 c1 l1 (HL1.out.below HB.out)).mono ?_
  rintro e w2 ⟨rfl, rfl⟩
  rw [hk]
  clear hk
  go_wp2
  go_ret
  exact ⟨rfl, HB.out⟩

set_option maxRecDepth 100000 in
set_option maxHeartbeats 2000000 in
theorem damage_yes (w : World) (r : Int) (h0 : 0 ≤ r) (h1 : r ≤ 255) (A1 : Option Addr) (n1 c1 : Nat) (l1 : List Ac) (hl1 : ActsAt w A1 n1 l1) (s : Int) (s0 : -9223372036854775808 ≤ s) (s1 : s ≤ 9223372036854775807) (j : Int) (j0 : -9223372036854775808 ≤ j) (j1 : j ≤ 9223372036854775807) (m : Int) (m0 : -9223372036854775808 ≤ m) (m1 : m ≤ 9223372036854775807) (hk_l1 : okA l1 = true) :
    Calls Try.prog 9 #[.int .u8 r, .slice A1 n1 c1, .int .i64 s, .int .i64 j, .int .i64 m] w fun e w' => e = .returned (.bool true) ∧ Below w.heap.size w w' := by
  have hn1 : n1 ≤ 60 := by have := okA_len hk_l1; rw [hl1.len] at this; exact this
  have HL1 := Lib.hid hl1
  have HK1 := Lib.hid hk_l1
  obtain ⟨N, hN⟩ : ∃ N, N = sizeN r := ⟨_, rfl⟩
  have hN1 : 1 ≤ N := by rw [hN]; exact sizeN_lo r h0
  have hN2 : N ≤ 12 := by rw [hN]; exact sizeN_hi r h0
  have HSZ := Lib.hid (fun W => size_any W r h0 h1)
  rw [← hN] at HSZ
  clear hN
  have HQ1 := Lib.hid (show ∀ k, ((Dk.new N).run (l1.take k)).q.length < 1000000 from fun k => by
    have h := Dk.run_q (l1.take k) (Dk.new N)
    have h2 := List.length_take_le' k l1
    have h3 := okA_len hk_l1
    simp only [Dk.new, List.length_nil] at h
    exact Nat.lt_of_le_of_lt h (by omega))
  clear hl1 hk_l1 h0 h1
  go_enter Try.func9, Try.ntmps9
  go_wp2_with fail
  refine (head_any w).mono ?_
  rintro e w1 ⟨rfl, hb⟩
  have HB := Lib.hid hb
  have hz1 := hb.size
  clear hb
  go_wp2_with fail
  refine (ok_any w1 A1 n1 c1 l1 (HL1.out.below HB.out)).mono ?_
  rintro e w2 ⟨rfl, rfl⟩
  rw [HK1.out]
  go_wp2_with fail
  refine (HSZ.out w1).mono ?_
  rintro e w2 ⟨rfl, rfl⟩
  go_wp2_with fail
  refine (new_bound w1 N hN1 (by omega)).mono ?_
  rintro e w2 ⟨rfl, hd, hb⟩
  have HD := Lib.hid (Lone.new hd HB.out hz1 hb)
  clear hd hb
  obtain ⟨db, hdb⟩ : ∃ db, db = w1.heap.size + 1 := ⟨_, rfl⟩
  rw [← hdb] at HD ⊢
  clear hdb
  go_wp2_with fail
  go_loopw [14] (fun i wr => ∃ k : Nat, k ≤ n1 ∧ i = .int .i64 (k : Int) ∧ Lone (fun _ => False) w.heap.size w db ((Dk.new N).run (l1.take k)) wr) (fun i _ => n1 - (intOf i).toNat)
  case atStart => exact ⟨0, Nat.zero_le _, rfl, HD.out⟩
  case round =>
    obtain ⟨k, hk, rfl, hrel⟩ := hrel
    have HR := Lib.hid hrel
    clear hrel
    by_cases hlt : k < n1
    · obtain ⟨b, o, kind, sector, bytes, t, odd, after, rfl, hbl, hget, hwf, a0, a1, a2, a3, a4, a5⟩ := HL1.out.get HR.out.bel hlt
      have HC := Lib.hid (HR.out.step (fun S hS => do_any wr S _ _ ⟨kind, sector, bytes, t, odd, after⟩ hwf hS (HQ1.out k)))
      have HG := Lib.hid hget
      clear hget hwf
      unfold Ac.cells at HC
      simp only at HC
      go_wp2_with fail
      refine HC.out.mono ?_
      intro e w2 hp
      obtain ⟨rfl, hl, hg, hs⟩ := hp
      have HL2 := Lib.hid hl
      clear hl hg hs HC
      go_wp2
      go_roundw
      case rel => exact ⟨k + 1, by omega, by go_num, by rw [Dk.run_take _ _ _ _ HG.out]; exact HL2.out⟩
      case measure => simp [intOf]; omega
    · obtain rfl : k = n1 := by omega
      have e1 : (Dk.new N).run (l1.take k) = (Dk.new N).run l1 := by rw [List.take_of_length_le (by rw [HL1.out.len]; omega)]
      rw [e1] at HR
      clear hlt hk e1 HD
      obtain ⟨D0, hD0⟩ : ∃ D0, D0 = (Dk.new N).run l1 := ⟨_, rfl⟩
      rw [← hD0] at HR
      have HN0 := Lib.hid (show D0.st.length = N by rw [hD0, Dk.run_n]; simp [Dk.new])
      have HQ0 := Lib.hid (show D0.q.length ≤ 60 by
        have h := Dk.run_q l1 (Dk.new N)
        rw [← hD0] at h
        simp only [Dk.new, List.length_nil] at h
        have := HL1.out.len
        omega)
      clear hD0
      go_wp2_with fail
      refine (HR.out.step (fun S hS => start_c _ S _ _ hS)).mono ?_
      intro e w4 hp
      obtain ⟨rfl, hl, hg, hs⟩ := hp
      have HS1 := Lib.hid hl
      clear hl hg hs
      have HQS := Lib.hid (show D0.start.q.length ≤ 1000000 from Nat.le_trans HQ0.out (by omega))
      go_wp2_with fail
      refine (HS1.out.step (fun S hS => sync_any w4 S _ _ hS HQS.out)).mono ?_
      intro e w5 hp
      rw [Dk.start_sync] at hp
      simp only at hp
      obtain ⟨rfl, hl, hg, hs⟩ := hp
      obtain ⟨D1, hD1⟩ : ∃ D1 : Dk, D1 = { st := Dk.settle D0.st D0.q, q := [], off := false, al := none } := ⟨_, rfl⟩
      rw [← hD1] at hl
      have HL5 := Lib.hid hl
      have HN1 := Lib.hid (show D1.st.length = N by rw [hD1, ← HN0.out]; exact Dk.settle_length _ _)
      have HE1 := Lib.hid (show D1.q = [] by rw [hD1])
      have HO1 := Lib.hid (show D1.off = false by rw [hD1])
      clear hl hg hs hD1 HS1 HQS HR HN0 HQ0
      go_wp2_with fail
      refine (HL5.out.look (fun S hS => contents_row w5 S _ _ hS HO1.out (by rw [HE1.out]; simp) N HN1.out.symm)).mono ?_
      rintro e w6 ⟨g, c6, rfl, hg, hc, hown, hb⟩
      have HL6 := Lib.hid (HL5.out.guard hb (fun k => k = g) (fun k e => by rw [e]; exact hg))
      have HC6 := Lib.hid hc
      have HO6 := Lib.hid hown
      clear hg hc hown hb
      have hI1 := HL6.out.inv
      have HI1 := Lib.hid hI1
      have hr1 : (D1.rot s j m).off = false ∧ (D1.rot s j m).q = [] ∧ (D1.rot s j m).st.length = N := by
        unfold Dk.rot
        split
        · exact ⟨HO1.out, HE1.out, by simp [HN1.out]⟩
        · exact ⟨HO1.out, HE1.out, HN1.out⟩
      have HR1 := Lib.hid hr1
      have HRR := Lib.hid (Dk.rot_rot D1 s j m hI1)
      clear hI1 hr1
      go_wp2_with fail
      refine (HL6.out.step (fun S hS => rot_any w6 S _ _ s j m hS)).mono ?_
      intro e w7 hp
      obtain ⟨rfl, hl, hgk, hs⟩ := hp
      have HL7 := Lib.hid hl
      have p7 := hgk g (.inr rfl)
      clear hl hgk hs
      go_wp2_with fail
      refine (HL7.out.look (fun S hS => contents_row w7 S _ _ hS HR1.out.1 (by rw [HR1.out.2.1]; simp) N HR1.out.2.2.symm)).mono ?_
      rintro e w8 ⟨g2, c8, rfl, hg, hc, hown, hb⟩
      have HL8 := Lib.hid (HL7.out.guard hb (fun k => k = g2) (fun k e => by rw [e]; exact hg))
      have HC8 := Lib.hid hc
      have p8 := (hb.block g (HL7.out.2.2.2 g (.inr rfl))).trans p7
      clear hg hc hown hb p7
      go_wp2_with fail
      refine (HL8.out.step (fun S hS => rot_any w8 S _ _ s j m hS)).mono ?_
      intro e w9 hp
      rw [HRR.out] at hp
      obtain ⟨rfl, hl, hgk, hs⟩ := hp
      have HL9 := Lib.hid hl
      have p9 := (hgk g (.inl (.inr rfl))).trans p8
      have q9 := hgk g2 (.inr rfl)
      clear hl hgk hs p8
      go_wp2_with fail
      refine (HL9.out.look (fun S hS => contents_row w9 S _ _ hS HO1.out (by rw [HE1.out]; simp) N HN1.out.symm)).mono ?_
      rintro e w10 ⟨g3, c10, rfl, hg, hc, hown, hb⟩
      have p10 := (hb.block g (HL9.out.2.2.2 g (.inl (.inr rfl)))).trans p9
      have q10 := (hb.block g2 (HL9.out.2.2.2 g2 (.inr rfl))).trans q9
      have HO10 := Lib.hid hown
      have HB10 := Lib.hid (bthen HL9.out.bel HL9.out.size hb)
      have HO6' := Lib.hid (own_of_block HO6.out p10)
      have HREL := Lib.hid (show DmgRel w w10 D1 (D1.rot s j m) N g g2 from ⟨HB10.out, fun k hk => (World.cell?_of_block (a := ⟨g, k, none⟩) p10).trans (HC6.out k hk), fun k hk => (World.cell?_of_block (a := ⟨g2, k, none⟩) q10).trans (HC8.out k hk)⟩)
      have hlen : (curs D1).length = N := by simp [curs, HN1.out]
      have hsz : ∀ x ∈ curs D1, x.size ≤ 140737488351232 := fun x hx => by
        obtain ⟨i, hi, rfl⟩ := List.mem_map.1 hx
        have := cur_size HI1.out (i := i) (by simpa using hi)
        omega
      have HSM := Lib.hid (same_yes w10 _ _ _ ⟨by rw [hlen]; exact HO6'.out, hsz⟩ ⟨by rw [hlen]; exact HO10.out, hsz⟩)
      clear hg hc hown hb p9 q9 p10 q10 hlen hsz
      go_wp2_with fail
      refine HSM.out.mono ?_
      rintro e w11 ⟨rfl, hb⟩
      have h0 := HREL.out
      have HREL' := Lib.hid (show DmgRel w w11 D1 (D1.rot s j m) N g g2 from ⟨bthen h0.1 h0.1.size hb, fun k hk => pw_keep (h0.2.1 k hk) hb, fun k hk => pw_keep (h0.2.2 k hk) hb⟩)
      have hw11 := hb.size
      have HOK := Lib.hid (show D1.rotOk s j m = (decide (0 ≤ s) && decide (s < (N : Int)) && decide (0 ≤ j) && decide (j < 64) && decide (0 < m) && decide (m < 256)) by unfold Dk.rotOk Dk.valid; rw [HN1.out])
      clear hb h0 HREL HSM
      obtain ⟨V, hV⟩ : ∃ V, D1.rotOk s j m = V := ⟨_, rfl⟩
      rw [hV] at HOK
      have HV := Lib.hid hV
      clear hV
      go_upto_region 20 with (fail)
      go_cut [21] (fun v wc => v = .bool V ∧ wc = w11)
      case first =>
        go_wp2_with fail
        all_goals
          go_meet
          refine ⟨?_, rfl⟩
          rw [HOK.out]
          congr 1
          rw [Bool.eq_iff_iff]
          simp only [Bool.and_eq_true, decide_eq_true_eq, Bool.false_eq_true, false_iff, true_iff]
          omega
      case rest =>
        obtain ⟨rfl, rfl⟩ := hcut
        have HBYTE := Lib.hid (fun (a k : Nat) (ha : a < D1.st.length) (hk : k < 64) h1 h2 => Dk.rot_byte D1 HE1.out s j m HI1.out a k ha hk h1 h2)
        rw [HV.out] at HBYTE
        have HS1 := Lib.hid (fun (a : Nat) (ha : a < N) => cur_size HI1.out (i := a) (by rw [HN1.out]; exact ha))
        have HS2 := Lib.hid (fun (a : Nat) (ha : a < N) => cur_size (Dk.rot_inv HI1.out s j m) (i := a) (by rw [HR1.out.2.2]; exact ha))
        have HVB := Lib.hid (show V = true → 1 ≤ m ∧ m ≤ 255 from fun e => by
          have h := HOK.out
          rw [e] at h
          have h := h.symm
          simp only [Bool.and_eq_true, decide_eq_true_eq] at h
          omega)
        generalize D1.rot s j m = D2 at HREL' HBYTE HS2
        go_wp2_with fail
        go_loopw [22] (fun v wr => ∃ a : Nat, a ≤ N ∧ v = .int .i64 (a : Int) ∧ DmgRel w wr D1 D2 N g g2) (fun v _ => N - (intOf v).toNat)
        case atStart => exact ⟨0, Nat.zero_le _, rfl, HREL'.out⟩
        case round =>
          obtain ⟨a, ha, rfl, hrel⟩ := hrel
          have HA := Lib.hid hrel
          clear hrel
          by_cases hlt : a < N
          · obtain ⟨wo, rfl⟩ : ∃ wo : World, wo = wr := ⟨_, rfl⟩
            go_wp2_with fail
            go_loopw [23] (fun v wr => ∃ k : Nat, k ≤ 64 ∧ v = .int .i64 (k : Int) ∧ DmgRel w wr D1 D2 N g g2) (fun v _ => 64 - (intOf v).toNat)
            case atStart => exact ⟨0, Nat.zero_le _, rfl, HA.out⟩
            case round =>
              obtain ⟨k, hk, rfl, hrel⟩ := hrel
              have HK := Lib.hid hrel
              clear hrel
              by_cases hk64 : k < 64
              · have r1 := HK.out.2.1 a hlt
                have r2 := HK.out.2.2 a hlt
                have z1 := HS1.out a hlt
                have z2 := HS2.out a hlt
                have hb := HBYTE.out a k (by rw [HN1.out]; exact hlt) hk64
                generalize D1.cur a = b1 at r1 z1 hb
                generalize D2.cur a = b2 at r2 z2 hb
                have hx := hb (by omega) (by omega)
                have HXB := Lib.hid hx
                clear hb hx
                cases V with
                | false =>
                  have ht := dmg_test b1[k] b2[k] 0 (by rw [HXB.out, if_neg (by simp)])
                  go_wp2_with fail
                  go_quiet (fail)
                  go_wp2
                  go_roundw
                  case rel => exact ⟨k + 1, by omega, by go_num, HK.out.drewN _⟩
                  case measure => simp [intOf]; omega
                | true =>
                  have hm := HVB.out rfl
                  have hm1 := hm.1
                  have hm2 := hm.2
                  clear hm
                  by_cases has : (a : Int) = s
                  · have e1 : ((a : Int) == s) = true := by simpa using has
                    by_cases hkj : (k : Int) = j
                    · have e2 : ((k : Int) == j) = true := by simpa using hkj
                      have ht := dmg_test b1[k] b2[k] m (by rw [HXB.out, if_pos ⟨rfl, has, hkj⟩])
                      clear has hkj
                      go_wp2_with fail
                      go_quiet (fail)
                      go_wp2
                      go_roundw
                      case rel => exact ⟨k + 1, by omega, by go_num, HK.out.drewN _⟩
                      case measure => simp [intOf]; omega
                    · have e2 : ((k : Int) == j) = false := by simpa using hkj
                      have ht := dmg_test b1[k] b2[k] 0 (by rw [HXB.out, if_neg (fun e => hkj e.2.2)])
                      clear has hkj
                      go_wp2_with fail
                      go_quiet (fail)
                      go_wp2
                      go_roundw
                      case rel => exact ⟨k + 1, by omega, by go_num, HK.out.drewN _⟩
                      case measure => simp [intOf]; omega
                  · have e1 : ((a : Int) == s) = false := by simpa using has
                    have ht := dmg_test b1[k] b2[k] 0 (by rw [HXB.out, if_neg (fun e => has e.2.1)])
                    clear has
                    go_wp2_with fail
                    go_quiet (fail)
                    go_wp2
                    go_roundw
                    case rel => exact ⟨k + 1, by omega, by go_num, HK.out.drewN _⟩
                    case measure => simp [intOf]; omega
              · go_wp2
                go_roundw
                case rel => exact ⟨a + 1, by omega, by go_num, HK.out⟩
                case measure => simp [intOf]; omega
          · clear ha
            go_wp2
            go_ret
            exact ⟨rfl, HA.out.1⟩

theorem damage_walk (w : World) (r : Int) (h0 : 0 ≤ r) (h1 : r ≤ 255) (A1 : Option Addr) (n1 c1 : Nat) (l1 : List Ac) (hl1 : ActsAt w A1 n1 l1) (s : Int) (s0 : -9223372036854775808 ≤ s) (s1 : s ≤ 9223372036854775807) (j : Int) (j0 : -9223372036854775808 ≤ j) (j1 : j ≤ 9223372036854775807) (m : Int) (m0 : -9223372036854775808 ≤ m) (m1 : m ≤ 9223372036854775807) :
    Calls Try.prog 9 #[.int .u8 r, .slice A1 n1 c1, .int .i64 s, .int .i64 j, .int .i64 m] w fun e w' => e = .returned (.bool true) ∧ Below w.heap.size w w' := by
  cases hk : okA l1 with
  | false => exact damage_no w r h0 h1 A1 n1 c1 l1 hl1 s s0 s1 j j0 j1 m m0 m1 hk
  | true => exact damage_yes w r h0 h1 A1 n1 c1 l1 hl1 s s0 s1 j j0 j1 m m0 m1 hk
end Go.Proofs.Ythcjlohdfcdloaa
