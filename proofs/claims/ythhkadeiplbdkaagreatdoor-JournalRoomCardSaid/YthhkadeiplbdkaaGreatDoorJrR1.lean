/- The reference's texts: digits, Decimal, Joined, Text, Pieces, Long. -/
import Derived.Test.YthhkadeiplbdkaaGreatDoorJrQ
import Derived.Test.YthhkadeiplbdkaaGreatDoorJrW5
set_option linter.unusedVariables false
set_option linter.unusedSimpArgs false
namespace Go.Proofs.YthhkadeiplbdkaaGreatDoor
open Go.RowKit

def d10 : ByteArray := ⟨#[48, 49, 50, 51, 52, 53, 54, 55, 56, 57]⟩
theorem d10_at : ∀ a : Fin 10, d10.extract a.val (a.val + 1) = Dk.str [UInt8.ofNat (48 + a.val)] := by decide +kernel
theorem d10_of (n : Nat) : d10.extract (n % 10) (n % 10 + 1) = Dk.str [UInt8.ofNat (48 + n % 10)] := d10_at ⟨n % 10, Nat.mod_lt _ (by omega)⟩
theorem Jr.pieces_length' (l : List UInt8) : (Jr.pieces l).length = (l.length + 45) / 46 := by simp [Jr.pieces]
/-- The digits of n, all but those of what is left. -/
def DigRel (n m : Nat) (s : List UInt8) : Prop := Lib.decDigits n = (if m = 0 then [] else Lib.decDigits m) ++ s
theorem DigRel.start (n : Nat) : DigRel n (n / 10) [UInt8.ofNat (48 + n % 10)] := by
  unfold DigRel
  rw [Lib.decDigits]
  by_cases h : n < 10
  · rw [dif_pos h, if_pos (by omega), Nat.mod_eq_of_lt h]; rfl
  · rw [dif_neg h, if_neg (by omega)]
theorem DigRel.step {n m : Nat} {s : List UInt8} (h : DigRel n m s) (hm : 0 < m) : DigRel n (m / 10) (UInt8.ofNat (48 + m % 10) :: s) := by
  unfold DigRel at *
  rw [h, if_neg (by omega), Lib.decDigits]
  by_cases h10 : m < 10
  · rw [dif_pos h10, if_pos (by omega), Nat.mod_eq_of_lt h10]; rfl
  · rw [dif_neg h10, if_neg (by omega)]; simp
theorem DigRel.len {n m : Nat} {s : List UInt8} (h : DigRel n m s) (hn : n < 10 ^ 17) : s.length ≤ 18 := by
  obtain ⟨w, h1, h2, h3⟩ := Jr.decs_dig n hn
  have h4 := congrArg List.length h3
  rw [Jr.dig_length, Jr.decs_eq _ (by omega), h] at h4
  rw [List.length_append] at h4
  omega
theorem DigRel.done {n : Nat} {s : List UInt8} (h : DigRel n 0 s) (hn : n < 10 ^ 17) : s = Jr.decs n := by
  unfold DigRel at h
  rw [if_pos rfl, List.nil_append] at h
  rw [← h, Jr.decs_eq _ (by omega)]

set_option maxHeartbeats 400000 in
theorem r1digits_any (w : World) (n : Nat) (hn : n < 10 ^ 17) : Calls Tryz.prog 100 #[.int .u64 (n : Int)] w fun e w' => e = .returned (.string (Dk.str (Jr.decs n))) ∧ w = w' := by
  have HS := Lib.hid (DigRel.start n)
  have HD := Lib.hid (d10_of n)
  have hn2 : n < 100000000000000000 := by omega
  have HN := Lib.hid hn
  go_enter Tryz.func100, Tryz.ntmps100
  go_wp2
  go_loop [0, 3] (fun v t => ∃ (m : Nat) (s : List UInt8), v = .int .u64 (m : Int) ∧ t = .string (Dk.str s) ∧ DigRel n m s ∧ m ≤ n) (fun v _ => (intOf v).toNat)
  case atStart => exact ⟨n / 10, _, by go_num, by rw [← HD.out]; rfl, HS.out, Nat.div_le_self _ _⟩
  case round =>
    obtain ⟨m, s, rfl, rfl, hr, hm⟩ := hrel
    have HR := Lib.hid hr
    clear hr
    by_cases hlt : 0 < m
    · have HX := Lib.hid (HR.out.step hlt)
      have HM := Lib.hid (d10_of m)
      have HCAT : Hid (d10.extract (m % 10) (m % 10 + 1) ++ Dk.str s = Dk.str (UInt8.ofNat (48 + m % 10) :: s)) := Lib.hid (by rw [HM.out, str_append]; rfl)
      have hsl := HR.out.len HN.out
      have hsz : (Dk.str s).size ≤ 18 := by rw [Dk.str_size]; exact hsl
      obtain ⟨ss, hss⟩ : ∃ x, Dk.str s = x := ⟨_, rfl⟩
      rw [hss] at HCAT hsz ⊢
      clear hss hsl
      go_wp2
      go_round
      case rel => exact ⟨m / 10, _, by go_num, by rw [← HCAT.out]; rfl, HX.out, by omega⟩
      case measure => simp [intOf]; omega
    · obtain rfl : m = 0 := by omega
      have HF := Lib.hid (HR.out.done HN.out)
      clear hlt hm
      go_wp2
      go_ret
      rw [HF.out]
      exact ⟨rfl, rfl⟩
set_option maxHeartbeats 400000 in
theorem r1decimal_any (w : World) (n : Nat) (hn : n < 10 ^ 17) : Calls Tryz.prog 78 #[.int .i64 (n : Int)] w fun e w' => e = .returned (.string (Dk.str (Jr.decs n))) ∧ w = w' := by
  have HC := Lib.hid (r1digits_any w n hn)
  have hn2 : n < 100000000000000000 := by omega
  clear hn
  go_enter Tryz.func78, Tryz.ntmps78
  go_wp2_with fail
  refine HC.out.mono ?_
  rintro e w1 ⟨rfl, rfl⟩
  go_wp2
  go_ret
  exact ⟨rfl, rfl⟩
set_option maxHeartbeats 400000 in
theorem long_any (w : World) (A : Option Addr) (c : Nat) (xs : List (List UInt8)) (hx : Strs w A xs) (hs : ∀ x ∈ xs, x.length ≤ 1000000) : Calls Tryz.prog 12 #[.slice A xs.length c] w fun e w' => e = .returned (.bool (Jr.long xs)) ∧ w = w' := by
  have HX := Lib.hid hx
  have HS := Lib.hid hs
  have hm := hx.len
  obtain ⟨N, hN⟩ : ∃ N, xs.length = N := ⟨_, rfl⟩
  have HN := Lib.hid hN
  rw [hN] at hm ⊢
  obtain ⟨r, hr⟩ : ∃ r, Jr.long xs = r := ⟨_, rfl⟩
  have HR := Lib.hid hr
  rw [hr]
  clear hx hs hN hr
  go_enter Tryz.func12, Tryz.ntmps12
  go_wp2
  go_loop [3] (fun i => ∃ k : Nat, k ≤ N ∧ i = .int .i64 (k : Int) ∧ Jr.long (xs.take k) = false) (fun i => N - (intOf i).toNat)
  case atStart => exact ⟨0, Nat.zero_le _, rfl, rfl⟩
  case round =>
    obtain ⟨k, hk, rfl, hl⟩ := hrel
    have HL := Lib.hid hl
    clear hl
    by_cases hlt : k < N
    · obtain ⟨b, o, rfl, hbl, hc⟩ := HX.out.at_ (by rw [HN.out]; omega)
      have hkx : k < xs.length := by rw [HN.out]; exact hlt
      have q1 := hc k hkx
      have HG := Lib.hid (List.getElem?_eq_getElem hkx)
      have hxl := HS.out _ (List.getElem_mem hkx)
      obtain ⟨x, hxe⟩ : ∃ x, xs[k] = x := ⟨_, rfl⟩
      rw [hxe] at q1 HG hxl
      have hsz : (Dk.str x).size = x.length := Dk.str_size x
      have k0 : (0 : Int) ≤ (k : Int) := by omega
      have k1 : (k : Int) < (N : Int) := by omega
      obtain ⟨s, hs⟩ : ∃ s, Dk.str x = s := ⟨_, rfl⟩
      rw [hs] at q1 hsz
      have HMEM := Lib.hid (List.getElem_mem hkx)
      rw [hxe] at HMEM
      clear hc hkx hxe hs
      by_cases h1 : 20000 < x.length
      · have HF : Hid (r = true) := Lib.hid (by
          rw [← HR.out]
          unfold Jr.long
          exact List.any_eq_true.2 ⟨x, HMEM.out, by simpa using h1⟩)
        have h2 : (20000 : Int) < (s.size : Int) := by omega
        clear hsz h1 hxl
        go_wp2
        go_ret
        rw [HF.out]
        exact ⟨rfl, rfl⟩
      · have HF : Hid (Jr.long (xs.take (k + 1)) = false) := Lib.hid (by
          have e : xs.take (k + 1) = xs.take k ++ [x] := by rw [List.take_add_one, HG.out]; rfl
          rw [e]
          have := HL.out
          unfold Jr.long at *
          rw [List.any_append, this]
          simp; omega)
        have h2 : ¬ (20000 : Int) < (s.size : Int) := by omega
        clear hsz h1 hxl
        go_wp2
        go_round
        case rel => exact ⟨k + 1, by omega, by go_num, HF.out⟩
        case measure => simp [intOf]; omega
    · obtain rfl : N = k := by omega
      have HF : Hid (r = false) := Lib.hid (by
        have h := HL.out
        rw [List.take_of_length_le (Nat.le_of_eq HN.out)] at h
        rw [← HR.out, h])
      clear hlt hk
      go_wp2
      go_ret
      rw [HF.out]
      exact ⟨rfl, rfl⟩
def PiecesPost (w : World) (t : List UInt8) (e : Ending) (w' : World) : Prop :=
  ∃ v, e = .returned v ∧ w'.ownsRow w.heap.size 9 1 v (Jr.pieces t).length (strL (Jr.pieces t)) ∧ Below w.heap.size w w'
theorem pieces_take (t : List UInt8) (k : Nat) (h : 46 * k < t.length) : (Jr.pieces t)[k]? = some ((t.drop (46 * k)).take 46) := by
  unfold Jr.pieces
  rw [List.getElem?_map, List.getElem?_range (by omega)]
  rfl
set_option maxRecDepth 100000 in
set_option maxHeartbeats 800000 in
theorem pieces_any (w : World) (t : List UInt8) (ht : t.length ≤ 1000000) : Calls Tryz.prog 10 #[.string (Dk.str t)] w (PiecesPost w t) := by
  obtain ⟨i0, hi, hz0, hz1, hz2⟩ := info_parts info_strs
  have HI := Lib.hid hi
  have HI0 := Lib.hid hz0
  have HI1 := Lib.hid hz1
  have HI2 := Lib.hid hz2
  have hts : (Dk.str t).size = t.length := Dk.str_size t
  have HP := Lib.hid (fun k => pieces_take t k)
  have HEX := Lib.hid (fun a b => str_extract t a b)
  have HLN := Lib.hid (Jr.pieces_length' t)
  obtain ⟨s, hs⟩ : ∃ s, Dk.str t = s := ⟨_, rfl⟩
  rw [hs] at hts ⊢
  have HS := Lib.hid hs
  have HTL := Lib.hid hts
  have hsm : s.size ≤ 1000000 := by omega
  clear hi hz0 hz1 hz2 hts hs
  go_enter Tryz.func10, Tryz.ntmps10
  go_wp2
  go_loopw [3, 4] (fun v i wr => ∃ k : Nat, k ≤ (Jr.pieces t).length ∧ i = .int .i64 ((46 * k : Nat) : Int) ∧ wr.ownsRow w.heap.size 9 1 v k (strL ((Jr.pieces t).take k)) ∧ Below w.heap.size w wr) (fun _ i _ => s.size + 46 - (intOf i).toNat)
  case atStart => exact ⟨0, Nat.zero_le _, rfl, World.ownsRow_nil _ _ _ _, Below.refl _ _⟩
  case round =>
    obtain ⟨k, hk, rfl, ho, hb⟩ := hrel
    have HO := Lib.hid ho
    have HB := Lib.hid hb
    clear ho hb
    by_cases hlt : 46 * k < s.size
    · have hk2 : k ≤ 1000000 := by omega
      have k1 : ((46 * k : Nat) : Int) < (s.size : Int) := by omega
      have k0 : (0 : Int) ≤ ((46 * k : Nat) : Int) := by omega
      obtain ⟨a, ha⟩ : ∃ a, 46 * k = a := ⟨_, rfl⟩
      have HA := Lib.hid ha
      rw [ha] at k1 k0 hlt ⊢
      obtain ⟨bnd, hbn⟩ : ∃ bnd, min (a + 46) s.size = bnd := ⟨_, rfl⟩
      have e1 : min ((a : Int) + 46) (s.size : Int) = (bnd : Int) := by omega
      have b0 : (a : Int) ≤ (bnd : Int) := by omega
      have b1 : (bnd : Int) ≤ (s.size : Int) := by omega
      have b2 : bnd ≤ s.size := by omega
      have b3 : a ≤ bnd := by omega
      have HNX : Hid ((Jr.pieces t).take (k + 1) = (Jr.pieces t).take k ++ [(t.drop a).take 46]) := Lib.hid (by rw [List.take_add_one, HP.out k (by rw [← HTL.out]; omega), ha]; rfl)
      have HXS : Hid (s.extract a bnd = Dk.str ((t.drop a).take 46)) := Lib.hid (by
        have h := HEX.out a bnd
        rw [HS.out] at h
        rw [h]
        congr 1
        by_cases h46 : a + 46 ≤ s.size
        · rw [show bnd - a = 46 by omega]
        · rw [List.take_of_length_le (by rw [List.length_drop, ← HTL.out]; omega), List.take_of_length_le (by rw [List.length_drop, ← HTL.out]; omega)])
      have HK1 : Hid (k + 1 ≤ (Jr.pieces t).length) := Lib.hid (by rw [HLN.out, ← HTL.out]; omega)
      clear ha hbn hk
      go_wp2_with (at_builtin; (refine wpList_append_own_at _ rfl (.tmp 11) (.tmp 20) _ rfl w.heap.size 9 i0 _ 1 16 Tryz.underlying26 HI.out HI0.out HI1.out HI2.out rfl (by omega) u3 k _ rfl (HO.out.alloc _) ⟨wr.heap.size, 0, none⟩ 1 1 [.string (s.extract a bnd)] rfl rfl (cell_one_new _ _ _) (by simp [Value.oneCell']) (by simp only [maxLen]; omega) (by omega) (by have := HB.out.size; simp; omega) ?_); intro v1 w4 hown2 hg2 hnil2 hat2; have HOWN2 := Lib.hid hown2; have HG2 := Lib.hid hg2; clear hown2 hg2 hnil2 hat2)
      refine ⟨⟨k + 1, HK1.out, by rw [← HA.out]; go_num, ?_, ?_⟩, by simp [intOf]; omega⟩
      · rw [HNX.out, strL_append]
        have h := HOWN2.out
        rw [HXS.out] at h
        exact h
      · exact (HB.out.alloc HB.out.size _).grown HG2.out (by have := HB.out.size; simp; omega) (fun j hj => (HO.out.lt j hj).1)
    · have hk' : k = (Jr.pieces t).length := by rw [HLN.out, ← HTL.out] at hk ⊢; omega
      have HKK := Lib.hid hk'
      clear hk' hk
      go_wp2
      go_ret
      refine ⟨_, rfl, ?_, HB.out⟩
      have h := HO.out
      rw [HKK.out, List.take_length] at h
      exact h
set_option maxHeartbeats 400000 in
theorem rtext_any (w : World) (A : Option Addr) (c : Nat) (xs : List (List UInt8)) (hC : Calls Tryz.prog 43 #[.slice A xs.length c] w fun e w' => e = .returned (.string (Dk.str (Jr.text xs))) ∧ Below w.heap.size w w') :
    Calls Tryz.prog 11 #[.slice A xs.length c] w fun e w' => e = .returned (.string (Dk.str (Jr.text xs))) ∧ Below w.heap.size w w' := by
  have HC := Lib.hid hC
  obtain ⟨N, hN⟩ : ∃ N, xs.length = N := ⟨_, rfl⟩
  rw [hN] at HC ⊢
  clear hC hN
  go_enter Tryz.func11, Tryz.ntmps11
  go_wp2_with fail
  refine HC.out.mono ?_
  rintro e w1 ⟨rfl, hb⟩
  go_wp2
  go_ret
  exact ⟨rfl, hb⟩
end Go.Proofs.YthhkadeiplbdkaaGreatDoor
