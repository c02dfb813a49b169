/- Walks of the digest: take, blocks. -/
import Derived.Test.YthhkadeiplbdkaaDoorDiskW7
import Derived.Test.YthhkadeiplbdkaaDoorHash
import Derived.Laws.BitsAllLaws
import Derived.Laws.BitsLemmas
set_option linter.unusedVariables false
set_option linter.unusedSimpArgs false
namespace Go.Proofs.YthhkadeiplbdkaaDoor
open Go.RowKit

def TakePost (w : World) (sb : Nat) (x : Nat) (l : List UInt8) (e : Ending) (w' : World) : Prop :=
  e = .returned (.tuple #[]) ∧ Blk w' sb 116 #[.int .u64 (Hs.mix (x ^^^ Hs.be l) : Int)] ∧ Touch (fun k => k = sb) w w'

theorem mix_u64 (x y : Nat) (hx : x < 18446744073709551616) (hy : y < 18446744073709551616) :
    bits .xor .u64 (IntKind.u64.wrap (bits .xor .u64 (IntKind.u64.wrap (bits .xor .u64 (bits .xor .u64 (x : Int) (y : Int)) (bits .xor .u64 (x : Int) (y : Int) / 2147483648) * 14029467366897019727)) (IntKind.u64.wrap (bits .xor .u64 (bits .xor .u64 (x : Int) (y : Int)) (bits .xor .u64 (x : Int) (y : Int) / 2147483648) * 14029467366897019727) / 134217728) * 11400714785074694791))
      (IntKind.u64.wrap (bits .xor .u64 (IntKind.u64.wrap (bits .xor .u64 (bits .xor .u64 (x : Int) (y : Int)) (bits .xor .u64 (x : Int) (y : Int) / 2147483648) * 14029467366897019727)) (IntKind.u64.wrap (bits .xor .u64 (bits .xor .u64 (x : Int) (y : Int)) (bits .xor .u64 (x : Int) (y : Int) / 2147483648) * 14029467366897019727) / 134217728) * 11400714785074694791) / 8589934592)
      = ((Hs.mix (x ^^^ y) : Nat) : Int) := by
  have h0 := bits_xor_u64_nat x y hx hy
  have hz : x ^^^ y < 18446744073709551616 := Hs.xor_lt hx hy
  rw [h0]
  have h1 := mixStep_u64 (x ^^^ y) 2147483648 14029467366897019727 hz
  rw [show (((2147483648 : Nat) : Int)) = 2147483648 from rfl, show (((14029467366897019727 : Nat) : Int)) = 14029467366897019727 from rfl] at h1
  rw [h1]
  have h2 := mixStep_u64 (((x ^^^ y) ^^^ (x ^^^ y) / 2147483648) * 14029467366897019727 % 18446744073709551616) 134217728 11400714785074694791 (Nat.mod_lt _ (by decide))
  rw [show (((134217728 : Nat) : Int)) = 134217728 from rfl, show (((11400714785074694791 : Nat) : Int)) = 11400714785074694791 from rfl] at h2
  rw [h2]
  have h3 := xorShift_u64 (((((x ^^^ y) ^^^ (x ^^^ y) / 2147483648) * 14029467366897019727 % 18446744073709551616) ^^^ (((x ^^^ y) ^^^ (x ^^^ y) / 2147483648) * 14029467366897019727 % 18446744073709551616) / 134217728) * 11400714785074694791 % 18446744073709551616) 8589934592 (Nat.mod_lt _ (by decide))
  rw [show (((8589934592 : Nat) : Int)) = 8589934592 from rfl] at h3
  rw [h3]
  unfold Hs.mix
  simp only [Nat.shiftRight_eq_div_pow]
  rfl

set_option maxRecDepth 100000 in
set_option maxHeartbeats 400000 in
theorem take_any (w : World) (sb x : Nat) (b0 b1 b2 b3 b4 b5 b6 b7 : UInt8) (hs : Blk w sb 116 #[.int .u64 (x : Int)]) (hx : x < Hs.M) :
    Calls Tryd.prog 77 #[.pointer (some ⟨sb, 0, none⟩), .agg #[.int .u8 b0.toNat, .int .u8 b1.toNat, .int .u8 b2.toNat, .int .u8 b3.toNat, .int .u8 b4.toNat, .int .u8 b5.toNat, .int .u8 b6.toNat, .int .u8 b7.toNat]] w (TakePost w sb x [b0, b1, b2, b3, b4, b5, b6, b7]) := by
  have HS := Lib.hid hs
  have c0 := hs.cell 0
  have cf0 := hs.frozen 0
  have clt := hs.lt
  clear hs
  go_enter Tryd.func77, Tryd.ntmps77
  go_wp2
  have hnb := Blk.new w 131 #[.int .u8 b0.toNat, .int .u8 b1.toNat, .int .u8 b2.toNat, .int .u8 b3.toNat, .int .u8 b4.toNat, .int .u8 b5.toNat, .int .u8 b6.toNat, .int .u8 b7.toNat]
  have hb2 : ∀ i, i < 8 → (w.alloc (.cells #[.int .u8 b0.toNat, .int .u8 b1.toNat, .int .u8 b2.toNat, .int .u8 b3.toNat, .int .u8 b4.toNat, .int .u8 b5.toNat, .int .u8 b6.toNat, .int .u8 b7.toNat] 131)).cell? ⟨w.heap.size, i, none⟩ = some (.int .u8 (([b0, b1, b2, b3, b4, b5, b6, b7].getD i 0).toNat : Int)) := fun i hi => by
    rw [hnb.cell i]
    exact byteCells_at [b0, b1, b2, b3, b4, b5, b6, b7] i (by simpa using hi)
  have HB := Lib.hid hb2
  have hs2 := HS.out.alloc (.cells #[.int .u8 b0.toNat, .int .u8 b1.toNat, .int .u8 b2.toNat, .int .u8 b3.toNat, .int .u8 b4.toNat, .int .u8 b5.toNat, .int .u8 b6.toNat, .int .u8 b7.toNat] 131)
  have HS2 := Lib.hid hs2
  have HT := Lib.hid ((Touch.refl (fun k => k = sb) w).alloc (.cells #[.int .u8 b0.toNat, .int .u8 b1.toNat, .int .u8 b2.toNat, .int .u8 b3.toNat, .int .u8 b4.toNat, .int .u8 b5.toNat, .int .u8 b6.toNat, .int .u8 b7.toNat] 131))
  obtain ⟨l, hl⟩ : ∃ l, l = [b0, b1, b2, b3, b4, b5, b6, b7] := ⟨_, rfl⟩
  have HLL := Lib.hid hl
  have hl8 : l.length = 8 := by rw [hl]; rfl
  have HL8 := Lib.hid hl8
  have hlt := hnb.lt
  rw [← hl] at HB ⊢
  clear hnb hb2 hs2 hl hl8
  generalize w.alloc (.cells #[.int .u8 b0.toNat, .int .u8 b1.toNat, .int .u8 b2.toNat, .int .u8 b3.toNat, .int .u8 b4.toNat, .int .u8 b5.toNat, .int .u8 b6.toNat, .int .u8 b7.toNat] 131) = w1 at HB HS2 hlt HT ⊢
  generalize w.heap.size = g at HB hlt ⊢
  go_loop [4, 5, 7] (fun n _ i => ∃ k : Nat, k ≤ 8 ∧ i = .int .i64 (k : Int) ∧ n = .int .u64 (Hs.be (l.take k) : Int)) (fun _ _ i => 8 - (intOf i).toNat)
  case atStart => exact ⟨0, by omega, rfl, rfl⟩
  case round =>
    obtain ⟨k, hk, rfl, rfl⟩ := hrel
    by_cases h8 : k < 8
    · have hc := HB.out k h8
      have hk0 : (0 : Int) ≤ (k : Int) := by omega
      have hk1 : (k : Int) < 8 := by omega
      obtain ⟨b, hb⟩ : ∃ b, l.getD k 0 = b := ⟨_, rfl⟩
      rw [hb] at hc
      have hbe : Hs.be (l.take k) < 72057594037927936 := by
        have h := Hs.be_lt (l.take k)
        have h2 : (l.take k).length = k := by rw [List.length_take, HL8.out]; omega
        rw [h2] at h
        have h3 := Nat.pow_le_pow_right (n := 256) (by omega) (show k ≤ 7 by omega)
        exact Nat.lt_of_lt_of_le h h3
      have hnext : Hs.be (l.take (k + 1)) = Hs.be (l.take k) * 256 + b.toNat := by
        rw [List.take_succ_eq_append_getElem (by rw [HL8.out]; exact h8), Hs.be_snoc, ← hb]
        congr 2
        rw [List.getD_eq_getElem?_getD, List.getElem?_eq_getElem (by rw [HL8.out]; exact h8), Option.getD_some]
      generalize Hs.be (l.take k) = a at hbe hnext ⊢
      have HN := Lib.hid hnext
      have hor : bits .or .u64 ((a : Int) * 256) (b.toNat : Int) = ((a * 256 + b.toNat : Nat) : Int) := by
        have := b.toNat_lt
        have e := u64_or_nat (a * 256) b.toNat (by omega) (by omega)
        rw [nat_join 8 (a * 256) b.toNat (by omega) (by omega)] at e
        exact e
      have HOR := Lib.hid hor
      have hw : IntKind.u64.wrap (b.toNat : Int) = (b.toNat : Int) := by
        have := b.toNat_lt
        rw [IntKind.wrap_u64]; omega
      have HW := Lib.hid hw
      clear hnext hor hb hw
      go_wp2
      go_round
      case rel => exact ⟨k + 1, by omega, by go_num, by rw [HN.out, ← HOR.out, HW.out]⟩
      case measure => simp [intOf]; omega
    · obtain rfl : k = 8 := by omega
      have e8 : l.take 8 = l := by rw [List.take_of_length_le (by rw [HL8.out]; omega)]
      rw [e8]
      have hbe := Hs.be_lt l
      rw [HL8.out] at hbe
      have hbe : Hs.be l < 18446744073709551616 := hbe
      have HM := Lib.hid (mix_u64 x (Hs.be l) hx hbe)
      obtain ⟨y, hy⟩ : ∃ y, Hs.be l = y := ⟨_, rfl⟩
      have HY := Lib.hid hy
      rw [hy] at hbe HM ⊢
      clear hy
      have hs2 := HS2.out
      have d0 := hs2.cell 0
      have df0 := hs2.frozen 0
      have dlt := hs2.lt
      clear hs2 e8 h8 hk hbe
      go_wp2
      go_end0
      rw [HM.out, ← HY.out, HLL.out]
      exact ⟨rfl, HS2.out.set_ 0 _, HT.out.setCell (.inr rfl) _⟩
end Go.Proofs.YthhkadeiplbdkaaDoor
