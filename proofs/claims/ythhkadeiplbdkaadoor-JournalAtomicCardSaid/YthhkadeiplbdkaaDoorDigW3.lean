/- Walks of the digest: the hexadecimal numeral, Sum. -/
import Derived.Test.YthhkadeiplbdkaaDoorEnv
set_option linter.unusedVariables false
set_option linter.unusedSimpArgs false
namespace Go.Proofs.YthhkadeiplbdkaaDoor
open Go.RowKit

set_option maxHeartbeats 400000 in
theorem tz64_16 (w : World) (hE : Env w) : Calls Tryd.prog 105 #[.int .u64 16] w fun e w' => e = .returned (.int .i64 4) ∧ w = w' := by
  have hd := hE.db
  have hi : IntKind.u64.wrap (bits .and .u64 16 (IntKind.u64.wrap (-16)) * 285870213051353865) / 288230376151711744 = 15 := by decide +kernel
  clear hE
  go_enter Tryd.func105, Tryd.ntmps105
  go_wp2
  go_ret
  exact ⟨rfl, rfl⟩

set_option maxHeartbeats 400000 in
theorem tz_16 (w : World) (hE : Env w) : Calls Tryd.prog 103 #[.int .u64 16] w fun e w' => e = .returned (.int .i64 4) ∧ w = w' := by
  have HC := Lib.hid (tz64_16 w hE)
  clear hE
  go_enter Tryd.func103, Tryd.ntmps103
  go_wp2_with fail
  refine HC.out.mono ?_
  rintro e w1 ⟨rfl, rfl⟩
  go_wp2
  go_ret
  exact ⟨rfl, rfl⟩
set_option maxHeartbeats 400000 in
theorem pow_16 (w : World) : Calls Tryd.prog 102 #[.int .i64 16] w fun e w' => e = .returned (.bool true) ∧ w = w' := by
  have hi : bits .and .i64 16 15 = 0 := by decide +kernel
  go_enter Tryd.func102, Tryd.ntmps102
  go_wp2
  go_ret
  exact ⟨rfl, rfl⟩

/-- The state of the loop over the digits. -/
def FbRel (w : World) (u j : Nat) (wr : World) : Prop :=
  Blk wr w.heap.size 144 (Lib.byteCells (List.replicate (65 - j) 0 ++ Hs.hex j u)).toArray ∧ Below w.heap.size w wr
def dig36 : ByteArray := ⟨#[48, 49, 50, 51, 52, 53, 54, 55, 56, 57, 97, 98, 99, 100, 101, 102, 103, 104, 105, 106, 107, 108, 109, 110, 111, 112, 113, 114, 115, 116, 117, 118, 119, 120, 121, 122]⟩
theorem dig36_at : ∀ d : Fin 16, ∀ w : World, (Instr.index 9 (.string dig36) (.int .u64 (d.val : Int))).run Tryd.prog w = .ok (.int .u8 ((Hs.hexd d.val).toNat : Int)) w := by
  intro d w
  obtain ⟨d, hd⟩ := d
  have h : d = 0 ∨ d = 1 ∨ d = 2 ∨ d = 3 ∨ d = 4 ∨ d = 5 ∨ d = 6 ∨ d = 7 ∨ d = 8 ∨ d = 9 ∨ d = 10 ∨ d = 11 ∨ d = 12 ∨ d = 13 ∨ d = 14 ∨ d = 15 := by omega
  rcases h with rfl | rfl | rfl | rfl | rfl | rfl | rfl | rfl | rfl | rfl | rfl | rfl | rfl | rfl | rfl | rfl <;> (show Sem.run _ _ _ = _; kernel_rfl)

set_option maxRecDepth 100000 in
set_option maxHeartbeats 400000 in
theorem fmtBits_16 (w : World) (hE : Env w) (u : Nat) (hu : u < Hs.M) (j : Nat) (hj : j < 16) (h1 : 16 ^ j ≤ u ∨ j = 0) (h2 : u < 16 ^ (j + 1)) :
    Calls Tryd.prog 95 #[.slice none 0 0, .int .u64 (u : Int), .int .i64 16, .bool false, .bool false] w fun e w' => e = .returned (.tuple #[.slice none 0 0, .string (Dk.str (Hs.hex (j + 1) u))]) ∧ Below w.heap.size w w' := by
  have HE := Lib.hid hE
  clear hE
  go_enter Tryd.func95, Tryd.ntmps95
  go_wp2_with fail
  refine (pow_16 _).mono ?_
  rintro e w1 ⟨rfl, rfl⟩
  go_wp2_with fail
  refine (tz_16 _ (HE.out.new ((Below.refl _ _).alloc (Nat.le_refl _) _))).mono ?_
  rintro e w1 ⟨rfl, rfl⟩
  go_wp2_with fail
  have hz : Tryd.zeroCells144 = (Lib.byteCells (List.replicate (65 - 0) 0 ++ Hs.hex 0 u)).toArray := by
    rw [show Hs.hex 0 u = [] from rfl, List.append_nil]
    kernel_rfl
  go_loopw [1, 13] (fun a b wr => ∃ i v p : Nat, Hid (i ≤ j ∧ v = u / 16 ^ i ∧ p = 65 - i) ∧ a = .int .u64 (v : Int) ∧ b = .int .i64 (p : Int) ∧ FbRel w u i wr) (fun _ b _ => (intOf b).toNat)
  case atStart => exact ⟨0, u, 65, Lib.hid ⟨Nat.zero_le _, by simp, rfl⟩, rfl, rfl, by rw [← hz]; exact Blk.new _ _ _, (Below.refl _ _).alloc (Nat.le_refl _) _⟩
  case round =>
    obtain ⟨i, v, p, HI, rfl, rfl, hrel⟩ := hrel
    have HR := Lib.hid hrel
    clear hrel hz
    have hp1 : 50 ≤ p := by have := HI.out; omega
    have hp2 : p ≤ 65 := by have := HI.out; omega
    have hv : v < 18446744073709551616 := by
      have h := HI.out.2.1
      have h2 := Nat.div_le_self u (16 ^ i)
      unfold Hs.M at hu
      omega
    by_cases h16 : 16 ≤ v
    · have hij : i + 1 ≤ j := by
        have h := HI.out
        apply Nat.le_of_not_lt
        intro hlt
        have e : i = j := by omega
        have h3 : u / 16 ^ i < 16 := by
          rw [e]
          apply Nat.div_lt_of_lt_mul
          rw [← Nat.pow_succ]; exact h2
        omega
      obtain ⟨d, hd⟩ : ∃ d, v % 16 = d := ⟨_, rfl⟩
      obtain ⟨v2, hv2⟩ : ∃ v2, v / 16 = v2 := ⟨_, rfl⟩
      have hd16 : d < 16 := by omega
      have hix := fun W => dig36_at ⟨d, hd16⟩ W
      simp only at hix
      have hand : bits .and .u64 (v : Int) 15 = (d : Int) := by
        have e := u64_and_nat v 15 hv (by omega)
        rw [show ((15 : Nat) : Int) = 15 from rfl] at e
        rw [e, nat_mask4, hd]
      have hsh : (v : Int) / 16 = (v2 : Int) := by omega
      have HD := Lib.hid (show v % 16 = d ∧ v / 16 = v2 ∧ i + 1 ≤ j from ⟨hd, hv2, hij⟩)
      have hm := HR.out.1
      have c0 := (hm.cell (p - 1)).trans (byteCells_at _ _ (by rw [List.length_append, List.length_replicate, Hs.hex_length]; have := HI.out; omega))
      generalize ((List.replicate (65 - i) 0 ++ Hs.hex i u).getD (p - 1) 0) = o at c0
      have cf := hm.frozen (p - 1)
      have clt := hm.lt
      have hpc : ((p : Int) - 1).toNat = p - 1 := by omega
      unfold dig36 at hix
      clear hd hv2 hij hm
      go_wp2
      go_roundw
      case rel =>
        refine ⟨i + 1, v2, p - 1, Lib.hid ⟨HD.out.2.2, ?_, by have := HI.out; omega⟩, rfl, by go_num, ?_, HR.out.2.setCell (Nat.le_refl _) _⟩
        · rw [← HD.out.2.1, HI.out.2.1, Nat.div_div_eq_div_mul, ← Nat.pow_succ]
        · have h := HR.out.1.set_ (p - 1) (.int .u8 ((Hs.hexd d).toNat : Int))
          have e : ((Lib.byteCells (List.replicate (65 - i) 0 ++ Hs.hex i u)).toArray).setIfInBounds (p - 1) (.int .u8 ((Hs.hexd d).toNat : Int)) = (Lib.byteCells (List.replicate (65 - (i + 1)) 0 ++ Hs.hex (i + 1) u)).toArray := by
            have := HI.out
            have hd : Hs.hexd d = Hs.hexd (u / 16 ^ i % 16) := by rw [← HD.out.1, HI.out.2.1]
            rw [List.setIfInBounds_toArray, Hs.hex_cons, ← hd]
            congr 1
            unfold Lib.byteCells
            rw [show (Value.int .u8 ((Hs.hexd d).toNat : Int)) = (fun b : UInt8 => Value.int IntKind.u8 (b.toNat : Int)) (Hs.hexd d) from rfl, ← List.map_set]
            congr 1
            rw [show 65 - i = (65 - (i + 1)) + 1 by omega, List.replicate_succ', List.append_assoc, show p - 1 = (List.replicate (65 - (i + 1)) (0 : UInt8)).length by rw [List.length_replicate]; omega, List.set_append_right _ _ (Nat.le_refl _), Nat.sub_self]
            rfl
          rw [e] at h
          exact h
      case measure => simp [intOf]; omega
    · have hij : i = j := by
        have h := HI.out
        rcases h1 with h1 | h1
        · apply Nat.le_antisymm h.1
          apply Nat.le_of_not_lt
          intro hlt
          have h3 : 16 ^ (i + 1) ≤ u := Nat.le_trans (Nat.pow_le_pow_right (by omega) hlt) h1
          have h4 : 16 ≤ u / 16 ^ i := by
            rw [Nat.le_div_iff_mul_le (Nat.pow_pos (by omega)), Nat.mul_comm, ← Nat.pow_succ]; exact h3
          omega
        · omega
      have hix := fun W => dig36_at ⟨v, by omega⟩ W
      simp only at hix
      have hm := HR.out.1
      have c0 := (hm.cell (p - 1)).trans (byteCells_at _ _ (by rw [List.length_append, List.length_replicate, Hs.hex_length]; have := HI.out; omega))
      generalize ((List.replicate (65 - i) 0 ++ Hs.hex i u).getD (p - 1) 0) = o at c0
      have cf := hm.frozen (p - 1)
      have clt := hm.lt
      have hpc : ((p : Int) - 1).toNat = p - 1 := by omega
      have h := HR.out.1.set_ (p - 1) (.int .u8 ((Hs.hexd v).toNat : Int))
      have e : ((Lib.byteCells (List.replicate (65 - i) 0 ++ Hs.hex i u)).toArray).setIfInBounds (p - 1) (.int .u8 ((Hs.hexd v).toNat : Int)) = (Lib.byteCells (List.replicate (65 - (i + 1)) 0 ++ Hs.hex (i + 1) u)).toArray := by
        have := HI.out
        have hd : Hs.hexd v = Hs.hexd (u / 16 ^ i % 16) := by rw [← HI.out.2.1, Nat.mod_eq_of_lt (by omega)]
        rw [List.setIfInBounds_toArray, Hs.hex_cons, ← hd]
        congr 1
        unfold Lib.byteCells
        rw [show (Value.int .u8 ((Hs.hexd v).toNat : Int)) = (fun b : UInt8 => Value.int IntKind.u8 (b.toNat : Int)) (Hs.hexd v) from rfl, ← List.map_set]
        congr 1
        rw [show 65 - i = (65 - (i + 1)) + 1 by omega, List.replicate_succ', List.append_assoc, show p - 1 = (List.replicate (65 - (i + 1)) (0 : UInt8)).length by rw [List.length_replicate]; omega, List.set_append_right _ _ (Nat.le_refl _), Nat.sub_self]
        rfl
      rw [e] at h
      have hcv := convert_bytes (P := Tryd.prog) (wr.setCell ⟨w.heap.size, p - 1, none⟩ (.int .u8 ((Hs.hexd v).toNat : Int))) 51 9 5 Tryd.underlying51 Tryd.underlying5 Tryd.underlying9 w.heap.size (p - 1) (65 - (p - 1)) (65 - (p - 1)) (Hs.hex (i + 1) u) (by rw [Hs.hex_length]; have := HI.out; omega) (fun k hk => by
        have := HI.out
        rw [h.cell (p - 1 + k), byteCells_at _ _ (by rw [List.length_append, List.length_replicate, Hs.hex_length]; omega)]
        congr 3
        congr 1
        rw [List.getD_eq_getElem?_getD, List.getElem?_append_right (by rw [List.length_replicate]; omega), List.length_replicate, List.getD_eq_getElem?_getD, show p - 1 + k - (65 - (i + 1)) = k by omega])
      have hpb : p - 1 ≤ 65 := by omega
      have hpc1 : (0 : Int) ≤ (p : Int) - 1 := by omega
      have hpc2 : (1 : Int) ≤ (p : Int) := by omega
      have hpc3 : (p : Int) - 1 ≤ 65 := by omega
      have hpc4 : (p : Int) ≤ 66 := by omega
      have h17 : (v : Int) < 16 := by omega
      unfold dig36 at hix
      have HIJ := Lib.hid hij
      clear hij hm e h h16 HI
      go_wp2
      go_ret2
      rw [HIJ.out]
      exact ⟨rfl, HR.out.2.setCell (Nat.le_refl _) _⟩

set_option maxHeartbeats 400000 in
theorem fmtU_16 (w : World) (hE : Env w) (u : Nat) (hu : u < Hs.M) (j : Nat) (hj : j < 16) (h1 : 16 ^ j ≤ u ∨ j = 0) (h2 : u < 16 ^ (j + 1)) :
    Calls Tryd.prog 87 #[.int .u64 (u : Int), .int .i64 16] w fun e w' => e = .returned (.string (Dk.str (Hs.hex (j + 1) u))) ∧ Below w.heap.size w w' := by
  have HC := Lib.hid (fmtBits_16 w hE u hu j hj h1 h2)
  clear hE hu h1 h2 hj
  go_enter Tryd.func87, Tryd.ntmps87
  go_wp2_with fail
  refine HC.out.mono ?_
  rintro e w1 ⟨rfl, hb⟩
  go_wp2
  go_ret
  exact ⟨rfl, hb⟩
set_option maxHeartbeats 400000 in
theorem fmtU0_16 (w : World) (hE : Env w) (u : Nat) (hu : u < Hs.M) (j : Nat) (hj : j < 16) (h1 : 16 ^ j ≤ u ∨ j = 0) (h2 : u < 16 ^ (j + 1)) :
    Calls Tryd.prog 78 #[.int .u64 (u : Int), .int .i64 16] w fun e w' => e = .returned (.string (Dk.str (Hs.hex (j + 1) u))) ∧ Below w.heap.size w w' := by
  have HC := Lib.hid (fmtU_16 w hE u hu j hj h1 h2)
  clear hE hu h1 h2 hj
  go_enter Tryd.func78, Tryd.ntmps78
  go_wp2_with fail
  refine HC.out.mono ?_
  rintro e w1 ⟨rfl, hb⟩
  go_wp2
  go_ret
  exact ⟨rfl, hb⟩

theorem hex_places (u : Nat) (hu : u < Hs.M) : ∃ j, j < 16 ∧ (16 ^ j ≤ u ∨ j = 0) ∧ u < 16 ^ (j + 1) := by
  have h : ∀ k, k ≤ 16 → u < 16 ^ k → ∃ j, j < 16 ∧ (16 ^ j ≤ u ∨ j = 0) ∧ u < 16 ^ (j + 1) := by
    intro k
    induction k with
    | zero => intro _ h; exact ⟨0, by omega, .inr rfl, by simp at h; omega⟩
    | succ k ih =>
      intro hk h
      by_cases h2 : u < 16 ^ k
      · exact ih (by omega) h2
      · exact ⟨k, by omega, .inl (by omega), h⟩
  exact h 16 (by omega) hu

/-- The digest of a text. -/
def sumB (s : ByteArray) : ByteArray := ⟨(Hs.sum s.data.toList).toArray⟩
theorem sumB_size (s : ByteArray) : (sumB s).size = 16 := by simp [sumB, ByteArray.size, Hs.sum_length]

set_option maxRecDepth 100000 in
set_option maxHeartbeats 400000 in
theorem sum_any (w : World) (hE : Env w) (s : ByteArray) (hs : s.size ≤ 140737488351232) :
    Calls Tryd.prog 65 #[.string s] w fun e w' => e = .returned (.string (sumB s)) ∧ Below w.heap.size w w' := by
  have hmf : ∀ (fn : Fn) (first cap : Array Value) (w : World), (Instr.makeFunc fn first cap).run Tryd.prog w = .ok (.func fn first cap) w := fun _ _ _ _ => rfl
  have HE := Lib.hid hE
  have hlt : Hs.hash s.data.toList < Hs.M := Hs.st_lt (by rw [Dk.data_len]; unfold Hs.M; omega) _
  obtain ⟨j, hj, h1, h2⟩ := hex_places _ hlt
  have hw : IntKind.u64.wrap (s.size : Int) = (s.size : Int) := by rw [IntKind.wrap_u64]; omega
  have hx : bits .xor .u64 1442695040888963407 (s.size : Int) = (Hs.st0 s.data.toList.length : Int) := by
    rw [Dk.data_len]
    exact bits_xor_u64_nat 1442695040888963407 s.size (by omega) (by omega)
  have HL := Lib.hid hlt
  have HJ := Lib.hid (show (16 ^ j ≤ Hs.hash s.data.toList ∨ j = 0) ∧ Hs.hash s.data.toList < 16 ^ (j + 1) from ⟨h1, h2⟩)
  clear hE hlt h1 h2
  go_enter Tryd.func65, Tryd.ntmps65
  go_wp2_with fail
  have hbk := Blk.new w 116 #[.int .u64 (Hs.st0 s.size : Int)]
  have hb0 : Below w.heap.size w (w.alloc (.cells #[.int .u64 (Hs.st0 s.size : Int)] 116)) := (Below.refl _ _).alloc (Nat.le_refl _) _
  have HB0 := Lib.hid hb0
  refine (blocks_any _ w.heap.size s (by rw [show Hs.st s.data.toList 0 = Hs.st0 s.data.toList.length from rfl, Dk.data_len]; exact hbk) hs).mono ?_
  rintro e w1 ⟨rfl, hk1, ht1⟩
  have hb1 : Below w.heap.size w w1 := hb0.trans (ht1.below hb0.size fun k e => by omega)
  have HB1 := Lib.hid hb1
  have hz1 := hb1.size
  have c0 := hk1.cell 0
  have clt := hk1.lt
  obtain ⟨u, hu⟩ : ∃ u, Hs.hash s.data.toList = u := ⟨_, rfl⟩
  have HU := Lib.hid hu
  rw [hu] at c0 HL HJ hk1
  clear hu
  clear hbk hb0 ht1 hb1 hk1
  go_wp2_with fail
  refine (fmtU0_16 w1 (HE.out.new HB1.out) u HL.out j hj HJ.out.1 HJ.out.2).mono ?_
  rintro e w2 ⟨rfl, hb2⟩
  have HB2 := Lib.hid (bthen HB1.out hz1 hb2)
  have hz2 := Nat.le_trans hz1 hb2.size
  have hlen : (Dk.str (Hs.hex (j + 1) u)).size = j + 1 := by rw [Dk.str_size, Hs.hex_length]
  have hfin : (⟨(Lib.repeatL [48] (15 - j)).toArray⟩ : ByteArray) ++ Dk.str (Hs.hex (j + 1) u) = Dk.str (Hs.hex 16 u) := by
    have e := Hs.hex_zero (j + 1) u HJ.out.2 (15 - j)
    rw [show 15 - j + (j + 1) = 16 by omega] at e
    rw [e]
    have e2 := Lib.repeatL_replicate 48 1 (15 - j)
    rw [show List.replicate 1 (48 : UInt8) = [48] from rfl, Nat.mul_one] at e2
    rw [e2]
    apply ByteArray.ext
    apply Array.ext'
    simp [Dk.str]
  have HF := Lib.hid hfin
  obtain ⟨c, hc⟩ : ∃ c, 15 - j = c := ⟨_, rfl⟩
  rw [hc] at HF
  generalize Dk.str (Hs.hex (j + 1) u) = t at hlen HF ⊢
  have ht1 : t.size ≤ 16 := by omega
  have hcx : (16 : Int) - (t.size : Int) = (c : Int) := by omega
  have hc15 : c ≤ 15 := by omega
  have hrl : (⟨(Lib.repeatL [48] c).toArray⟩ : ByteArray).size ≤ 15 := by
    have : (Lib.repeatL [48] c).length = c * 1 := Lib.repeatL_length [48] c
    show (Lib.repeatL [48] c).toArray.size ≤ 15
    rw [List.size_toArray, this]; omega
  clear hlen hc hb2 hfin
  go_wp2_with fail
  refine (repeat_any w2 _ c (by omega) (by decide)).mono ?_
  rintro e w3 ⟨rfl, hb3⟩
  have HB3 := Lib.hid (bthen HB2.out hz2 hb3)
  change Hid ((⟨(Lib.repeatL [48] c).toArray⟩ : ByteArray) ++ t = _) at HF
  generalize hrr : (⟨(Lib.repeatL (ByteArray.mk #[48]).data.toList c).toArray⟩ : ByteArray) = r
  have hrl2 : r.size ≤ 15 := by rw [← hrr]; exact hrl
  have HF2 : Hid (r ++ t = Dk.str (Hs.hex 16 u)) := by rw [← hrr]; exact HF
  clear hrl hb3 hcx hc15 hrr HF
  go_wp2
  go_ret
  rw [HF2.out, ← HU.out]
  exact ⟨rfl, HB3.out⟩
end Go.Proofs.YthhkadeiplbdkaaDoor
