/- Walks of the journal's functions, part 1: digits, zero, seal, head, sector. -/
import Derived.Test.YthhkadeiplbdkaaDoorJr
set_option linter.unusedVariables false
set_option linter.unusedSimpArgs false
namespace Go.Proofs.YthhkadeiplbdkaaDoor
open Go.RowKit

theorem repl_str (x : UInt8) (c : Nat) : (⟨(Lib.repeatL (ByteArray.mk #[x]).data.toList c).toArray⟩ : ByteArray) = Dk.str (List.replicate c x) := by
  have e2 := Lib.repeatL_replicate x 1 c
  rw [show List.replicate 1 x = [x] from rfl, Nat.mul_one] at e2
  show Dk.str (Lib.repeatL [x] c) = _
  rw [e2]
theorem str_append (a b : List UInt8) : Dk.str a ++ Dk.str b = Dk.str (a ++ b) := by
  apply ByteArray.ext
  apply Array.ext'
  simp [Dk.str]

set_option maxHeartbeats 400000 in
theorem digits_any (w : World) (hE : Env w) (n wd : Nat) (hn : n < 10 ^ (wd + 1)) (hw : wd ≤ 15) :
    Calls Tryd.prog 53 #[.int .i64 (n : Int), .int .i64 ((wd + 1 : Nat) : Int)] w fun e w' => e = .returned (.string (Dk.str (Jr.dig (wd + 1) n))) ∧ Below w.heap.size w w' := by
  have hd := Jr.dig_dec wd n hn
  have hn2 : n < 10 ^ 16 := Nat.lt_of_lt_of_le hn (Nat.pow_le_pow_right (by omega) (by omega))
  have hi : Lib.itoa (n : Int) = Lib.decDigits n := by
    unfold Lib.itoa
    rw [if_neg (by omega), Int.toNat_natCast]
  have hl := Lib.decDigits_length n
  have HC := Lib.hid (itoa_any w hE (n : Int) (by omega) (by omega))
  rw [hi] at HC
  have HE := Lib.hid hE
  obtain ⟨t, ht⟩ : ∃ t, (⟨(Lib.decDigits n).toArray⟩ : ByteArray) = t := ⟨_, rfl⟩
  have hts : t.size = Lib.nDigits n := by rw [← ht, ← hl]; simp [ByteArray.size]
  rw [ht] at HC
  obtain ⟨c, hc⟩ : ∃ c, wd + 1 - Lib.nDigits n = c := ⟨_, rfl⟩
  have HF := Lib.hid (show Dk.str (List.replicate c 48) ++ t = Dk.str (Jr.dig (wd + 1) n) by
    rw [← ht, ← hd.2, ← hc, ← str_append]; rfl)
  have hcx : ((wd : Int) + 1) - (t.size : Int) = (c : Int) := by omega
  have hc16 : c ≤ 16 := by omega
  have ht16 : t.size ≤ 16 := by omega
  have hr16 : (Dk.str (List.replicate c 48)).size ≤ 16 := by rw [Dk.str_size, List.length_replicate]; exact hc16
  have HRP := Lib.hid (fun W => repeat_any W (ByteArray.mk #[48]) c (by omega) (by decide))
  rw [repl_str] at HRP
  generalize Dk.str (List.replicate c 48) = r at HF hr16 HRP
  generalize Dk.str (Jr.dig (wd + 1) n) = res at HF ⊢
  clear hn hn2 hi hl ht hts hc hd hE
  go_enter Tryd.func53, Tryd.ntmps53
  go_wp2_with fail
  refine HC.out.mono ?_
  rintro e w1 ⟨rfl, hb⟩
  have HB1 := Lib.hid hb
  have hz1 := hb.size
  clear hb
  go_wp2_with fail
  refine (HRP.out _).mono ?_
  rintro e w2 ⟨rfl, hb⟩
  have HB2 := Lib.hid (bthen HB1.out hz1 hb)
  clear hb hcx
  go_wp2
  go_ret
  rw [HF.out]
  exact ⟨rfl, HB2.out⟩

set_option maxHeartbeats 400000 in
theorem zero_any (w : World) : Calls Tryd.prog 35 #[] w fun e w' => e = .returned (.string (Dk.str Jr.zeros)) ∧ Below w.heap.size w w' := by
  have HRP := Lib.hid (repeat_any w (ByteArray.mk #[0]) 64 (by omega) (by decide))
  rw [repl_str] at HRP
  change Hid (Calls _ _ _ _ fun e w' => e = .returned (.string (Dk.str Jr.zeros)) ∧ Below w.heap.size w w') at HRP
  go_enter Tryd.func35, Tryd.ntmps35
  go_wp2_with fail
  refine HRP.out.mono ?_
  rintro e w1 ⟨rfl, hb⟩
  go_wp2
  go_ret
  exact ⟨rfl, hb⟩
end Go.Proofs.YthhkadeiplbdkaaDoor
