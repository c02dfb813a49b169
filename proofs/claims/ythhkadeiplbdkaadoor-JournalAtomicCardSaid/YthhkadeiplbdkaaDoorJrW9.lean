/- Walks of the journal's functions, part 9: are records too long; the closures of Append. -/
import Derived.Test.YthhkadeiplbdkaaDoorJrW8
set_option linter.unusedVariables false
set_option linter.unusedSimpArgs false
namespace Go.Proofs.YthhkadeiplbdkaaDoor
open Go.RowKit

theorem long_take {xs : List (List UInt8)} {k : Nat} (hk : k < xs.length) (h : Jr.long (xs.take k) = false) (h2 : (xs[k]).length ≤ 20000) : Jr.long (xs.take (k + 1)) = false := by
  rw [List.take_succ_eq_append_getElem hk]
  unfold Jr.long at h ⊢
  rw [List.any_append, h]
  simp; omega
theorem long_at {xs : List (List UInt8)} {k : Nat} (hk : k < xs.length) (h2 : 20000 < (xs[k]).length) : Jr.long xs = true := by
  unfold Jr.long
  rw [List.any_eq_true]
  exact ⟨_, List.getElem_mem hk, by simpa using h2⟩

set_option maxHeartbeats 400000 in
theorem isLong_any (w : World) (s : ByteArray) (hs : s.size ≤ 9223372036854775807) :
    Calls Tryd.prog 39 #[.string s] w fun e w' => e = .returned (.bool (decide (20000 < s.size))) ∧ w' = w := by
  by_cases h : 20000 < s.size
  · rw [decide_eq_true h]
    go_enter Tryd.func39, Tryd.ntmps39
    go_wp2
    go_ret
    exact ⟨by simp; omega, rfl⟩
  · rw [decide_eq_false h]
    go_enter Tryd.func39, Tryd.ntmps39
    go_wp2
    go_ret
    exact ⟨by simp; omega, rfl⟩
set_option maxHeartbeats 400000 in
theorem indexLong_any (w : World) (A : Option Addr) (c : Nat) (xs : List (List UInt8)) (hx : Strs w A xs) (hxl : ∀ x ∈ xs, x.length ≤ 100000000) :
    Calls Tryd.prog 59 #[.slice A xs.length c, .func (.func 39) #[] #[]] w fun e w' => (∃ r : Int, e = .returned (.int .i64 r) ∧ decide (0 ≤ r) = Jr.long xs) ∧ w' = w := by
  have HX := Lib.hid hx
  have HXL := Lib.hid hxl
  have hlen := hx.len
  obtain ⟨N, hN⟩ : ∃ N, xs.length = N := ⟨_, rfl⟩
  have HN := Lib.hid hN
  rw [hN] at hlen ⊢
  clear hx hxl hN
  go_enter Tryd.func59, Tryd.ntmps59
  go_wp2
  go_loop [8] (fun i => ∃ k : Nat, k ≤ N ∧ i = .int .i64 (k : Int) ∧ Hid (Jr.long (xs.take k) = false)) (fun i => N - (intOf i).toNat)
  case atStart => exact ⟨0, Nat.zero_le _, rfl, Lib.hid (by simp [Jr.long])⟩
  case round =>
    obtain ⟨k, hk, rfl, hrel⟩ := hrel
    by_cases hlt : k < N
    · obtain ⟨b, o, rfl, hb0, hc0⟩ := HX.out.at_ (by rw [HN.out]; omega)
      have hkn : k < xs.length := by rw [HN.out]; exact hlt
      have hcell := hc0 k hkn
      have hk0 : (0 : Int) ≤ (k : Int) := by omega
      have hk1 : (k : Int) < (N : Int) := by omega
      have hrl : (xs[k]).length ≤ 100000000 := HXL.out _ (List.getElem_mem hkn)
      have hrs := Dk.str_size xs[k]
      have HC := Lib.hid (isLong_any w (Dk.str xs[k]) (by omega))
      by_cases hL : 20000 < (xs[k]).length
      · have HF := Lib.hid (long_at hkn hL)
        have hd : decide (20000 < (Dk.str xs[k]).size) = true := by rw [hrs]; exact decide_eq_true hL
        rw [hd] at HC
        obtain ⟨s, hs⟩ : ∃ s, Dk.str xs[k] = s := ⟨_, rfl⟩
        rw [hs] at hcell HC
        clear hc0 hrs hd hs hL hrl
        go_wp2_with fail
        refine HC.out.mono ?_
        rintro e w1 ⟨rfl, rfl⟩
        clear HC
        go_wp2
        go_ret
        exact ⟨⟨_, rfl, by rw [HF.out]; simp⟩, rfl⟩
      · have HF := Lib.hid (long_take hkn hrel.out (by omega))
        have hd : decide (20000 < (Dk.str xs[k]).size) = false := by rw [hrs]; exact decide_eq_false hL
        rw [hd] at HC
        obtain ⟨s, hs⟩ : ∃ s, Dk.str xs[k] = s := ⟨_, rfl⟩
        rw [hs] at hcell HC
        clear hc0 hrs hd hs hL hrl
        go_wp2_with fail
        refine HC.out.mono ?_
        rintro e w1 ⟨rfl, rfl⟩
        clear HC
        go_wp2
        go_round
        case rel => exact ⟨k + 1, by omega, by go_num, HF⟩
        case measure => simp [intOf]; omega
    · obtain rfl : k = N := by omega
      have HF := Lib.hid (show Jr.long xs = false by rw [← hrel.out, List.take_of_length_le (by rw [HN.out]; omega)])
      clear hlt hk hrel
      go_wp2
      go_ret
      exact ⟨⟨_, rfl, by rw [HF.out]; rfl⟩, rfl⟩
set_option maxHeartbeats 400000 in
theorem containsLong_any (w : World) (A : Option Addr) (c : Nat) (xs : List (List UInt8)) (hx : Strs w A xs) (hxl : ∀ x ∈ xs, x.length ≤ 100000000) :
    Calls Tryd.prog 38 #[.slice A xs.length c, .func (.func 39) #[] #[]] w fun e w' => e = .returned (.bool (Jr.long xs)) ∧ w' = w := by
  have HC := Lib.hid (indexLong_any w A c xs hx hxl)
  clear hx hxl
  go_enter Tryd.func38, Tryd.ntmps38
  go_wp2_with fail
  refine HC.out.mono ?_
  rintro e w1 ⟨⟨r, rfl, hr⟩, rfl⟩
  have HR := Lib.hid hr
  clear hr HC
  go_wp2
  go_ret
  exact ⟨by rw [← HR.out]; rfl, rfl⟩
end Go.Proofs.YthhkadeiplbdkaaDoor
