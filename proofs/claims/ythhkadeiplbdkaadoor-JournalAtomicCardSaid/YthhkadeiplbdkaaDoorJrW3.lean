/- Walks of the journal's functions, part 3: count. -/
import Derived.Test.YthhkadeiplbdkaaDoorJrW2
set_option linter.unusedVariables false
set_option linter.unusedSimpArgs false
namespace Go.Proofs.YthhkadeiplbdkaaDoor
open Go.RowKit

theorem str_inj {a b : List UInt8} (h : Dk.str a = Dk.str b) : a = b := by
  have := congrArg (fun s : ByteArray => s.data.toList) h
  simpa [Dk.str] using this
theorem str_eq_beq {a b : List UInt8} (h : a = b) : ((Dk.str a).toList == (Dk.str b).toList) = true := by rw [h]; simp
theorem str_ne_beq {a b : List UInt8} (h : a ≠ b) : ((Dk.str a).toList == (Dk.str b).toList) = false := str_ne fun e => h (str_inj e)
theorem str_extract (l : List UInt8) (a b : Nat) : (Dk.str l).extract a b = Dk.str ((l.drop a).take (b - a)) := by
  apply ByteArray.ext
  apply Array.ext'
  simp [Dk.str, List.extract_eq_take_drop]

set_option maxHeartbeats 400000 in
theorem count_zero (w : World) (p : Nat) (l : List UInt8) (room : Int) (h : l = Jr.zeros) :
    Calls Tryd.prog 28 #[.int .i64 (p : Int), .string (Dk.str l), .int .i64 room] w fun e w' => e = .returned (.int .i64 (Jr.cnt p l room)) ∧ Below w.heap.size w w' := by
  have e : Jr.cnt p l room = 0 := by unfold Jr.cnt; rw [if_pos h]
  rw [e]
  have hb1 := str_eq_beq h
  clear h e
  have HC := Lib.hid (zero_any w)
  generalize Dk.str l = s at hb1 ⊢
  generalize Dk.str Jr.zeros = z at hb1 HC
  go_enter Tryd.func28, Tryd.ntmps28
  go_wp2_with fail
  refine HC.out.mono ?_
  rintro e w1 ⟨rfl, hb⟩
  have HB1 := Lib.hid hb
  clear hb
  go_wp2
  go_ret
  exact ⟨rfl, HB1.out⟩

set_option maxHeartbeats 400000 in
theorem count_else (w : World) (hE : Env w) (p : Nat) (hp : p < 10 ^ 8) (l : List UInt8) (room : Int) (hr : room < 10 ^ 8) (hl : l.length = 64) (h : l ≠ Jr.zeros) :
    Calls Tryd.prog 28 #[.int .i64 (p : Int), .string (Dk.str l), .int .i64 room] w fun e w' => e = .returned (.int .i64 (Jr.cnt p l room)) ∧ Below w.heap.size w w' := by
  have HE := Lib.hid hE
  have hb1 := str_ne_beq h
  have HC := Lib.hid (zero_any w)
  have HR := Lib.hid (show Jr.cnt p l room = if (atoiV ((l.drop 16).take 8)).2 = true ∧ 0 ≤ (atoiV ((l.drop 16).take 8)).1 ∧ (atoiV ((l.drop 16).take 8)).1 ≤ room ∧ Jr.head p (atoiV ((l.drop 16).take 8)).1.toNat = l then (atoiV ((l.drop 16).take 8)).1 else -1 by
    unfold Jr.cnt; rw [if_neg h])
  have HA := Lib.hid (fun W (h : Env W) => atoi_any W h ((Dk.str l).extract 16 24) (by rw [str_extract, Dk.str_size, List.length_take]; omega))
  have HX := Lib.hid (show ((Dk.str l).extract 16 24).data.toList = (l.drop 16).take 8 by rw [str_extract]; rfl)
  have hls : (Dk.str l).size = 64 := by rw [Dk.str_size, hl]
  have hls1 : 24 ≤ (Dk.str l).size := by omega
  have hls2 : (Dk.str l).size ≤ 64 := by omega
  have HP := Lib.hid hp
  have HHS := Lib.hid (fun n : Nat => show ((Dk.str (Jr.head p n)).toList == (Dk.str l).toList) = decide (Jr.head p n = l) by
    by_cases e : Jr.head p n = l
    · rw [str_eq_beq e, decide_eq_true e]
    · rw [str_ne_beq e, decide_eq_false e])
  obtain ⟨z, hz⟩ : ∃ z, Dk.str Jr.zeros = z := ⟨_, rfl⟩
  rw [hz] at HC hb1
  obtain ⟨r, hr2⟩ : ∃ r, Jr.cnt p l room = r := ⟨_, rfl⟩
  rw [hr2] at HR ⊢
  obtain ⟨s, hs⟩ : ∃ s, Dk.str l = s := ⟨_, rfl⟩
  rw [hs] at hb1 HA HX hls1 hls2 HHS ⊢
  clear hE h hp hl hls hz hr2 hs
  go_enter Tryd.func28, Tryd.ntmps28
  go_wp2_with fail
  refine HC.out.mono ?_
  rintro e w1 ⟨rfl, hb⟩
  have HB1 := Lib.hid hb
  have hz1 := hb.size
  clear hb HC
  go_wp2_with fail
  refine (HA.out w1 (HE.out.new HB1.out)).mono ?_
  rintro e w2 ⟨ev, rfl, hev, hb⟩
  rw [HX.out] at hev ⊢
  have HB2 := Lib.hid (bthen HB1.out hz1 hb)
  have hz2 := Nat.le_trans hz1 hb.size
  clear hb HA HX
  obtain ⟨v, hv⟩ : ∃ v, atoiV ((l.drop 16).take 8) = v := ⟨_, rfl⟩
  rw [hv] at hev HR ⊢
  obtain ⟨n, ok⟩ := v
  simp only at hev HR ⊢
  clear hv
  rcases hev with ⟨rfl, rfl⟩ | ⟨rfl, te, pe, rfl⟩
  · by_cases h0 : n < 0
    · have HF := Lib.hid (show r = -1 by rw [HR.out, if_neg]; omega)
      clear HR
      go_wp2
      go_ret
      rw [HF.out]
      exact ⟨rfl, HB2.out⟩
    · by_cases h1 : room < n
      · have HF := Lib.hid (show r = -1 by rw [HR.out, if_neg]; omega)
        clear HR
        go_wp2
        go_ret
        rw [HF.out]
        exact ⟨rfl, HB2.out⟩
      · obtain ⟨m, rfl⟩ := Int.eq_ofNat_of_zero_le (show 0 ≤ n by omega)
        have hm : m < 10 ^ 8 := by omega
        have hq := HHS.out m
        have HM := Lib.hid hm
        by_cases he : Jr.head p m = l
        · have HF := Lib.hid (show r = (m : Int) by rw [HR.out, if_pos]; exact ⟨rfl, by omega, by omega, by rw [Int.toNat_natCast]; exact he⟩)
          rw [decide_eq_true he] at hq
          clear HR hm he
          go_wp2_with fail
          refine (head_any w2 (HE.out.new HB2.out) p m HP.out HM.out).mono ?_
          rintro e w3 ⟨rfl, hb⟩
          have HB3 := Lib.hid (bthen HB2.out hz2 hb)
          clear hb
          go_wp2
          go_ret
          rw [HF.out]
          exact ⟨rfl, HB3.out⟩
        · have HF := Lib.hid (show r = -1 by rw [HR.out, if_neg]; rw [Int.toNat_natCast]; exact fun h => he h.2.2.2)
          rw [decide_eq_false he] at hq
          clear HR hm he
          go_wp2_with fail
          refine (head_any w2 (HE.out.new HB2.out) p m HP.out HM.out).mono ?_
          rintro e w3 ⟨rfl, hb⟩
          have HB3 := Lib.hid (bthen HB2.out hz2 hb)
          clear hb
          go_wp2
          go_ret
          rw [HF.out]
          exact ⟨rfl, HB3.out⟩
  · have HF := Lib.hid (show r = -1 by rw [HR.out, if_neg]; simp)
    clear HR
    go_wp2
    go_ret
    rw [HF.out]
    exact ⟨rfl, HB2.out⟩
theorem count_any' (w : World) (hE : Env w) (p : Nat) (hp : p < 10 ^ 8) (l : List UInt8) (room : Int) (hr : room < 10 ^ 8) (hl : l.length = 64) :
    Calls Tryd.prog 28 #[.int .i64 (p : Int), .string (Dk.str l), .int .i64 room] w fun e w' => e = .returned (.int .i64 (Jr.cnt p l room)) ∧ Below w.heap.size w w' := by
  by_cases h : l = Jr.zeros
  · exact count_zero w p l room h
  · exact count_else w hE p hp l room hr hl h
end Go.Proofs.YthhkadeiplbdkaaDoor
