/- Walks of the journal's functions, part 5: text. -/
import Derived.Test.YthhkadeiplbdkaaDoorJrW4
set_option linter.unusedVariables false
set_option linter.unusedSimpArgs false
namespace Go.Proofs.YthhkadeiplbdkaaDoor
open Go.RowKit

/-- A slice of strings that can be read. -/
structure Strs (w : World) (A : Option Addr) (xs : List (List UInt8)) : Prop where
  len : xs.length ≤ 9223372036854775807
  at_ : 0 < xs.length → ∃ b o, A = some ⟨b, o, none⟩ ∧ b < w.heap.size ∧ ∀ k (h : k < xs.length), w.cell? ⟨b, o + k, none⟩ = some (.string (Dk.str xs[k]))
theorem Strs.below {w w' : World} {A : Option Addr} {xs : List (List UInt8)} (h : Strs w A xs) {B : Nat} (hb : Below B w w') (hB : ∀ b o, A = some ⟨b, o, none⟩ → b < B) : Strs w' A xs :=
  ⟨h.len, fun h0 => by
    obtain ⟨b, o, rfl, hlt, hc⟩ := h.at_ h0
    exact ⟨b, o, rfl, Nat.lt_of_lt_of_le hlt hb.size, fun k hk => by rw [hb.cell (p := ⟨b, _, none⟩) (hB b o rfl)]; exact hc k hk⟩⟩
theorem Strs.new {w w' : World} {A : Option Addr} {xs : List (List UInt8)} (h : Strs w A xs) (hb : Below w.heap.size w w') : Strs w' A xs :=
  ⟨h.len, fun h0 => by
    obtain ⟨b, o, rfl, hlt, hc⟩ := h.at_ h0
    exact ⟨b, o, rfl, Nat.lt_of_lt_of_le hlt hb.size, fun k hk => by rw [hb.cell (p := ⟨b, _, none⟩) hlt]; exact hc k hk⟩⟩
theorem Strs.touch {w w' : World} {A : Option Addr} {xs : List (List UInt8)} (h : Strs w A xs) {S : Nat → Prop} (hb : Touch S w w') (hB : ∀ b o, A = some ⟨b, o, none⟩ → ¬ S b) : Strs w' A xs :=
  ⟨h.len, fun h0 => by
    obtain ⟨b, o, rfl, hlt, hc⟩ := h.at_ h0
    exact ⟨b, o, rfl, Nat.lt_of_lt_of_le hlt hb.size, fun k hk => by rw [World.cell?_of_block (hb.block b hlt (hB b o rfl))]; exact hc k hk⟩⟩
theorem Strs.of_own {w : World} {base n c : Nat} {A : Option Addr} {xs : List (List UInt8)} (h : w.ownsRow base 9 1 (.slice A n c) n (strL xs)) : n = xs.length ∧ Strs w A xs := by
  have hn : n = xs.length := by have := h.1; rw [strL_length] at this; omega
  subst hn
  refine ⟨rfl, ?_, fun h0 => ?_⟩
  · rcases h.2 with ⟨_, h0⟩ | ⟨g, cap, cur, hv, _, hh, hc, hm, _⟩
    · omega
    · unfold maxLen at hm; omega
  · obtain ⟨g, cap, hv, _, hlt⟩ := h.form h0
    injection hv with hA
    subst hA
    exact ⟨g, 0, rfl, hlt, fun k hk => by
      rw [Nat.zero_add, h.cellAt k (by omega)]
      simp [strL, hk]⟩

theorem text_snoc (xs : List (List UInt8)) (r : List UInt8) : Jr.text (xs ++ [r]) = Jr.text xs ++ (Jr.decs r.length ++ 58 :: r) := by simp [Jr.text]
theorem text_take_le (xs : List (List UInt8)) (k : Nat) : (Jr.text (xs.take k)).length ≤ (Jr.text xs).length := by
  have e : Jr.text xs = Jr.text (xs.take k) ++ Jr.text (xs.drop k) := by
    unfold Jr.text
    rw [← List.flatMap_append, List.take_append_drop]
  rw [e, List.length_append]; omega

set_option maxRecDepth 100000 in
set_option maxHeartbeats 400000 in
theorem text_any' (w : World) (hE : Env w) (A : Option Addr) (c : Nat) (xs : List (List UInt8)) (hx : Strs w A xs) (hl : (Jr.text xs).length ≤ 100000000) :
    Calls Tryd.prog 41 #[.slice A xs.length c] w fun e w' => e = .returned (.string (Dk.str (Jr.text xs))) ∧ Below w.heap.size w w' := by
  have HX := Lib.hid hx
  have HE := Lib.hid hE
  have HL := Lib.hid hl
  have hlen := hx.len
  obtain ⟨N, hN⟩ : ∃ N, xs.length = N := ⟨_, rfl⟩
  have HN := Lib.hid hN
  rw [hN] at hlen ⊢
  clear hx hE hl hN
  go_enter Tryd.func41, Tryd.ntmps41
  go_wp2
  go_loopw [5, 8] (fun _ i wr => ∃ k : Nat, k ≤ N ∧ i = .int .i64 (k : Int) ∧ (BAt w.heap.size w.heap.size (Jr.text (xs.take k)) wr ∧ Below w.heap.size w wr)) (fun _ i _ => N - (intOf i).toNat)
  case atStart => exact ⟨0, Nat.zero_le _, rfl, BAt.new w, (Below.refl _ _).alloc (Nat.le_refl _) _⟩
  case round =>
    obtain ⟨k, hk, rfl, hrel⟩ := hrel
    have HR := Lib.hid hrel
    clear hrel
    by_cases hlt : k < N
    · obtain ⟨b, o, rfl, hb0, hc0⟩ := HX.out.at_ (by rw [HN.out]; omega)
      have hkn : k < xs.length := by rw [HN.out]; exact hlt
      have hcell := (HR.out.2.cell (p := ⟨b, o + k, none⟩) hb0).trans (hc0 k hkn)
      have hbl := Nat.lt_of_lt_of_le hb0 HR.out.2.size
      have hk0 : (0 : Int) ≤ (k : Int) := by omega
      have hk1 : (k : Int) < (N : Int) := by omega
      have e1 : Jr.text (xs.take (k + 1)) = Jr.text (xs.take k) ++ (Jr.decs xs[k].length ++ 58 :: xs[k]) := by
        rw [List.take_succ_eq_append_getElem hkn, text_snoc]
      have hbound : (Jr.text (xs.take k)).length + (Jr.decs xs[k].length ++ 58 :: xs[k]).length ≤ 100000000 := by
        have h := text_take_le xs (k + 1)
        rw [e1, List.length_append] at h
        have := HL.out
        omega
      obtain ⟨r, hr⟩ : ∃ r, xs[k] = r := ⟨_, rfl⟩
      rw [hr] at hcell e1 hbound
      have hrl : r.length ≤ 100000000 := by simp at hbound; omega
      have hdl : (Jr.decs r.length).length ≤ 20 := by
        rw [Jr.decs_eq _ (by omega), Lib.decDigits_length]
        have h := Jr.dig_dec 19 r.length (by omega)
        exact h.1
      have HC := Lib.hid (itoa_any wr (HE.out.new HR.out.2) (r.length : Int) (by omega) (by omega))
      rw [Jr.itoa_nat _ (by omega)] at HC
      have HE1 := Lib.hid e1
      have HBD := Lib.hid hbound
      have hd2 : (Dk.str (Jr.decs r.length)).size ≤ 20 := by rw [Dk.str_size]; exact hdl
      have hrs : (Dk.str r).size = r.length := Dk.str_size r
      have hrs2 : (Dk.str r).size ≤ 100000000 := by omega
      have HCAT := Lib.hid (show Dk.str (Jr.decs r.length) ++ (⟨#[58]⟩ : ByteArray) ++ Dk.str r = Dk.str (Jr.decs r.length ++ 58 :: r) by
        rw [show (⟨#[58]⟩ : ByteArray) = Dk.str [58] from rfl, str_append, str_append]; simp)
      change Hid (Calls _ _ _ _ fun e w' => e = .returned (.string (Dk.str (Jr.decs r.length))) ∧ Below wr.heap.size wr w') at HC
      rw [← hrs] at HC
      have HRS := Lib.hid hrs
      generalize hdd : Dk.str (Jr.decs r.length) = d at hd2 HCAT
      rw [hrs, hdd] at HC
      obtain ⟨s, hs⟩ : ∃ s, Dk.str r = s := ⟨_, rfl⟩
      rw [hs] at hcell hrs2 HCAT HRS
      rw [← HRS.out] at HC
      clear e1 hbound hr hrl hdl hrs hdd hs hkn hc0
      go_wp2_with fail
      refine HC.out.mono ?_
      rintro e w1 ⟨rfl, hb1⟩
      have HB1 := Lib.hid (bthen HR.out.2 HR.out.2.size hb1)
      have HBA := Lib.hid (HR.out.1.below hb1)
      clear hb1 HC hcell
      go_wp2_with fail
      rw [HCAT.out]
      refine (bwrite_at _ _ _ _ w1 HBA.out (by have := HBD.out; omega)).mono ?_
      rintro e w2 ⟨rfl, h2, hb2⟩
      rw [← HE1.out] at h2
      have HBA2 := Lib.hid h2
      have HB2 := Lib.hid (HB1.out.trans hb2)
      clear h2 hb2 HBA HB1
      go_wp2
      go_roundw
      case rel => exact ⟨k + 1, by omega, by go_num, HBA2.out, HB2.out⟩
      case measure => simp [intOf]; omega
    · obtain rfl : k = N := by omega
      have e1 : xs.take k = xs := List.take_of_length_le (by rw [HN.out]; omega)
      rw [e1] at HR
      clear hlt hk e1
      go_wp2_with fail
      refine (bstring_at _ _ _ _ HR.out.1).mono ?_
      rintro e w1 ⟨rfl, hb1⟩
      have HB1 := Lib.hid (HR.out.2.trans hb1)
      clear hb1
      go_wp2
      go_ret
      exact ⟨rfl, HB1.out⟩
end Go.Proofs.YthhkadeiplbdkaaDoor
