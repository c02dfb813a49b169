/- The acts of the disk's laws as plain data. -/
import Derived.Test.YthcjlohdfcdloaaDiskW7
set_option linter.unusedVariables false
set_option linter.unusedSimpArgs false
namespace Go.Proofs.Ythcjlohdfcdloaa
open Go.RowKit

structure Ac where
  kind : Int
  sector : Int
  bytes : Int
  text : ByteArray
  odd : Bool
  after : Int

namespace Ac
def cells (a : Ac) : Array Value := #[.int .i64 a.kind, .int .i64 a.sector, .int .i64 a.bytes, .string a.text, .bool a.odd, .int .i64 a.after]
def Wf (a : Ac) : Prop := Dk.i64 a.kind ∧ Dk.i64 a.sector ∧ Dk.i64 a.bytes ∧ a.text.size ≤ 140737488351232 ∧ Dk.i64 a.after
/-- k copies of a text. -/
def reps (t : List UInt8) (k : Nat) : List UInt8 := (List.replicate k t).flatten
theorem reps_length (t : List UInt8) (k : Nat) : (reps t k).length = k * t.length := by simp [reps]
theorem reps_succ (t : List UInt8) (k : Nat) : reps t (k + 1) = reps t k ++ t := by
  unfold reps
  rw [List.replicate_succ', List.flatten_append, List.flatten_singleton]
theorem reps_prefix (t : List UInt8) (k j : Nat) : reps t (k + j) = reps t k ++ reps t j := by
  unfold reps
  rw [← List.flatten_append, List.replicate_append_replicate]
theorem reps_take (t : List UInt8) (k : Nat) (hk : k ≤ 64) (h : 64 ≤ (reps t k).length) : (reps t k).take 64 = (reps t 64).take 64 := by
  obtain ⟨j, e⟩ : ∃ j, 64 = k + j := ⟨64 - k, by omega⟩
  have e2 : reps t 64 = reps t k ++ reps t j := by rw [← reps_prefix, ← e]
  rw [e2, List.take_append_of_le_length h]
def rep (t : List UInt8) : List UInt8 := (reps t 64).take 64
theorem rep_length (t : List UInt8) (h : 0 < t.length) : (rep t).length = 64 := by
  unfold rep
  rw [List.length_take, reps_length]
  have : 64 * 1 ≤ 64 * t.length := Nat.mul_le_mul_left 64 h
  omega
def txt (a : Ac) : ByteArray := if a.odd = true ∨ a.text.size = 0 then a.text else ⟨(rep a.text.data.toList).toArray⟩
end Ac
theorem Ac.txt_of (t : ByteArray) (k : Nat) (hk : k ≤ 64) (h : 64 ≤ (Ac.reps t.data.toList k).length) (a : Ac) (ht : a.text = t) (ho : a.odd = false) (h0 : t.size ≠ 0) :
    (ByteArray.mk (Ac.reps t.data.toList k).toArray).extract 0 64 = a.txt := by
  unfold Ac.txt
  rw [ht, ho, if_neg (by simp [h0])]
  unfold Ac.rep
  rw [← Ac.reps_take _ k hk h]
  apply ByteArray.ext
  simp [ByteArray.data_extract, List.extract_eq_take_drop]
def strOf : Value → ByteArray | .string s => s | _ => ⟨#[]⟩
def fillv (t : ByteArray) : ByteArray := Ac.txt ⟨0, 0, 0, t, false, 0⟩

set_option maxHeartbeats 400000 in
theorem text_any (w : World) (a : Ac) (ht : a.text.size ≤ 140737488351232) :
    Calls Try.prog 24 #[.agg a.cells] w fun e w' => e = .returned (.string a.txt) ∧ Below w.heap.size w w' := by
  obtain ⟨r, hr⟩ : ∃ r, a.txt = r := ⟨_, rfl⟩
  rw [hr]
  have HR := Lib.hid hr
  obtain ⟨kind, sector, bytes, t, odd, after⟩ := a
  unfold Ac.cells
  simp only at ht ⊢
  clear hr
  cases odd with
  | true =>
    go_enter Try.func24, Try.ntmps24
    go_wp2
    go_ret
    exact ⟨by rw [← HR.out]; simp [Ac.txt], (Below.refl _ _).alloc (Nat.le_refl _) _⟩
  | false =>
    by_cases h0 : t.size = 0
    · obtain rfl : t = ⟨#[]⟩ := by
        cases t with | mk d => simp [ByteArray.size] at h0; rw [h0]
      clear h0
      go_enter Try.func24, Try.ntmps24
      go_wp2
      go_ret
      exact ⟨by rw [← HR.out]; unfold Ac.txt; rw [if_pos (.inr rfl)]; rfl, (Below.refl _ _).alloc (Nat.le_refl _) _⟩
    · have h1 : t.toList.isEmpty = false := by
        rw [← decide_eq_emptyBytes, decide_eq_false_iff_not]
        rintro rfl
        exact h0 rfl
      have HH0 := Lib.hid h0
      clear h0
      go_enter Try.func24, Try.ntmps24
      go_wp2
      go_loop [3] (fun v => ∃ k : Nat, k ≤ 64 ∧ v = .string ⟨(Ac.reps t.data.toList k).toArray⟩ ∧ k ≤ (Ac.reps t.data.toList k).length ∧ (Ac.reps t.data.toList k).length < 64 + t.size) (fun v => 64 - (strOf v).size)
      case atStart => exact ⟨0, by omega, rfl, by simp, by simp [Ac.reps]; omega⟩
      case round =>
        obtain ⟨k, hk, rfl, hkl, hku⟩ := hrel
        have hts := Dk.data_len t
        have hpos : 0 < t.size := Nat.pos_of_ne_zero HH0.out
        have HTS := Lib.hid hts
        clear hts
        go_wp2
        · have hlt : ((Ac.reps t.data.toList k).length : Int) < 64 := by assumption
          have hts := HTS.out
          have hsucc : (Ac.reps t.data.toList (k + 1)).length = (Ac.reps t.data.toList k).length + t.size := by rw [Ac.reps_succ, List.length_append, hts]
          refine ⟨⟨k + 1, by omega, ?_, by omega, by omega⟩, ?_⟩
          · rw [Ac.reps_succ]
            congr 1
          · simp only [strOf, ByteArray.size_append]
            have : (ByteArray.mk (Ac.reps t.data.toList k).toArray).size = (Ac.reps t.data.toList k).length := by simp [ByteArray.size]
            omega
        · have hge : 64 ≤ ((Ac.reps t.data.toList k).length : Int) := by assumption
          go_ret
          refine ⟨?_, (Below.refl _ _).alloc (Nat.le_refl _) _⟩
          show Ending.returned (.string ((ByteArray.mk (Ac.reps t.data.toList k).toArray).extract 0 64)) = _
          rw [← HR.out, Ac.txt_of t k hk (by omega) ⟨kind, sector, bytes, t, false, after⟩ rfl rfl HH0.out]
end Go.Proofs.Ythcjlohdfcdloaa
