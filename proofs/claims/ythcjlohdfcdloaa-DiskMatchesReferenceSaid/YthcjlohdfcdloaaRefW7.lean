/- Walks of the reference's functions, part 7: Read. -/
import Derived.Test.YthcjlohdfcdloaaRefW6
set_option linter.unusedVariables false
set_option linter.unusedSimpArgs false
namespace Go.Proofs.Ythcjlohdfcdloaa
open Go.RowKit

/-- The text of the last of some pending writes, or else the stable bytes. -/
def Dk.last (st : List (List UInt8)) (i : Nat) (q : List (Nat × ByteArray)) : ByteArray :=
  match q.reverse.find? (fun p => p.1 == i) with
  | some p => p.2
  | none => Dk.str (st.getD i [])
theorem Dk.last_snoc (st : List (List UInt8)) (i : Nat) (q : List (Nat × ByteArray)) (p : Nat × ByteArray) : Dk.last st i (q ++ [p]) = if p.1 = i then p.2 else Dk.last st i q := by
  unfold Dk.last
  rw [List.reverse_append]
  by_cases h : p.1 = i
  · simp [List.find?_cons, h]
  · have : (p.1 == i) = false := by simpa using h
    simp [List.find?_cons, h, this]

set_option maxHeartbeats 400000 in
theorem rread_off (w : World) (S : Nat → Prop) (db : Nat) (D : Dk) (i : Int) (hD : RefAt w S db D) (ho : D.off = true) :
    Calls Try.prog 19 #[.pointer (some ⟨db, 0, none⟩), .int .i64 i] w fun e w' => e = .returned (.tuple #[.string (D.read i).1, .int .i64 (D.read i).2]) ∧ w = w' := by
  have e : D.read i = (Dk.str [], 28) := by unfold Dk.read; rw [if_pos ho]
  rw [e]
  obtain ⟨sv, qv, am, x, y, z, h⟩ := hD
  have hc2 := h.main.cell 2
  have hlt := h.main.lt
  rw [ho] at hc2
  clear h ho e
  go_enter Try.func19, Try.ntmps19
  go_wp2
  go_ret2
  exact ⟨rfl, rfl⟩

set_option maxHeartbeats 400000 in
theorem rread_no (w : World) (S : Nat → Prop) (db : Nat) (D : Dk) (i : Int) (hD : RefAt w S db D) (ho : D.off = false) (hv : D.valid i = false) :
    Calls Try.prog 19 #[.pointer (some ⟨db, 0, none⟩), .int .i64 i] w fun e w' => e = .returned (.tuple #[.string (D.read i).1, .int .i64 (D.read i).2]) ∧ w = w' := by
  have e : D.read i = (Dk.str [], 1) := by unfold Dk.read; rw [ho, hv]; simp
  rw [e]
  obtain ⟨sv, qv, am, x, y, z, h⟩ := hD
  have hhi := h.inv.hi
  have hlo := h.inv.lo
  obtain ⟨g, c, rfl, _, hg⟩ := h.stab.form (by omega)
  have hc2 := h.main.cell 2
  have hc0 := h.main.cell 0
  have hlt := h.main.lt
  rw [ho] at hc2
  simp only [Dk.valid, Bool.and_eq_false_iff, decide_eq_false_iff_not] at hv
  obtain ⟨N, hN⟩ : ∃ N, N = D.st.length := ⟨_, rfl⟩
  rw [← hN] at hc0 hhi hlo hv
  by_cases h0 : i < 0
  · clear h e hv ho hN
    go_enter Try.func19, Try.ntmps19
    go_wp2
    go_ret2
    exact ⟨rfl, rfl⟩
  · have h1 : (N : Int) ≤ i := by omega
    clear h e hv ho hN
    go_enter Try.func19, Try.ntmps19
    go_wp2
    go_ret2
    exact ⟨rfl, rfl⟩

set_option maxHeartbeats 400000 in
theorem rread_yes (w : World) (S : Nat → Prop) (db : Nat) (D : Dk) (i : Nat) (hD : RefAt w S db D) (ho : D.off = false) (hi : i < D.st.length) (hq : D.q.length ≤ 1000000) :
    Calls Try.prog 19 #[.pointer (some ⟨db, 0, none⟩), .int .i64 (i : Int)] w fun e w' => e = .returned (.tuple #[.string (D.read (i : Int)).1, .int .i64 (D.read (i : Int)).2]) ∧ w = w' := by
  have e : D.read (i : Int) = (Dk.last D.st i D.q, 0) := by
    unfold Dk.read
    rw [ho, show D.valid (i : Int) = true by simp only [Dk.valid, Bool.and_eq_true, decide_eq_true_eq]; omega]
    rfl
  rw [e]
  obtain ⟨sv, qv, am, x, y, z, h⟩ := hD
  have hhi := h.inv.hi
  obtain ⟨sg, sc, rfl, _, hsg⟩ := h.stab.form (by omega)
  obtain ⟨A, L, c, rfl, hL, hLc, hcm⟩ := h.queue_slice
  unfold maxLen at hcm
  have hm := h.main
  rw [ho] at hm
  have hc0 := hm.cell 0
  have hc1 := hm.cell 1
  have hc2 := hm.cell 2
  have hlt := hm.lt
  have d8 := h.stab.cellAt i (by omega)
  rw [show (stV D)[i]? = some (.string (Dk.str (D.st.getD i []))) by simp [stV, strV, List.getD_eq_getElem?_getD, List.getElem?_eq_getElem hi]] at d8
  have h00 : Dk.last D.st i (D.q.take 0) = Dk.str (D.st.getD i []) := by simp [Dk.last]
  rw [← h00] at d8
  have H := Lib.hid h
  have HL := Lib.hid hL
  have hL' : L ≤ 1000000 := by omega
  obtain ⟨N, hN⟩ : ∃ N, N = D.st.length := ⟨_, rfl⟩
  rw [← hN] at hc0 hhi hi
  have hi2 : (i : Int) < (N : Int) := by omega
  clear h hL e hN hm ho h00 hq
  go_enter Try.func19, Try.ntmps19
  go_wp2
  go_loop [6, 7] (fun o j => ∃ k : Nat, k ≤ L ∧ j = .int .i64 (k : Int) ∧ o = .string (Dk.last D.st i (D.q.take k))) (fun _ j => L - (intOf j).toNat)
  case atStart => exact ⟨0, Nat.zero_le _, rfl, rfl⟩
  case round =>
    obtain ⟨k, hk, rfl, rfl⟩ := hrel
    by_cases hk2 : k < L
    · have hkq : k < D.q.length := by have := HL.out; omega
      obtain ⟨g, c', hq, hg, hc'⟩ := H.out.queue_form (by omega)
      injection hq with hA hm hcc
      subst hA
      have c0 : w.cell? ⟨g, k * 2, none⟩ = some (.int .i64 (D.q[k].1 : Int)) := H.out.queue_cell (k := k) hkq 0 (by omega)
      have c1 : w.cell? ⟨g, k * 2 + 1, none⟩ = some (.string D.q[k].2) := H.out.queue_cell (k := k) hkq 1 (by omega)
      have hnext := Dk.last_snoc D.st i (D.q.take k) D.q[k]
      rw [← List.take_succ_eq_append_getElem hkq] at hnext
      generalize D.q[k] = pp at c0 c1 hnext
      obtain ⟨pi, ps⟩ := pp
      simp only at c0 c1 hnext
      have hk3 : (k : Int) < (L : Int) := by omega
      by_cases hpi : pi = i
      · have b1 : ((pi : Int) == (i : Int)) = true := by simp [hpi]
        rw [if_pos hpi] at hnext
        have HN := Lib.hid hnext
        clear hnext hpi hm hcc
        go_wp2
        go_round
        case rel => exact ⟨k + 1, by omega, by go_num, by rw [HN.out]⟩
        case measure => simp [intOf]; omega
      · have b1 : ((pi : Int) == (i : Int)) = false := by simp; omega
        rw [if_neg hpi] at hnext
        have HN := Lib.hid hnext
        clear hnext hpi hm hcc
        go_wp2
        go_round
        case rel => exact ⟨k + 1, by omega, by go_num, by rw [HN.out]⟩
        case measure => simp [intOf]; omega
    · obtain rfl : k = L := by omega
      have e1 : D.q.take k = D.q := by rw [HL.out, List.take_length]
      rw [e1]
      clear hk2 hk e1
      go_wp2
      go_ret2
      exact ⟨rfl, rfl⟩
theorem rread_any (w : World) (S : Nat → Prop) (db : Nat) (D : Dk) (i : Int) (hD : RefAt w S db D) (hq : D.q.length ≤ 1000000) :
    Calls Try.prog 19 #[.pointer (some ⟨db, 0, none⟩), .int .i64 i] w fun e w' => e = .returned (.tuple #[.string (D.read i).1, .int .i64 (D.read i).2]) ∧ w = w' := by
  by_cases ho : D.off = true
  · exact rread_off w S db D i hD ho
  · simp only [Bool.not_eq_true] at ho
    by_cases hv : D.valid i = true
    · have h1 := hv
      simp only [Dk.valid, Bool.and_eq_true, decide_eq_true_eq] at h1
      obtain ⟨j, rfl⟩ := Int.eq_ofNat_of_zero_le h1.1
      exact rread_yes w S db D j hD ho (by omega) hq
    · exact rread_no w S db D i hD ho (by simpa using hv)
end Go.Proofs.Ythcjlohdfcdloaa
