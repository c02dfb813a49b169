/- Walks of the reference's functions, part 2: settle. -/
import Derived.Test.YthcjlohdfcdloaaRefW1
set_option linter.unusedVariables false
set_option linter.unusedSimpArgs false
namespace Go.Proofs.Ythcjlohdfcdloaa
open Go.RowKit

theorem Dk.str_data (s : ByteArray) : Dk.str s.data.toList = s := by cases s; rfl
theorem Dk.put_full {st : List (List UInt8)} (h : ∀ s ∈ st, s.length = 64) {i : Nat} (hi : i < st.length) {bs : List UInt8} (hb : bs.length = 64) : Dk.put st i bs = st.set i bs := by
  unfold Dk.put Dk.over
  rw [List.drop_eq_nil_of_le (by rw [Dk.getD_len h hi, hb]; exact Nat.le_refl _), List.append_nil]
section
variable {w : World} {S : Nat → Prop} {db : Nat} {sv qv : Value} {am : Bool} {x y z : Int} {D : Dk}
theorem RefL.queue_slice (h : RefL w S db sv qv am x y z D) : ∃ A L c, qv = .slice A L c ∧ L = D.q.length ∧ L ≤ c ∧ c ≤ maxLen := by
  rcases h.queue.2 with ⟨hv, h0⟩ | ⟨g, cap, cur, hv, _, hh, hc, hm, _⟩
  · exact ⟨none, 0, 0, hv, h0.symm, Nat.le_refl _, by simp [maxLen]⟩
  · exact ⟨_, _, _, hv, rfl, hc, hm⟩
theorem RefL.queue_form (h : RefL w S db sv qv am x y z D) (hq : 0 < D.q.length) : ∃ g c, qv = .slice (some ⟨g, 0, none⟩) D.q.length c ∧ g < w.heap.size ∧ D.q.length ≤ c := by
  rcases h.queue.2 with ⟨_, h0⟩ | ⟨g, cap, cur, hv, _, hh, hc, _⟩
  · omega
  · exact ⟨g, cap, hv, (Array.getElem?_eq_some_iff.1 hh).1, hc⟩
theorem RefL.queue_cell {g c m : Nat} (h : RefL w S db sv (.slice (some ⟨g, 0, none⟩) m c) am x y z D) {k : Nat} (hk : k < D.q.length) (j : Nat) (hj : j < 2) :
    w.cell? ⟨g, k * 2 + j, none⟩ = (refCells D.q[k])[j]? := by
  rw [Nat.mul_comm k 2]
  have hm : m = D.q.length := by
    rcases h.queue.2 with ⟨h1, _⟩ | ⟨g, cap, cur, hv, _⟩
    · cases h1
    · injection hv
  subst hm
  rw [h.queue.cellAt (2 * k + j) (by omega), refV_at _ _ hk _ hj]
end
def RSettleRel (S : Nat → Prop) (w : World) (db : Nat) (sv qv : Value) (am : Bool) (x y z : Int) (D : Dk) (k : Nat) (w' : World) : Prop :=
  RefL w' S db sv qv am x y z { D with st := Dk.settle D.st (D.q.take k) } ∧ Touch (fun k => sv.ownBlock = some k) w w'

set_option maxHeartbeats 400000 in
theorem rsettle_any (w : World) (S : Nat → Prop) (db : Nat) (sv qv : Value) (am : Bool) (x y z : Int) (D : Dk) (n : Nat) (h : RefL w S db sv qv am x y z D) (hn : n ≤ D.q.length) (hb : D.q.length ≤ 1000000) :
    Calls Try.prog 46 #[.pointer (some ⟨db, 0, none⟩), .int .i64 (n : Int)] w (RSetPost S w db sv qv am x y z { D with st := Dk.settle D.st (D.q.take n) }) := by
  have H := Lib.hid h
  clear h
  have hn' : n ≤ 1000000 := by omega
  go_enter Try.func46, Try.ntmps46
  go_wp2
  go_loopw [4] (fun i wr => ∃ k : Nat, k ≤ n ∧ i = .int .i64 (k : Int) ∧ RSettleRel S w db sv qv am x y z D k wr) (fun i _ => n - (intOf i).toNat)
  case atStart => exact ⟨0, Nat.zero_le _, rfl, H.out, Touch.refl _ _⟩
  case round =>
    obtain ⟨k, hk, rfl, hrel⟩ := hrel
    have HR := Lib.hid hrel
    clear hrel
    by_cases hlt : k < n
    · obtain ⟨g, c', rfl, hg, hc⟩ := HR.out.1.queue_form (by show 0 < D.q.length; omega)
      have hl := HR.out.1
      have hkq : k < D.q.length := by omega
      have hpi := hl.inv.pend D.q[k] (List.getElem_mem hkq)
      have hlen : (Dk.settle D.st (D.q.take k)).length = D.st.length := Dk.settle_length _ _
      have c0 : wr.cell? ⟨g, k * 2, none⟩ = some (.int .i64 (D.q[k].1 : Int)) := hl.queue_cell (k := k) hkq 0 (by omega)
      have c1 : wr.cell? ⟨g, k * 2 + 1, none⟩ = some (.string D.q[k].2) := hl.queue_cell (k := k) hkq 1 (by omega)
      have hnext : D.q.take (k + 1) = D.q.take k ++ [D.q[k]] := by rw [List.take_succ_eq_append_getElem hkq]
      generalize D.q[k] = pp at c0 c1 hpi hnext
      obtain ⟨pi, ps⟩ := pp
      simp only at c0 c1 hpi
      have m1 := hl.main.cell 1
      have mlt := hl.main.lt
      have hset := rset_any wr.drew S db _ _ am x y z _ pi ps.data.toList (hl.below ((Below.refl _ _).drew)) (by show pi < (Dk.settle _ _).length; exact hpi.1) (by rw [Dk.data_len]; exact hpi.2)
      rw [Dk.str_data] at hset
      simp only at hset
      rw [← Dk.put_full hl.inv.sec hpi.1 (by rw [Dk.data_len]; exact hpi.2), ← Dk.settle_snoc _ _ (pi, ps), ← hnext] at hset
      have HC := Lib.hid hset
      have hk3 : (k : Int) < (D.q.length : Int) := by omega
      generalize hq : D.q.length = L at hk3 m1 hb HC c0 c1 HR H
      clear hl hc hpi hnext hkq hlen hset hq hn hb
      go_wp2_with fail
      go_still_tail 17, (by kernel_rfl)
      change wpList _ _ _ _ _ wr.drew
      go_wp2_with fail
      refine HC.out.mono ?_
      rintro e w1 ⟨rfl, hp, ht⟩
      have HP := Lib.hid hp
      have HT := Lib.hid ht
      clear hp ht HC
      go_wp2
      go_roundw
      case rel => exact ⟨k + 1, by omega, by go_num, HP.out, (HR.out.2.drew).trans HT.out fun _ _ => id⟩
      case measure => simp [intOf]; omega
    · have hk' : k = n := by omega
      subst hk'
      clear hlt hk
      go_wp2
      go_end0
      exact ⟨rfl, HR.out.1, HR.out.2⟩
end Go.Proofs.Ythcjlohdfcdloaa
