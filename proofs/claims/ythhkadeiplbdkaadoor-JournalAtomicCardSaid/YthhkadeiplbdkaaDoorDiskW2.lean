/- Walks of the disk's functions, part 2: set, settle, Fail. -/
import Derived.Test.YthhkadeiplbdkaaDoorDiskW1
set_option linter.unusedVariables false
set_option linter.unusedSimpArgs false
namespace Go.Proofs.YthhkadeiplbdkaaDoor
open Go.RowKit

theorem size_u8 : (Tryd.prog.info? 5).map (·.size) = some 1 := by kernel_rfl

def SetPost (S : Nat → Prop) (w : World) (db sb : Nat) (qv : Value) (ap : Option Addr) (D : Dk) (e : Ending) (w' : World) : Prop :=
  e = .returned (.tuple #[]) ∧ DiskL w' S db sb qv ap D ∧ Touch (fun k => k = sb) w w'

theorem DiskL.stored {S : Nat → Prop} {w w' : World} {db sb : Nat} {qv : Value} {ap : Option Addr} {D : Dk} (h : DiskL w S db sb qv ap D) (st : List (List UInt8)) (hl : st.length = D.st.length) (hsec : ∀ s ∈ st, s.length = 64)
    (ht : Touch (fun k => k = sb) w w') (hb : Blk w' sb 5 (Lib.byteCells st.flatten).toArray) : DiskL w' S db sb qv ap { D with st := st } := by
  have n1 := h.main.ne_ h.stab (by decide)
  refine ⟨?_, hb, ?_, ?_, h.sdb, h.ssb, h.sq, ⟨by rw [hl]; exact h.inv.lo, by rw [hl]; exact h.inv.hi, hsec, by rw [hl]; exact h.inv.pend, h.inv.alarm, h.inv.quiet⟩⟩
  · rw [hl]; exact ht.blk h.main n1
  · have n2 := own_blk_ne h.queue h.stab (by decide)
    exact ht.own h.queue fun k hk e => n2 (by rw [hk, e])
  · have ha := h.alarm
    match hal : D.al, ha with
    | none, ha => exact ha
    | some (a, b, c), ⟨ab, e, hb, hs⟩ => exact ⟨ab, e, ht.blk hb (hb.ne_ h.stab (by decide)), hs⟩

theorem set_close {S : Nat → Prop} {w w' : World} {db sb : Nat} {qv : Value} {ap : Option Addr} {D : Dk} {i : Nat} {s : ByteArray} {a N : Nat} (H : Hid (DiskL w S db sb qv ap D)) (hi : i < D.st.length) (hs : s.size ≤ 64)
    (HN : Hid (N = 64 * D.st.length)) (H7 : Hid (a = i * 64)) (hg : Hid (w'.heap[sb]? = some (.cells ((Lib.byteCells D.st.flatten).take a ++ Lib.byteCells s.data.toList ++ (Lib.byteCells D.st.flatten).drop (a + s.size)).toArray 5 (0, 0))))
    (o : Obj) (ht : Touch (fun k => k = sb) (w.alloc o).drew w') : SetPost S w db sb qv ap { D with st := Dk.put D.st i s.data.toList } (.returned (.tuple #[])) w' := by
  have h := H.out
  have e7 : a = i * 64 := H7.out
  have t : Touch (fun k => k = sb) w w' := (((Touch.refl (fun k => k = sb) w).alloc o).drew).trans ht fun _ _ => id
  refine ⟨rfl, h.stored _ (Dk.put_length _ _ _) (Dk.put_sec h.inv.sec hi (by rw [Dk.data_len]; exact hs)) t ?_, t⟩
  have hg' := hg.out
  rw [Dk.flat_put h.inv.sec hi (by rw [Dk.data_len]; exact hs)]
  subst e7
  unfold Blk
  rw [hg']
  simp [Lib.byteCells, Dk.data_len]

set_option maxHeartbeats 400000 in
theorem set_any (w : World) (S : Nat → Prop) (db sb : Nat) (qv : Value) (ap : Option Addr) (D : Dk) (i : Nat) (s : ByteArray) (h : DiskL w S db sb qv ap D) (hi : i < D.st.length) (hs : s.size ≤ 64) (a b : Int) (ha : a = (i : Int) * 64) (hb : b = ((i : Int) + 1) * 64) :
    Calls Tryd.prog 26 #[.pointer (some ⟨db, 0, none⟩), .agg #[.int .i64 a, .int .i64 b], .string s] w
      (SetPost S w db sb qv ap { D with st := Dk.put D.st i s.data.toList }) := by
  have hc0 := h.main.cell 0
  have hdb := h.main.lt
  have hsb := h.stab.lt
  have hhi := h.inv.hi
  have hst := h.stab.alloc (.cells #[.int .i64 a, .int .i64 b] 58)
  unfold Blk at hst
  have HS := Lib.hid hst
  have H := Lib.hid h
  have hlen : (Lib.byteCells D.st.flatten).length = 64 * D.st.length := by rw [Lib.byteCells_length, Dk.flat_length h.inv.sec]
  clear h hst
  obtain ⟨N, hN⟩ : ∃ N, N = 64 * D.st.length := ⟨_, rfl⟩
  rw [← hN] at hc0
  have h1 : (0 : Int) ≤ a := by omega
  have h2 : a ≤ b := by omega
  have h3 : b ≤ (N : Int) := by omega
  have h4 : b ≤ 256000 := by omega
  have h5 : (N : Int) ≤ 256000 := by omega
  have h6 : ¬ (N = a.toNat) := by omega
  have h7 : a.toNat = i * 64 := by omega
  have h8 : s.size ≤ b.toNat - a.toNat := by omega
  have h9 : a.toNat + s.size ≤ (Lib.byteCells D.st.flatten).length := by omega
  have HN := Lib.hid hN
  have H7 := Lib.hid h7
  have H8 := Lib.hid h8
  have H9 := Lib.hid h9
  clear ha hb hN hlen h7 h8 h9
  go_enter Tryd.func26, Tryd.ntmps26
  go_wp2
  go_region_law (refine step_copy_string rfl (.tmp 14) (.tmp 15) _ _ rfl 5 Tryd.underlying51 size_u8 sb a.toNat (b.toNat - a.toNat) (N - a.toNat) s (by simp [Act.eval, Act.put]) (by simp [Act.eval, Act.put]) _ 5 HS.out H8.out H9.out ?_; intro w2 hg2 ht2)
  all_goals (go_end0; exact set_close H hi hs HN H7 hg2 _ ht2)

theorem DiskL.queue_form {S : Nat → Prop} {w : World} {db sb : Nat} {qv : Value} {ap : Option Addr} {D : Dk} (h : DiskL w S db sb qv ap D) (hq : 0 < D.q.length) :
    ∃ g c, qv = .slice (some ⟨g, 0, none⟩) D.q.length c ∧ g < w.heap.size ∧ D.q.length ≤ c := by
  rcases h.queue.2 with ⟨_, h0⟩ | ⟨g, cap, cur, hv, _, hh, hc, _⟩
  · omega
  · exact ⟨g, cap, hv, (Array.getElem?_eq_some_iff.1 hh).1, hc⟩
theorem DiskL.queue_slice {S : Nat → Prop} {w : World} {db sb : Nat} {qv : Value} {ap : Option Addr} {D : Dk} (h : DiskL w S db sb qv ap D) :
    ∃ A L c, qv = .slice A L c ∧ L = D.q.length ∧ L ≤ c ∧ c ≤ maxLen := by
  rcases h.queue.2 with ⟨hv, h0⟩ | ⟨g, cap, cur, hv, _, hh, hc, hm, _⟩
  · exact ⟨none, 0, 0, hv, h0.symm, Nat.le_refl _, by simp [maxLen]⟩
  · exact ⟨_, _, _, hv, rfl, hc, hm⟩
theorem DiskL.queue_cell {S : Nat → Prop} {w : World} {db sb g c m : Nat} {ap : Option Addr} {D : Dk} (h : DiskL w S db sb (.slice (some ⟨g, 0, none⟩) m c) ap D) {k : Nat} (hk : k < D.q.length) (j : Nat) (hj : j < 3) :
    w.cell? ⟨g, k * 3 + j, none⟩ = (pendCells D.q[k])[j]? := by
  rw [Nat.mul_comm k 3]
  have hm : m = D.q.length := by
    rcases h.queue.2 with ⟨h1, _⟩ | ⟨g, cap, cur, hv, _⟩
    · cases h1
    · injection hv
  subst hm
  rw [h.queue.cellAt (3 * k + j) (by omega), pendV_at _ _ hk _ hj]

def SettlePost (S : Nat → Prop) (w : World) (db sb : Nat) (qv : Value) (ap : Option Addr) (D : Dk) (e : Ending) (w' : World) : Prop :=
  e = .returned (.tuple #[]) ∧ DiskL w' S db sb qv ap D ∧ Touch (fun k => k = sb) w w'
def SettleRel (S : Nat → Prop) (w : World) (db sb : Nat) (qv : Value) (ap : Option Addr) (D : Dk) (k : Nat) (w' : World) : Prop :=
  DiskL w' S db sb qv ap { D with st := Dk.settle D.st (D.q.take k) } ∧ Touch (fun k => k = sb) w w'

set_option maxHeartbeats 400000 in
theorem settle_any (w : World) (S : Nat → Prop) (db sb : Nat) (A : Option Addr) (m c : Nat) (ap : Option Addr) (D : Dk) (n : Nat) (h : DiskL w S db sb (.slice A m c) ap D) (hn : n ≤ D.q.length) (hb : D.q.length ≤ 1000000) :
    Calls Tryd.prog 25 #[.pointer (some ⟨db, 0, none⟩), .slice A n c] w
      (SettlePost S w db sb (.slice A m c) ap { D with st := Dk.settle D.st (D.q.take n) }) := by
  have H := Lib.hid h
  clear h
  have hn' : n ≤ 1000000 := by omega
  go_enter Tryd.func25, Tryd.ntmps25
  go_wp2
  go_loopw [8] (fun i wr => ∃ k : Nat, k ≤ n ∧ i = .int .i64 k ∧ SettleRel S w db sb (.slice A m c) ap D k wr) (fun i _ => n - (intOf i).toNat)
  case atStart => exact ⟨0, Nat.zero_le _, rfl, H.out, Touch.refl _ _⟩
  case round =>
    obtain ⟨k, hk, rfl, hrel⟩ := hrel
    have HR := Lib.hid hrel
    clear hrel
    by_cases hlt : k < n
    · obtain ⟨g, c', hq, hg, hc⟩ := HR.out.1.queue_form (by show 0 < D.q.length; omega)
      injection hq with hA hm hcc
      subst hA
      have hl := HR.out.1
      have hkq : k < D.q.length := by omega
      have hpi := hl.inv.pend D.q[k] (List.getElem_mem hkq)
      have c0 : wr.cell? ⟨g, k * 3, none⟩ = some (.int .i64 ((D.q[k].1 : Int) * 64)) := hl.queue_cell (k := k) hkq 0 (by omega)
      have c1 : wr.cell? ⟨g, k * 3 + 1, none⟩ = some (.int .i64 (((D.q[k].1 : Int) + 1) * 64)) := hl.queue_cell (k := k) hkq 1 (by omega)
      have c2 : wr.cell? ⟨g, k * 3 + 2, none⟩ = some (.string D.q[k].2) := hl.queue_cell (k := k) hkq 2 (by omega)
      have hnext : D.q.take (k + 1) = D.q.take k ++ [D.q[k]] := by rw [List.take_succ_eq_append_getElem hkq]
      generalize D.q[k] = pp at c0 c1 c2 hpi hnext
      obtain ⟨pi, ps⟩ := pp
      obtain ⟨a, ha⟩ : ∃ a : Int, a = (pi : Int) * 64 := ⟨_, rfl⟩
      obtain ⟨b, hb'⟩ : ∃ b : Int, b = ((pi : Int) + 1) * 64 := ⟨_, rfl⟩
      simp only at c0 c1 c2
      rw [← ha] at c0
      rw [← hb'] at c1
      have HC := Lib.hid (set_any _ S db sb _ ap _ pi ps (hl.below ((Below.refl _ _).alloc (Nat.le_refl _) (.cells #[.int .i64 a, .int .i64 b, .string ps] 60))) hpi.1 (by rw [hpi.2]; omega) a b ha hb')
      have HX := Lib.hid hnext
      clear hl hm hcc hc hpi ha hb' hnext hkq
      go_wp2_with fail
      refine HC.out.mono ?_
      rintro e w1 ⟨rfl, hp⟩
      have HP := Lib.hid hp
      clear hp HC
      go_wp2
      go_roundw
      case rel =>
        refine ⟨k + 1, by omega, by go_num, ?_, ?_⟩
        · rw [HX.out, Dk.settle_snoc]; exact HP.out.1
        · exact (HR.out.2.alloc _).trans HP.out.2 fun _ _ => id
      case measure => simp [intOf]; omega
    · have hk' : k = n := by omega
      subst hk'
      clear hlt hk
      go_wp2
      go_end0
      exact ⟨rfl, HR.out.1, HR.out.2⟩
end Go.Proofs.YthhkadeiplbdkaaDoor
