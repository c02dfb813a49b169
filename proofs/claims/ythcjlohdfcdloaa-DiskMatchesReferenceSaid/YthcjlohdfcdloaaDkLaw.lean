/- Runs of acts as plain data; what the laws' walks share. -/
import Derived.Test.YthcjlohdfcdloaaHead
set_option linter.unusedVariables false
set_option linter.unusedSimpArgs false
namespace Go.Proofs.Ythcjlohdfcdloaa
open Go.RowKit

namespace Dk
def run (D : Dk) (l : List Ac) : Dk := l.foldl (fun D a => (D.act a).1) D
theorem run_snoc (D : Dk) (l : List Ac) (a : Ac) : D.run (l ++ [a]) = ((D.run l).act a).1 := by simp [run, List.foldl_append]
theorem run_take (D : Dk) (l : List Ac) (k : Nat) (a : Ac) (h : l[k]? = some a) : D.run (l.take (k + 1)) = ((D.run (l.take k)).act a).1 := by
  obtain ⟨hk, rfl⟩ := List.getElem?_eq_some_iff.1 h
  rw [List.take_succ_eq_append_getElem hk, run_snoc]

theorem count_q (D : Dk) : D.count.1.q.length ≤ D.q.length := by
  unfold count
  split
  · exact Nat.le_refl _
  · split
    · exact Nat.le_refl _
    · unfold fail; split <;> simp
theorem write_q (D : Dk) (i : Int) (s : ByteArray) : (D.write i s).1.q.length ≤ D.q.length + 1 := by
  unfold write
  split
  · exact Nat.le_succ _
  · split
    · split
      · have := count_q { D with q := D.q ++ [(i.toNat, s)] }
        simpa using this
      · simp
    · simp
theorem sync_q (D : Dk) : D.sync.1.q.length ≤ D.q.length := by
  unfold sync
  split
  · exact Nat.le_refl _
  · split
    · simp
    · exact count_q D
theorem act_q (D : Dk) (a : Ac) : (D.act a).1.q.length ≤ D.q.length + 1 := by
  unfold act
  split
  · exact write_q _ _ _
  split
  · simp
  split
  · exact Nat.le_trans (sync_q D) (by omega)
  split
  · show (D.fail _ _).q.length ≤ _
    unfold fail; split <;> simp
  split
  · simp [start]
  split
  · show (D.arm _ _ _).q.length ≤ _
    unfold arm; split
    · simp
    · split <;> simp
  split
  · show (D.rot _ _ _).q.length ≤ _
    unfold rot; split <;> simp
  split <;> simp
theorem run_q (l : List Ac) : ∀ D : Dk, (D.run l).q.length ≤ D.q.length + l.length := by
  induction l with
  | nil => intro D; simp [run]
  | cons a l ih =>
    intro D
    have h1 := ih (D.act a).1
    have h2 := act_q D a
    show ((D.act a).1.run l).q.length ≤ _
    rw [List.length_cons]; omega

theorem count_n (D : Dk) : D.count.1.st.length = D.st.length := by
  unfold count
  split
  · rfl
  · split
    · rfl
    · unfold fail; split
      · rfl
      · exact failSt_length _ _ _
theorem fail_n (D : Dk) (a b : Int) : (D.fail a b).st.length = D.st.length := by
  unfold fail; split
  · rfl
  · exact failSt_length _ _ _
theorem write_n (D : Dk) (i : Int) (s : ByteArray) : (D.write i s).1.st.length = D.st.length := by
  unfold write
  split
  · rfl
  · split
    · split
      · exact count_n _
      · rfl
    · rfl
theorem sync_n (D : Dk) : D.sync.1.st.length = D.st.length := by
  unfold sync
  split
  · rfl
  · split
    · show (settle _ _).length = _
      rw [settle_length, count_n]
    · exact count_n D
theorem act_n (D : Dk) (a : Ac) : (D.act a).1.st.length = D.st.length := by
  unfold act
  split
  · exact write_n _ _ _
  split
  · rfl
  split
  · exact sync_n D
  split
  · exact fail_n _ _ _
  split
  · rfl
  split
  · show (D.arm _ _ _).st.length = _
    unfold arm; split
    · rfl
    · split <;> rfl
  split
  · show (D.rot _ _ _).st.length = _
    unfold rot; split <;> simp
  split <;> rfl
theorem run_n (l : List Ac) : ∀ D : Dk, (D.run l).st.length = D.st.length := by
  induction l with
  | nil => intro D; rfl
  | cons a l ih =>
    intro D
    show ((D.act a).1.run l).st.length = _
    rw [ih, act_n]

/-- A disk behind its start and a Sync. -/
theorem start_sync (D : Dk) : D.start.sync = ({ st := settle D.st D.q, q := [], off := false, al := none }, 0) := by
  unfold sync start count
  simp
end Dk

theorem ActsAt.get {w wr : World} {A : Option Addr} {n : Nat} {l : List Ac} (h : ActsAt w A n l) (hb : Below w.heap.size w wr) {k : Nat} (hk : k < n) :
    ∃ b o kind sector bytes t odd after, A = some ⟨b, o, none⟩ ∧ (b < w.heap.size ∧ b < wr.heap.size) ∧ l[k]? = some ⟨kind, sector, bytes, t, odd, after⟩ ∧ Ac.Wf ⟨kind, sector, bytes, t, odd, after⟩ ∧
      wr.cell? ⟨b, o + k * 6, none⟩ = some (.int .i64 kind) ∧ wr.cell? ⟨b, o + k * 6 + 1, none⟩ = some (.int .i64 sector) ∧ wr.cell? ⟨b, o + k * 6 + 2, none⟩ = some (.int .i64 bytes) ∧
      wr.cell? ⟨b, o + k * 6 + 3, none⟩ = some (.string t) ∧ wr.cell? ⟨b, o + k * 6 + 4, none⟩ = some (.bool odd) ∧ wr.cell? ⟨b, o + k * 6 + 5, none⟩ = some (.int .i64 after) := by
  obtain ⟨b, o, rfl, hlt, hc0⟩ := h.at_ (by omega)
  have hc : ∀ k (h : k < l.length) j, j < 6 → wr.cell? ⟨b, o + k * 6 + j, none⟩ = l[k].cells[j]? := fun k hk j hj => by rw [hb.cell (p := ⟨b, _, none⟩) hlt]; exact hc0 k hk j hj
  have hkl : k < l.length := by rw [h.len]; exact hk
  have hg : l[k]? = some l[k] := List.getElem?_eq_getElem hkl
  have hw := h.wf _ (List.getElem_mem hkl)
  have hc' := hc k hkl
  generalize l[k] = x at hg hw hc'
  obtain ⟨kind, sector, bytes, t, odd, after⟩ := x
  exact ⟨b, o, kind, sector, bytes, t, odd, after, rfl, ⟨hlt, Nat.lt_of_lt_of_le hlt hb.size⟩, hg, hw, hc' 0 (by omega), hc' 1 (by omega), hc' 2 (by omega), hc' 3 (by omega), hc' 4 (by omega), hc' 5 (by omega)⟩

/-- Behind the first k acts: the disk alone, from block B on. -/
def RunRel (B : Nat) (w : World) (db : Nat) (D : Dk) (l : List Ac) (k : Nat) (wr : World) : Prop := DiskAt wr (fun k => B ≤ k) db (D.run (l.take k)) ∧ Below B w wr

theorem okA_len {l : List Ac} (h : okA l = true) : l.length ≤ 60 := by
  unfold okA at h
  simp only [Bool.and_eq_true, decide_eq_true_eq] at h
  exact h.2
end Go.Proofs.Ythcjlohdfcdloaa
