/- More of what the laws' walks share. -/
import Derived.Test.YthcjlohdfcdloaaDkPure
set_option linter.unusedVariables false
set_option linter.unusedSimpArgs false
namespace Go.Proofs.Ythcjlohdfcdloaa
open Go.RowKit

theorem same_yes (w : World) (va vb : Value) (xs : List ByteArray) (ha : StrsAt w va xs) (hb : StrsAt w vb xs) :
    Calls Try.prog 27 #[va, vb] w fun e w' => e = .returned (.bool true) ∧ Below w.heap.size w w' := by
  refine (same_any w va vb xs xs ha hb).mono ?_
  rintro e w' ⟨rfl, h⟩
  exact ⟨by rw [show decide (xs = xs) = true from decide_eq_true rfl], h⟩

theorem pw_keep {w w' : World} {a : Addr} {v : Value} (h : w.cell? a = some v) (hb : Below w.heap.size w w') : w'.cell? a = some v := (hb.cell (World.block_lt_of_cell? w a h)).trans h
theorem own_of_block {w w' : World} {g n c size : Nat} {e : TypeId} {xs : List Value} (h : w.ownsRow 0 e size (.slice (some ⟨g, 0, none⟩) n c) n xs) (hb : w'.heap[g]? = w.heap[g]?) : w'.ownsRow 0 e size (.slice (some ⟨g, 0, none⟩) n c) n xs := by
  refine ⟨h.1, ?_⟩
  rcases h.2 with ⟨h', _⟩ | ⟨g', cap, cur, h1, h2, h3, h4⟩
  · cases h'
  · refine .inr ⟨g', cap, cur, h1, h2, ?_, h4⟩
    injection h1 with h1
    injection h1 with h1
    injection h1 with h1
    rw [← h1] at h3 ⊢
    rw [hb]; exact h3

/-- The cells of an act in a slice. -/
def ActCells (w : World) (b o k : Nat) (q : Ac) : Prop :=
  w.cell? ⟨b, o + k * 6, none⟩ = some (.int .i64 q.kind) ∧ w.cell? ⟨b, o + k * 6 + 1, none⟩ = some (.int .i64 q.sector) ∧ w.cell? ⟨b, o + k * 6 + 2, none⟩ = some (.int .i64 q.bytes) ∧
      w.cell? ⟨b, o + k * 6 + 3, none⟩ = some (.string q.text) ∧ w.cell? ⟨b, o + k * 6 + 4, none⟩ = some (.bool q.odd) ∧ w.cell? ⟨b, o + k * 6 + 5, none⟩ = some (.int .i64 q.after)
theorem ActCells.move {w w' : World} {b o k : Nat} {q : Ac} (h : ActCells w b o k q) (he : ∀ p : Addr, p.block = b → w'.cell? p = w.cell? p) : ActCells w' b o k q :=
  ⟨(he _ rfl).trans h.1, (he _ rfl).trans h.2.1, (he _ rfl).trans h.2.2.1, (he _ rfl).trans h.2.2.2.1, (he _ rfl).trans h.2.2.2.2.1, (he _ rfl).trans h.2.2.2.2.2⟩
theorem acts_moved {w0 w w' : World} (h : Below w0.heap.size w0 w) (h' : Below w0.heap.size w0 w') {b : Nat} (hb : b < w0.heap.size) : ∀ p : Addr, p.block = b → w'.cell? p = w.cell? p := fun p hp =>
  (h'.cell (p := p) (by rw [hp]; exact hb)).trans (h.cell (p := p) (by rw [hp]; exact hb)).symm


end Go.Proofs.Ythcjlohdfcdloaa
