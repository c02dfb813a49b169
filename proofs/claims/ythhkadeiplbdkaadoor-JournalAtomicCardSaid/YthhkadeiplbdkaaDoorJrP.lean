/- The journal as plain data: how a text is parsed. -/
import Derived.Test.YthhkadeiplbdkaaDoorJrW5
set_option linter.unusedVariables false
set_option linter.unusedSimpArgs false
namespace Go.Proofs.YthhkadeiplbdkaaDoor
namespace Jr

theorem cut_le (s sep : List UInt8) : (Lib.cut s sep).1.length + (Lib.cut s sep).2.1.length ≤ s.length := by
  unfold Lib.cut
  split
  · simp only [List.length_take, List.length_drop]; omega
  · simp
theorem cut_lt (s : List UInt8) (c : UInt8) (h : s ≠ []) : (Lib.cut s [c]).2.1.length < s.length := by
  have hl : 0 < s.length := List.length_pos_iff.2 h
  unfold Lib.cut
  split
  · simp only [List.length_drop, List.length_singleton]; omega
  · simpa using hl
/-- May the next record be taken. -/
def good (s : List UInt8) : Prop :=
  (Lib.cut s [58]).2.2 = true ∧ (atoiV (Lib.cut s [58]).1).2 = true ∧ 0 ≤ (atoiV (Lib.cut s [58]).1).1 ∧ (atoiV (Lib.cut s [58]).1).1 ≤ 20000 ∧ decs (atoiV (Lib.cut s [58]).1).1.toNat = (Lib.cut s [58]).1 ∧ (atoiV (Lib.cut s [58]).1).1 ≤ ((Lib.cut s [58]).2.1.length : Int)
theorem parseF_bad (f : Nat) {s : List UInt8} (h : s ≠ []) (g : ¬ good s) : parseF f s = none := by
  cases f with
  | zero => rfl
  | succ f => unfold good at g; simp only [parseF]; rw [if_neg h, if_neg g]
theorem parseF_good (f : Nat) {s : List UInt8} (h : s ≠ []) (g : good s) :
    parseF (f + 1) s = (parseF f ((Lib.cut s [58]).2.1.drop (atoiV (Lib.cut s [58]).1).1.toNat)).map ((Lib.cut s [58]).2.1.take (atoiV (Lib.cut s [58]).1).1.toNat :: ·) := by
  unfold good at g; simp only [parseF]; rw [if_neg h, if_pos g]
theorem parseF_fuel (f : Nat) : ∀ g s, s.length < f → s.length < g → parseF f s = parseF g s := by
  induction f with
  | zero => intro g s h; omega
  | succ f ih =>
    intro g s h1 h2
    obtain ⟨g, rfl⟩ : ∃ m, g = m + 1 := ⟨g - 1, by omega⟩
    by_cases h : s = []
    · simp only [parseF]; rw [if_pos h, if_pos h]
    · by_cases hg : good s
      · have := cut_lt s 58 h
        rw [parseF_good f h hg, parseF_good g h hg, ih g]
        · rw [List.length_drop]; omega
        · rw [List.length_drop]; omega
      · rw [parseF_bad _ h hg, parseF_bad _ h hg]
theorem good_iff {s a b : List UInt8} {ok okn : Bool} {n : Int} (h1 : Lib.cut s [58] = (a, b, ok)) (h2 : atoiV a = (n, okn)) : good s ↔ ok = true ∧ okn = true ∧ 0 ≤ n ∧ n ≤ 20000 ∧ decs n.toNat = a ∧ n ≤ (b.length : Int) := by
  unfold good; rw [h1]; dsimp only; rw [h2]
theorem parse_nil : parse [] = some [] := by simp [parse, parseF]
theorem parse_bad {s : List UInt8} (h : s ≠ []) (g : ¬ good s) : parse s = none := parseF_bad _ h g
theorem parse_good {s : List UInt8} (h : s ≠ []) (g : good s) :
    parse s = (parse ((Lib.cut s [58]).2.1.drop (atoiV (Lib.cut s [58]).1).1.toNat)).map ((Lib.cut s [58]).2.1.take (atoiV (Lib.cut s [58]).1).1.toNat :: ·) := by
  have := cut_lt s 58 h
  unfold parse
  rw [parseF_good _ h g]
  congr 1
  exact parseF_fuel _ _ _ (by rw [List.length_drop]; omega) (by rw [List.length_drop]; omega)
end Jr
end Go.Proofs.YthhkadeiplbdkaaDoor
