/- The journal's laws: one short record that is added. -/
import Derived.Test.YthhkadeiplbdkaaDoorJrL4
set_option linter.unusedVariables false
set_option linter.unusedSimpArgs false
namespace Go.Proofs.YthhkadeiplbdkaaDoor
open Go.RowKit
namespace Jr
def a1 : List (List UInt8) := [[97]]
theorem one_pieces (b : UInt8) : (pieces (text [[b]])).length = 1 := by
  have e : text [[b]] = [49, 58, b] := by
    unfold text
    rw [List.flatMap_singleton]
    have h : decs ([b] : List UInt8).length = [49] := by kernel_rfl
    rw [h]
    rfl
  rw [pieces_length, e]
  simp
theorem one_long (b : UInt8) : long [[b]] = false := by simp [long]
theorem fail_off {D : Dk} (h : D.off = false) (a b : Int) : (D.fail a b).off = true := by unfold Dk.fail; rw [h]; rfl
theorem fail_q {D : Dk} (h : D.off = false) (a b : Int) : (D.fail a b).q = [] := by unfold Dk.fail; rw [h]; rfl
theorem a1_full (E : Dk) {J : Jn} (hb : J.br = false) (h : J.n < 2 + J.c + 1) : app E J a1 = (E, J, 29) := by
  unfold app
  rw [hb, if_neg (by simp), if_neg (by rw [show long a1 = false from one_long 97]; simp), if_pos (by rw [show (pieces (text a1)).length = 1 from one_pieces 97]; exact h)]
theorem a1_off {E : Dk} (hE : E.off = true) {J : Jn} (hb : J.br = false) (h : ¬ J.n < 2 + J.c + 1) : app E J a1 = (E, { J with br := true }, 28) := by
  have hl : (pieces (text a1)).length = 1 := one_pieces 97
  have hw : ∀ p x r, wr E p (x :: r) = (E, 28) := by
    intro p x r
    have : E.write p (Dk.str x) = (E, 28) := by unfold Dk.write; rw [if_pos hE]
    simp only [wr, this]
    rfl
  have hs : steps E J (pieces (text a1)) = (E, 28) := by
    obtain ⟨p, hp⟩ : ∃ p, pieces (text a1) = [p] := List.length_eq_one_iff.1 hl
    rw [hp]
    unfold steps
    simp only [List.map_cons, List.map_nil, hw]
    rfl
  unfold app
  rw [hb, if_neg (by simp), if_neg (by rw [show long a1 = false from one_long 97]; simp), if_neg (by rw [hl]; exact h), if_neg (by simp [a1]), hs]
  rfl
end Jr
end Go.Proofs.YthhkadeiplbdkaaDoor
