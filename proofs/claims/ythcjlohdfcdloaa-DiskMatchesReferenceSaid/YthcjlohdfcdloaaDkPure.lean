/- Plain laws of the disk. -/
import Derived.Test.YthcjlohdfcdloaaLone
set_option linter.unusedVariables false
set_option linter.unusedSimpArgs false
namespace Go.Proofs.Ythcjlohdfcdloaa
open Go.RowKit
namespace Dk

/-- On, and not armed. -/
def Plain (D : Dk) : Prop := D.off = false ∧ D.al = none
theorem write_plain {D : Dk} (h : D.Plain) (i : Int) (s : ByteArray) : D.write i s = if D.valid i = true ∧ s.size = 64 then ({ D with q := D.q ++ [(i.toNat, s)] }, 0) else (D, 1) := by
  unfold write
  rw [h.1]
  by_cases hv : D.valid i = true
  · by_cases hs : s.size = 64
    · rw [if_neg (by simp), if_pos hv, if_pos hs, if_pos ⟨hv, hs⟩]
      unfold count
      rw [h.2]
    · rw [if_neg (by simp), if_pos hv, if_neg hs, if_neg (fun e => hs e.2)]
  · rw [if_neg (by simp), if_neg hv, if_neg (fun e => hv e.1)]
theorem write_plain_keep {D : Dk} (h : D.Plain) (i : Int) (s : ByteArray) : (D.write i s).1.Plain ∧ (D.write i s).1.st = D.st := by
  rw [write_plain h]
  split
  · exact ⟨h, rfl⟩
  · exact ⟨h, rfl⟩
theorem valid_iff (D : Dk) (i : Int) : D.valid i = true ↔ 0 ≤ i ∧ i < (D.st.length : Int) := by simp [valid]

/-- Writes in a row. -/
def wrs (D : Dk) (l : List Ac) : Dk := l.foldl (fun D a => (D.write a.sector a.txt).1) D
theorem wrs_snoc (D : Dk) (l : List Ac) (a : Ac) : D.wrs (l ++ [a]) = ((D.wrs l).write a.sector a.txt).1 := by simp [wrs, List.foldl_append]
theorem wrs_take (D : Dk) (l : List Ac) (k : Nat) (a : Ac) (h : l[k]? = some a) : D.wrs (l.take (k + 1)) = ((D.wrs (l.take k)).write a.sector a.txt).1 := by
  obtain ⟨hk, rfl⟩ := List.getElem?_eq_some_iff.1 h
  rw [List.take_succ_eq_append_getElem hk, wrs_snoc]
theorem wrs_plain (l : List Ac) : ∀ {D : Dk}, D.Plain → (D.wrs l).Plain ∧ (D.wrs l).st = D.st := by
  induction l with
  | nil => intro D h; exact ⟨h, rfl⟩
  | cons a l ih =>
    intro D h
    have h1 := write_plain_keep h a.sector a.txt
    have h2 := ih h1.1
    exact ⟨h2.1, h2.2.trans h1.2⟩
theorem wrs_q (l : List Ac) : ∀ D : Dk, (D.wrs l).q.length ≤ D.q.length + l.length := by
  induction l with
  | nil => intro D; simp [wrs]
  | cons a l ih =>
    intro D
    have h1 := ih (D.write a.sector a.txt).1
    have h2 := write_q D a.sector a.txt
    show ((D.write a.sector a.txt).1.wrs l).q.length ≤ _
    rw [List.length_cons]; omega

theorem put_keep (st : List (List UInt8)) {i j : Nat} (bs : List UInt8) (h : j ≠ i) : (put st j bs).getD i [] = st.getD i [] := by
  unfold put
  rw [List.getD_eq_getElem?_getD, List.getElem?_set_ne h, List.getD_eq_getElem?_getD]
theorem settle_keep (q : List (Nat × ByteArray)) : ∀ (st : List (List UInt8)) {i : Nat}, (∀ p ∈ q, p.1 ≠ i) → (settle st q).getD i [] = st.getD i [] := by
  induction q with
  | nil => intro st i _; rfl
  | cons p q ih =>
    intro st i h
    show (settle (put st p.1 p.2.data.toList) q).getD i [] = _
    rw [ih _ (fun x hx => h x (by simp [hx])), put_keep _ _ (h p (by simp))]
theorem failSt_keep (D : Dk) (a b : Int) {i : Nat} (h : ∀ p ∈ D.q, p.1 ≠ i) : (D.failSt a b).getD i [] = D.st.getD i [] := by
  unfold failSt
  split
  · rename_i p hp
    rw [put_keep _ _ (h p (List.mem_of_getElem? hp)), settle_keep _ _ fun x hx => h x (List.mem_of_mem_take hx)]
  · rw [settle_keep _ _ fun x hx => h x (List.mem_of_mem_take hx)]
theorem cur_quiet (D : Dk) (h : D.q = []) (i : Nat) : D.cur i = str (D.st.getD i []) := by
  unfold cur
  rw [h]; rfl
theorem fail_start {D : Dk} (h : D.off = false) (a b : Int) : (D.fail a b).start = { st := D.failSt a b, q := [], off := false, al := none } := by
  unfold fail start
  rw [h]; rfl

/-- Which sectors were written. -/
def marks (D : Dk) (W : List Bool) : List Ac → List Bool
  | [] => W
  | a :: l => marks (D.write a.sector a.txt).1 (if (D.write a.sector a.txt).2 = 0 then W.set a.sector.toNat true else W) l
theorem marks_snoc (l : List Ac) : ∀ (D : Dk) (W : List Bool) (a : Ac), D.marks W (l ++ [a]) = if ((D.wrs l).write a.sector a.txt).2 = 0 then (D.marks W l).set a.sector.toNat true else D.marks W l := by
  induction l with
  | nil => intro D W a; rfl
  | cons b l ih => intro D W a; exact ih _ _ a
theorem marks_take (D : Dk) (W : List Bool) (l : List Ac) (k : Nat) (a : Ac) (h : l[k]? = some a) :
    D.marks W (l.take (k + 1)) = if ((D.wrs (l.take k)).write a.sector a.txt).2 = 0 then (D.marks W (l.take k)).set a.sector.toNat true else D.marks W (l.take k) := by
  obtain ⟨hk, rfl⟩ := List.getElem?_eq_some_iff.1 h
  rw [List.take_succ_eq_append_getElem hk, marks_snoc]
theorem marks_length (l : List Ac) : ∀ (D : Dk) (W : List Bool), (D.marks W l).length = W.length := by
  induction l with
  | nil => intro D W; rfl
  | cons a l ih =>
    intro D W
    show (marks _ _ l).length = _
    rw [ih]; split <;> simp
theorem marks_spec (l : List Ac) : ∀ {D : Dk} (W : List Bool), D.Plain → W.length = D.st.length → (∀ p ∈ D.q, W[p.1]? = some true) → ∀ p ∈ (D.wrs l).q, (D.marks W l)[p.1]? = some true := by
  induction l with
  | nil => intro D W h hl hq; exact hq
  | cons a l ih =>
    intro D W h hl hq
    have hk := write_plain_keep h a.sector a.txt
    refine ih _ hk.1 (by rw [hk.2, ← hl]; split <;> simp) ?_
    have hw := write_plain h a.sector a.txt
    intro p hp
    replace hp : p ∈ (D.write a.sector a.txt).1.q := hp
    by_cases hv : D.valid a.sector = true ∧ a.txt.size = 64
    · rw [if_pos hv] at hw
      rw [hw] at hp ⊢
      simp only [if_true]
      have hlt : a.sector.toNat < W.length := by
        have := (valid_iff D _).1 hv.1; omega
      rw [List.getElem?_set]
      rcases List.mem_append.1 hp with hp | hp
      · by_cases e : a.sector.toNat = p.1
        · rw [if_pos e, if_pos hlt]
        · rw [if_neg e]; exact hq p hp
      · obtain rfl : p = (a.sector.toNat, a.txt) := by simpa using hp
        rw [if_pos rfl, if_pos hlt]
    · rw [if_neg hv] at hw
      rw [hw] at hp ⊢
      simp only [show ¬ ((1 : Int) = 0) by decide, if_false]
      exact hq p hp

theorem stable_pure {D : Dk} (h : D.Plain) (hq : D.q = []) (l : List Ac) (a b : Int) (i : Nat) (hw : (D.marks (List.replicate D.st.length false) l)[i]? = some false) : ((D.wrs l).fail a b).start.cur i = D.cur i := by
  have h1 := wrs_plain l h
  rw [fail_start h1.1.1, cur_quiet _ rfl, cur_quiet D hq]
  have h2 := marks_spec l (List.replicate D.st.length false) h (by simp) (by rw [hq]; simp)
  rw [failSt_keep _ _ _ (fun p hp e => by
    have := h2 p hp
    rw [e, hw] at this
    cases this), h1.2]
end Dk
end Go.Proofs.Ythcjlohdfcdloaa
