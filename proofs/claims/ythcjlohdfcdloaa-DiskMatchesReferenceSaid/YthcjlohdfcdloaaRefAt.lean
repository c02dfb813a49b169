/- The reference's disk in memory. -/
import Derived.Test.YthcjlohdfcdloaaLawW1
set_option linter.unusedVariables false
set_option linter.unusedSimpArgs false
namespace Go.Proofs.Ythcjlohdfcdloaa
open Go.RowKit

def refCells (p : Nat × ByteArray) : List Value := [.int .i64 (p.1 : Int), .string p.2]
def refV (q : List (Nat × ByteArray)) : List Value := q.flatMap refCells
theorem refV_length (q : List (Nat × ByteArray)) : (refV q).length = q.length * 2 := by
  induction q with
  | nil => rfl
  | cons p q ih => simp only [refV, List.flatMap_cons, List.length_append, List.length_cons] at *; rw [ih]; simp [refCells]; omega
theorem refV_append (q r : List (Nat × ByteArray)) : refV (q ++ r) = refV q ++ refV r := by simp [refV]
theorem refV_at (q : List (Nat × ByteArray)) : ∀ (k : Nat) (h : k < q.length) (j : Nat), j < 2 → (refV q)[2 * k + j]? = (refCells q[k])[j]? := by
  induction q with
  | nil => intro k h; exact absurd h (by simp)
  | cons p q ih =>
    intro k h j hj
    have e : refV (p :: q) = refCells p ++ refV q := by simp [refV]
    rw [e]
    cases k with
    | zero => rw [List.getElem?_append_left (by simp [refCells]; omega)]; simp
    | succ k =>
      rw [List.getElem?_append_right (by simp [refCells]; omega)]
      have := ih k (by simpa using h) j hj
      rw [show 2 * (k + 1) + j - (refCells p).length = 2 * k + j by simp [refCells]; omega, this]
      rfl

def AlRef (am : Bool) (x y z : Int) : Option (Int × Int × Int) → Prop
  | none => am = false
  | some (a, b, c) => am = true ∧ x = a ∧ y = b ∧ z = c
/-- The stable texts of a disk. -/
def stV (D : Dk) : List Value := strV (D.st.map Dk.str)

/-- The disk D of the reference lies at block db; its own blocks are of S. -/
structure RefL (w : World) (S : Nat → Prop) (db : Nat) (sv qv : Value) (am : Bool) (x y z : Int) (D : Dk) : Prop where
  main : Blk w db 63 #[sv, qv, .bool (!D.off), .bool am, .int .i64 x, .int .i64 y, .int .i64 z]
  stab : w.ownsRow 0 9 1 sv D.st.length (stV D)
  queue : w.ownsRow 0 72 2 qv D.q.length (refV D.q)
  alarm : AlRef am x y z D.al
  fits : Dk.i64 x ∧ Dk.i64 y ∧ Dk.i64 z
  sdb : S db
  sst : ∀ k, sv.ownBlock = some k → S k
  sq : ∀ k, qv.ownBlock = some k → S k
  inv : D.Inv
def RefAt (w : World) (S : Nat → Prop) (db : Nat) (D : Dk) : Prop := ∃ sv qv am x y z, RefL w S db sv qv am x y z D

theorem own_own_ne {w : World} {b1 b2 n1 n2 s1 s2 : Nat} {e1 e2 : TypeId} {v1 v2 : Value} {l1 l2 : List Value} (h1 : w.ownsRow b1 e1 s1 v1 n1 l1) (h2 : w.ownsRow b2 e2 s2 v2 n2 l2) (hne : e1 ≠ e2) : ∀ k, v1.ownBlock = some k → v2.ownBlock ≠ some k := by
  intro k hk
  rcases h1.2 with ⟨rfl, _⟩ | ⟨g, cap, cur, rfl, _, hh, _⟩
  · simp [Value.ownBlock] at hk
  · have : g = k := by simpa [Value.ownBlock] using hk
    subst this
    exact own_blk_ne h2 (show Blk w g e1 cur from hh) (fun e => hne e.symm)

section
variable {w w' : World} {S T : Nat → Prop} {db : Nat} {sv qv : Value} {am : Bool} {x y z : Int} {D : Dk}
theorem RefL.touch (h : RefL w S db sv qv am x y z D) (ht : Touch T w w') (hd : ∀ k, S k → ¬ T k) : RefL w' S db sv qv am x y z D :=
  ⟨ht.blk h.main (hd _ h.sdb), ht.own h.stab fun k hk => hd k (h.sst k hk), ht.own h.queue fun k hk => hd k (h.sq k hk), h.alarm, h.fits, h.sdb, h.sst, h.sq, h.inv⟩
theorem RefL.mono (h : RefL w S db sv qv am x y z D) (hd : ∀ k, S k → T k) : RefL w T db sv qv am x y z D :=
  ⟨h.main, h.stab, h.queue, h.alarm, h.fits, hd _ h.sdb, fun k hk => hd k (h.sst k hk), fun k hk => hd k (h.sq k hk), h.inv⟩
theorem RefL.below (h : RefL w S db sv qv am x y z D) (ht : Below w.heap.size w w') : RefL w' S db sv qv am x y z D := by
  have t0 : Touch (fun _ => False) w w' := Touch.of_new ht
  exact h.touch t0 fun _ _ => id
theorem RefAt.touch (h : RefAt w S db D) (ht : Touch T w w') (hd : ∀ k, S k → ¬ T k) : RefAt w' S db D := by
  obtain ⟨sv, qv, am, x, y, z, h⟩ := h
  exact ⟨sv, qv, am, x, y, z, h.touch ht hd⟩
theorem RefAt.mono (h : RefAt w S db D) (hd : ∀ k, S k → T k) : RefAt w T db D := by
  obtain ⟨sv, qv, am, x, y, z, h⟩ := h
  exact ⟨sv, qv, am, x, y, z, h.mono hd⟩
theorem RefAt.below (h : RefAt w S db D) (ht : Below w.heap.size w w') : RefAt w' S db D := by
  obtain ⟨sv, qv, am, x, y, z, h⟩ := h
  exact ⟨sv, qv, am, x, y, z, h.below ht⟩
theorem RefAt.lt (h : RefAt w S db D) : db < w.heap.size := by obtain ⟨_, _, _, _, _, _, h⟩ := h; exact h.main.lt
theorem RefAt.inv (h : RefAt w S db D) : D.Inv := by obtain ⟨_, _, _, _, _, _, h⟩ := h; exact h.inv
/-- Its blocks lie below the heap's end. -/
theorem RefAt.tight (h : RefAt w S db D) : RefAt w (fun k => S k ∧ k < w.heap.size) db D := by
  obtain ⟨sv, qv, am, x, y, z, h⟩ := h
  exact ⟨sv, qv, am, x, y, z, h.main, h.stab, h.queue, h.alarm, h.fits, ⟨h.sdb, h.main.lt⟩, fun k hk => ⟨h.sst k hk, (h.stab.lt k hk).2⟩, fun k hk => ⟨h.sq k hk, (h.queue.lt k hk).2⟩, h.inv⟩
/-- What a call does to the reference's disk. -/
def RPost (S : Nat → Prop) (w : World) (db : Nat) (D : Dk) (v : Value) (e : Ending) (w' : World) : Prop :=
  e = .returned v ∧ RefAt w' (Plus S w w') db D ∧ Touch S w w'
theorem RPost.of {v : Value} (h : RefAt w' S db D) (t : Touch S w w') : RPost S w db D v (.returned v) w' := ⟨rfl, h.mono fun _ => .inl, t⟩

/-- Stores into the struct itself alone: the rows are as they were. -/
theorem RefL.rows (h : RefL w S db sv qv am x y z D) (ht : Touch (fun k => k = db) w w') : w'.ownsRow 0 9 1 sv D.st.length (stV D) ∧ w'.ownsRow 0 72 2 qv D.q.length (refV D.q) := by
  have n1 := own_blk_ne h.stab h.main (by decide)
  have n2 := own_blk_ne h.queue h.main (by decide)
  exact ⟨ht.own h.stab fun k hk e => n1 (by rw [hk, e]), ht.own h.queue fun k hk e => n2 (by rw [hk, e])⟩
end
end Go.Proofs.Ythcjlohdfcdloaa
