/- A disk in memory. -/
import Derived.Test.YthhkadeiplbdkaaDoorDk
namespace Go.Proofs.YthhkadeiplbdkaaDoor
open Go.RowKit

def pendCells (p : Nat × ByteArray) : List Value := [.int .i64 ((p.1 : Int) * 64), .int .i64 (((p.1 : Int) + 1) * 64), .string p.2]
def pendV (q : List (Nat × ByteArray)) : List Value := q.flatMap pendCells
theorem pendV_length (q : List (Nat × ByteArray)) : (pendV q).length = q.length * 3 := by
  induction q with
  | nil => rfl
  | cons p q ih => simp only [pendV, List.flatMap_cons, List.length_append, List.length_cons] at *; rw [ih]; simp [pendCells]; omega
theorem pendV_append (q r : List (Nat × ByteArray)) : pendV (q ++ r) = pendV q ++ pendV r := by simp [pendV]
theorem pendV_at (q : List (Nat × ByteArray)) : ∀ (k : Nat) (h : k < q.length) (j : Nat), j < 3 → (pendV q)[3 * k + j]? = (pendCells q[k])[j]? := by
  induction q with
  | nil => intro k h; exact absurd h (by simp)
  | cons p q ih =>
    intro k h j hj
    have e : pendV (p :: q) = pendCells p ++ pendV q := by simp [pendV]
    rw [e]
    cases k with
    | zero => rw [List.getElem?_append_left (by simp [pendCells]; omega)]; simp
    | succ k =>
      rw [List.getElem?_append_right (by simp [pendCells]; omega)]
      have := ih k (by simpa using h) j hj
      rw [show 3 * (k + 1) + j - (pendCells p).length = 3 * k + j by simp [pendCells]; omega, this]
      rfl

def AlarmAt (w : World) (S : Nat → Prop) (ap : Option Addr) : Option (Int × Int × Int) → Prop
  | none => ap = none
  | some (a, b, c) => ∃ ab, ap = some ⟨ab, 0, none⟩ ∧ Blk w ab 88 #[.int .i64 a, .int .i64 b, .int .i64 c] ∧ S ab

/-- The disk D lies at block db; its own blocks are of S. -/
structure DiskL (w : World) (S : Nat → Prop) (db sb : Nat) (qv : Value) (ap : Option Addr) (D : Dk) : Prop where
  main : Blk w db 55 #[.slice (some ⟨sb, 0, none⟩) (64 * D.st.length) (64 * D.st.length), qv, .bool D.off, .pointer ap]
  stab : Blk w sb 5 (Lib.byteCells D.st.flatten).toArray
  queue : w.ownsRow 0 60 3 qv D.q.length (pendV D.q)
  alarm : AlarmAt w S ap D.al
  sdb : S db
  ssb : S sb
  sq : ∀ k, qv.ownBlock = some k → S k
  inv : D.Inv
def DiskAt (w : World) (S : Nat → Prop) (db : Nat) (D : Dk) : Prop := ∃ sb qv ap, DiskL w S db sb qv ap D

theorem AlarmAt.touch {w w' : World} {S T : Nat → Prop} {ap : Option Addr} {al : Option (Int × Int × Int)} (h : AlarmAt w S ap al) (ht : Touch T w w') (hd : ∀ k, S k → ¬ T k) : AlarmAt w' S ap al := by
  match al, h with
  | none, h => exact h
  | some (a, b, c), ⟨ab, e, hb, hs⟩ => exact ⟨ab, e, ht.blk hb (hd _ hs), hs⟩
theorem AlarmAt.mono {w : World} {S T : Nat → Prop} {ap : Option Addr} {al : Option (Int × Int × Int)} (h : AlarmAt w S ap al) (hd : ∀ k, S k → T k) : AlarmAt w T ap al := by
  match al, h with
  | none, h => exact h
  | some (a, b, c), ⟨ab, e, hb, hs⟩ => exact ⟨ab, e, hb, hd _ hs⟩
theorem DiskL.touch {w w' : World} {S T : Nat → Prop} {db sb : Nat} {qv : Value} {ap : Option Addr} {D : Dk} (h : DiskL w S db sb qv ap D) (ht : Touch T w w') (hd : ∀ k, S k → ¬ T k) : DiskL w' S db sb qv ap D :=
  ⟨ht.blk h.main (hd _ h.sdb), ht.blk h.stab (hd _ h.ssb), ht.own h.queue fun k hk => hd k (h.sq k hk), h.alarm.touch ht hd, h.sdb, h.ssb, h.sq, h.inv⟩
theorem DiskAt.touch {w w' : World} {S T : Nat → Prop} {db : Nat} {D : Dk} (h : DiskAt w S db D) (ht : Touch T w w') (hd : ∀ k, S k → ¬ T k) : DiskAt w' S db D := by
  obtain ⟨sb, qv, ap, h⟩ := h
  exact ⟨sb, qv, ap, h.touch ht hd⟩
theorem DiskL.mono {w : World} {S T : Nat → Prop} {db sb : Nat} {qv : Value} {ap : Option Addr} {D : Dk} (h : DiskL w S db sb qv ap D) (hd : ∀ k, S k → T k) : DiskL w T db sb qv ap D :=
  ⟨h.main, h.stab, h.queue, h.alarm.mono hd, hd _ h.sdb, hd _ h.ssb, fun k hk => hd k (h.sq k hk), h.inv⟩
theorem DiskAt.mono {w : World} {S T : Nat → Prop} {db : Nat} {D : Dk} (h : DiskAt w S db D) (hd : ∀ k, S k → T k) : DiskAt w T db D := by
  obtain ⟨sb, qv, ap, h⟩ := h
  exact ⟨sb, qv, ap, h.mono hd⟩
theorem DiskAt.inv {w : World} {S : Nat → Prop} {db : Nat} {D : Dk} (h : DiskAt w S db D) : D.Inv := by obtain ⟨_, _, _, h⟩ := h; exact h.inv
theorem DiskAt.lt {w : World} {S : Nat → Prop} {db : Nat} {D : Dk} (h : DiskAt w S db D) : db < w.heap.size := by obtain ⟨_, _, _, h⟩ := h; exact h.main.lt
/-- The blocks of a disk. -/
theorem DiskL.below {w w' : World} {S : Nat → Prop} {db sb : Nat} {qv : Value} {ap : Option Addr} {D : Dk} (h : DiskL w S db sb qv ap D) (ht : Below w.heap.size w w') : DiskL w' S db sb qv ap D := by
  have t0 : Touch (fun _ => False) w w' := Touch.of_new ht
  exact h.touch t0 fun _ _ => id
theorem DiskAt.below {w w' : World} {S : Nat → Prop} {db : Nat} {D : Dk} (h : DiskAt w S db D) (ht : Below w.heap.size w w') : DiskAt w' S db D := by
  obtain ⟨sb, qv, ap, h⟩ := h
  exact ⟨sb, qv, ap, h.below ht⟩

/-- A disk's blocks lie below the heap's end. -/
theorem DiskAt.tight {w : World} {S : Nat → Prop} {db : Nat} {D : Dk} (h : DiskAt w S db D) : DiskAt w (fun k => S k ∧ k < w.heap.size) db D := by
  obtain ⟨sb, qv, ap, h⟩ := h
  refine ⟨sb, qv, ap, h.main, h.stab, h.queue, ?_, ⟨h.sdb, h.main.lt⟩, ⟨h.ssb, h.stab.lt⟩, fun k hk => ⟨h.sq k hk, (h.queue.lt k hk).2⟩, h.inv⟩
  have ha := h.alarm
  match D.al, ha with
  | none, ha => exact ha
  | some (a, b, c), ⟨ab, e, hb, hs⟩ => exact ⟨ab, e, hb, hs, hb.lt⟩
/-- S, and what is new. -/
def Plus (S : Nat → Prop) (w w' : World) : Nat → Prop := fun k => S k ∨ (w.heap.size ≤ k ∧ k < w'.heap.size)
/-- What a call does to a disk: its value, the disk behind it, and nothing else of what was there is touched. -/
def DPost (S : Nat → Prop) (w : World) (db : Nat) (D : Dk) (v : Value) (e : Ending) (w' : World) : Prop :=
  e = .returned v ∧ DiskAt w' (Plus S w w') db D ∧ Touch S w w'
theorem DPost.of {S : Nat → Prop} {w : World} {db : Nat} {D : Dk} {v : Value} {w' : World} (h : DiskAt w' S db D) (t : Touch S w w') : DPost S w db D v (.returned v) w' :=
  ⟨rfl, h.mono fun _ => .inl, t⟩

end Go.Proofs.YthhkadeiplbdkaaDoor
