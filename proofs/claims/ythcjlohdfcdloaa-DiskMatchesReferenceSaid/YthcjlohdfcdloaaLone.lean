/- A disk beside other memory of the call's own: what a step leaves alone. -/
import Derived.Test.YthcjlohdfcdloaaDkLaw
set_option linter.unusedVariables false
set_option linter.unusedSimpArgs false
namespace Go.Proofs.Ythcjlohdfcdloaa
open Go.RowKit

/-- The disk D at db lies from block B on, apart from the blocks of G; below B all is as in w0. -/
def Lone (G : Nat → Prop) (B : Nat) (w0 : World) (db : Nat) (D : Dk) (w : World) : Prop :=
  (∃ S, DiskAt w S db D ∧ ∀ k, S k → B ≤ k ∧ k < w.heap.size ∧ ¬ G k) ∧ Below B w0 w ∧ B ≤ w.heap.size ∧ ∀ k, G k → k < w.heap.size

section
variable {G G' : Nat → Prop} {B : Nat} {w0 w w' : World} {db : Nat} {D D' : Dk}
theorem Lone.inv (h : Lone G B w0 db D w) : D.Inv := by obtain ⟨⟨S, hd, _⟩, _⟩ := h; exact hd.inv
theorem Lone.bel (h : Lone G B w0 db D w) : Below B w0 w := h.2.1
theorem Lone.size (h : Lone G B w0 db D w) : B ≤ w.heap.size := h.2.2.1
theorem Lone.at_ (h : Lone G B w0 db D w) : ∃ S, DiskAt w S db D := by obtain ⟨⟨S, hd, _⟩, _⟩ := h; exact ⟨S, hd⟩
theorem Lone.below (h : Lone G B w0 db D w) (hb : Below w.heap.size w w') : Lone G B w0 db D w' := by
  obtain ⟨⟨S, hd, hs⟩, h1, h2, h3⟩ := h
  exact ⟨⟨S, hd.below hb, fun k hk => ⟨(hs k hk).1, Nat.lt_of_lt_of_le (hs k hk).2.1 hb.size, (hs k hk).2.2⟩⟩, bthen h1 h2 hb, Nat.le_trans h2 hb.size, fun k hk => Nat.lt_of_lt_of_le (h3 k hk) hb.size⟩
/-- New blocks may be guarded. -/
theorem Lone.guard (h : Lone G B w0 db D w) (hb : Below w.heap.size w w') (T : Nat → Prop) (hT : ∀ k, T k → w.heap.size ≤ k ∧ k < w'.heap.size) : Lone (fun k => G k ∨ T k) B w0 db D w' := by
  obtain ⟨⟨S, hd, hs⟩, h1, h2, h3⟩ := h
  refine ⟨⟨S, hd.below hb, fun k hk => ⟨(hs k hk).1, Nat.lt_of_lt_of_le (hs k hk).2.1 hb.size, fun hg => ?_⟩⟩, bthen h1 h2 hb, Nat.le_trans h2 hb.size, fun k hk => ?_⟩
  · rcases hg with hg | hg
    · exact (hs k hk).2.2 hg
    · have := (hT k hg).1; have := (hs k hk).2.1; omega
  · rcases hk with hk | hk
    · exact Nat.lt_of_lt_of_le (h3 k hk) hb.size
    · exact (hT k hk).2
/-- What is guarded may be written. -/
theorem Lone.touch (h : Lone G B w0 db D w) (ht : Touch G w w') (hG : ∀ k, G k → B ≤ k) : Lone G B w0 db D w' := by
  obtain ⟨⟨S, hd, hs⟩, h1, h2, h3⟩ := h
  refine ⟨⟨S, hd.touch ht fun k hk => (hs k hk).2.2, fun k hk => ⟨(hs k hk).1, Nat.lt_of_lt_of_le (hs k hk).2.1 ht.size, (hs k hk).2.2⟩⟩, h1.trans (ht.below h2 hG), Nat.le_trans h2 ht.size, fun k hk => Nat.lt_of_lt_of_le (h3 k hk) ht.size⟩
theorem Lone.loosen (h : Lone G B w0 db D w) (hG : ∀ k, G' k → G k) : Lone G' B w0 db D w := by
  obtain ⟨⟨S, hd, hs⟩, h1, h2, h3⟩ := h
  exact ⟨⟨S, hd, fun k hk => ⟨(hs k hk).1, (hs k hk).2.1, fun hg => (hs k hk).2.2 (hG k hg)⟩⟩, h1, h2, fun k hk => h3 k (hG k hk)⟩
/-- Below its own begin, the world may be named anew. -/
theorem Lone.start (hd : DiskAt w (fun k => B ≤ k) db D) (hS : ∃ S, DiskAt w S db D ∧ ∀ k, S k → B ≤ k ∧ k < w.heap.size) (hb : Below B w0 w) (hB : B ≤ w.heap.size) : Lone (fun _ => False) B w0 db D w := by
  obtain ⟨S, h1, h2⟩ := hS
  exact ⟨⟨S, h1, fun k hk => ⟨(h2 k hk).1, (h2 k hk).2, id⟩⟩, hb, hB, fun _ h => h.elim⟩

/-- What a step of the disk leaves. -/
def LPost (G : Nat → Prop) (B : Nat) (w0 : World) (db : Nat) (D : Dk) (w : World) (v : Value) (e : Ending) (w' : World) : Prop :=
  e = .returned v ∧ Lone G B w0 db D w' ∧ (∀ k, G k → w'.heap[k]? = w.heap[k]?) ∧ w.heap.size ≤ w'.heap.size

theorem Lone.step {P : Program} {f : FuncId} {args : Array Value} {v : Value} (h : Lone G B w0 db D w) (hc : ∀ S, DiskAt w S db D → Calls P f args w (DPost S w db D' v)) : Calls P f args w (LPost G B w0 db D' w v) := by
  obtain ⟨⟨S, hd, hs⟩, h1, h2, h3⟩ := h
  refine (hc S hd).mono fun e w' hp => ?_
  obtain ⟨rfl, hd', ht⟩ := hp
  refine ⟨rfl, ⟨⟨_, hd', fun k hk => ?_⟩, h1.trans (ht.below h2 fun k hk => (hs k hk).1), Nat.le_trans h2 ht.size, fun k hk => Nat.lt_of_lt_of_le (h3 k hk) ht.size⟩, fun k hk => ht.block k (h3 k hk) fun hsk => (hs k hsk).2.2 hk, ht.size⟩
  rcases hk with hk | hk
  · exact ⟨(hs k hk).1, Nat.lt_of_lt_of_le (hs k hk).2.1 ht.size, (hs k hk).2.2⟩
  · exact ⟨Nat.le_trans h2 hk.1, hk.2, fun hg => by have := h3 k hg; omega⟩
theorem Lone.look {P : Program} {f : FuncId} {args : Array Value} {R : Ending → World → Prop} (h : Lone G B w0 db D w) (hc : ∀ S, DiskAt w S db D → Calls P f args w R) : Calls P f args w R := by
  obtain ⟨⟨S, hd, hs⟩, _⟩ := h
  exact hc S hd
end

/-- Two disks, apart. -/
def Two (B : Nat) (w0 : World) (da : Nat) (A : Dk) (db : Nat) (D : Dk) (w : World) : Prop :=
  ∃ S T, DiskAt w S da A ∧ DiskAt w T db D ∧ (∀ k, S k → B ≤ k ∧ k < w.heap.size) ∧ (∀ k, T k → B ≤ k ∧ k < w.heap.size) ∧ (∀ k, S k → ¬ T k) ∧ Below B w0 w ∧ B ≤ w.heap.size
section
variable {B : Nat} {w0 w w' : World} {da db : Nat} {A A' D D' : Dk}
theorem Two.swap (h : Two B w0 da A db D w) : Two B w0 db D da A w := by
  obtain ⟨S, T, h1, h2, h3, h4, h5, h6, h7⟩ := h
  exact ⟨T, S, h2, h1, h4, h3, fun k ht hs => h5 k hs ht, h6, h7⟩
theorem Two.bel (h : Two B w0 da A db D w) : Below B w0 w := by obtain ⟨S, T, h1, h2, h3, h4, h5, h6, h7⟩ := h; exact h6
theorem Two.size (h : Two B w0 da A db D w) : B ≤ w.heap.size := by obtain ⟨S, T, h1, h2, h3, h4, h5, h6, h7⟩ := h; exact h7
theorem Two.inv (h : Two B w0 da A db D w) : A.Inv := by obtain ⟨S, T, h1, h2, h3, h4, h5, h6, h7⟩ := h; exact h1.inv
theorem Two.below (h : Two B w0 da A db D w) (hb : Below w.heap.size w w') : Two B w0 da A db D w' := by
  obtain ⟨S, T, h1, h2, h3, h4, h5, h6, h7⟩ := h
  exact ⟨S, T, h1.below hb, h2.below hb, fun k hk => ⟨(h3 k hk).1, Nat.lt_of_lt_of_le (h3 k hk).2 hb.size⟩, fun k hk => ⟨(h4 k hk).1, Nat.lt_of_lt_of_le (h4 k hk).2 hb.size⟩, h5, bthen h6 h7 hb, Nat.le_trans h7 hb.size⟩
def TPost (B : Nat) (w0 : World) (da : Nat) (A : Dk) (db : Nat) (D : Dk) (w : World) (v : Value) (e : Ending) (w' : World) : Prop :=
  e = .returned v ∧ Two B w0 da A db D w' ∧ w.heap.size ≤ w'.heap.size
theorem Two.step {P : Program} {f : FuncId} {args : Array Value} {v : Value} (h : Two B w0 da A db D w) (hc : ∀ S, DiskAt w S da A → Calls P f args w (DPost S w da A' v)) : Calls P f args w (TPost B w0 da A' db D w v) := by
  obtain ⟨S, T, h1, h2, h3, h4, h5, h6, h7⟩ := h
  refine (hc S h1).mono fun e w' hp => ?_
  obtain ⟨rfl, hd', ht⟩ := hp
  refine ⟨rfl, ⟨_, T, hd', h2.touch ht fun k hk hs => h5 k hs hk, fun k hk => ?_, fun k hk => ⟨(h4 k hk).1, Nat.lt_of_lt_of_le (h4 k hk).2 ht.size⟩, fun k hk hT => ?_, h6.trans (ht.below h7 fun k hk => (h3 k hk).1), Nat.le_trans h7 ht.size⟩, ht.size⟩
  · rcases hk with hk | hk
    · exact ⟨(h3 k hk).1, Nat.lt_of_lt_of_le (h3 k hk).2 ht.size⟩
    · exact ⟨Nat.le_trans h7 hk.1, hk.2⟩
  · rcases hk with hk | hk
    · exact h5 k hk hT
    · have := (h4 k hT).2; omega
theorem Two.look {P : Program} {f : FuncId} {args : Array Value} {R : Ending → World → Prop} (h : Two B w0 da A db D w) (hc : ∀ S, DiskAt w S da A → Calls P f args w R) : Calls P f args w R := by
  obtain ⟨S, T, h1, _⟩ := h
  exact hc S h1
/-- A disk, and a new one. -/
theorem Lone.two (h : Lone (fun _ => False) B w0 da A w) (hd : DiskAt w' (fun k => w.heap.size ≤ k ∧ k < w'.heap.size) db D) (hb : Below w.heap.size w w') : Two B w0 da A db D w' := by
  obtain ⟨⟨S, h1, hs⟩, h2, h3, h4⟩ := h
  exact ⟨S, _, h1.below hb, hd, fun k hk => ⟨(hs k hk).1, Nat.lt_of_lt_of_le (hs k hk).2.1 hb.size⟩, fun k hk => ⟨Nat.le_trans h3 hk.1, hk.2⟩, fun k hk ht => by have := (hs k hk).2.1; omega, bthen h2 h3 hb, Nat.le_trans h3 hb.size⟩
end
/-- A new disk's blocks lie below the heap's end. -/
theorem new_bound (w : World) (n : Nat) (h1 : 1 ≤ n) (h2 : n ≤ 4000) :
    Calls Try.prog 13 #[.int .i64 (n : Int)] w fun e w' => e = .returned (.pointer (some ⟨w.heap.size + 1, 0, none⟩)) ∧ DiskAt w' (fun k => w.heap.size ≤ k ∧ k < w'.heap.size) (w.heap.size + 1) (Dk.new n) ∧ Below w.heap.size w w' := by
  refine (new_yes w n h1 h2).mono ?_
  rintro e w' ⟨rfl, hd, hb⟩
  exact ⟨rfl, hd.tight, hb⟩
theorem Lone.new {w0 w w' : World} {B db : Nat} {D : Dk} (hd : DiskAt w' (fun k => w.heap.size ≤ k ∧ k < w'.heap.size) db D) (h0 : Below B w0 w) (hB : B ≤ w.heap.size) (hb : Below w.heap.size w w') : Lone (fun _ => False) B w0 db D w' :=
  ⟨⟨_, hd, fun k hk => ⟨Nat.le_trans hB hk.1, hk.2, id⟩⟩, bthen h0 hB hb, Nat.le_trans hB hb.size, fun _ h => h.elim⟩
end Go.Proofs.Ythcjlohdfcdloaa
