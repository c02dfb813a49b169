/- Things in memory, each with the blocks of its own. -/
import Derived.Test.YthhkadeiplbdkaaDoorJrW6
import Derived.Test.YthhkadeiplbdkaaDoorDkN
set_option linter.unusedVariables false
set_option linter.unusedSimpArgs false
namespace Go.Proofs.YthhkadeiplbdkaaDoor
open Go.RowKit

structure Th where
  at_ : World → (Nat → Prop) → Prop
  touch : ∀ {w w' : World} {S T : Nat → Prop}, at_ w S → Touch T w w' → (∀ k, S k → ¬ T k) → at_ w' S
  mono : ∀ {w : World} {S T : Nat → Prop}, at_ w S → (∀ k, S k → T k) → at_ w T
  tight : ∀ {w : World} {S : Nat → Prop}, at_ w S → at_ w (fun k => S k ∧ k < w.heap.size)

namespace Th
variable {w w' w'' : World} {S T : Nat → Prop} {a b c : Th}
theorem below (h : a.at_ w S) (hb : Below w.heap.size w w') : a.at_ w' S := a.touch h (Touch.of_new (S := fun _ => False) hb) fun _ _ => id
/-- Nothing. -/
def emp : Th := ⟨fun _ _ => True, fun _ _ _ => trivial, fun _ _ => trivial, fun _ => trivial⟩
/-- A fact. -/
def pure (p : Prop) : Th := ⟨fun _ _ => p, fun h _ _ => h, fun h _ => h, fun h => h⟩
def ex {α : Type} (f : α → Th) : Th :=
  ⟨fun w S => ∃ x, (f x).at_ w S, fun ⟨x, h⟩ t d => ⟨x, (f x).touch h t d⟩, fun ⟨x, h⟩ d => ⟨x, (f x).mono h d⟩, fun ⟨x, h⟩ => ⟨x, (f x).tight h⟩⟩
/-- Both, apart. -/
def star (a b : Th) : Th where
  at_ w S := ∃ A B : Nat → Prop, a.at_ w A ∧ b.at_ w B ∧ (∀ k, A k → ¬ B k) ∧ (∀ k, A k → S k) ∧ (∀ k, B k → S k)
  touch := fun ⟨A, B, h1, h2, h3, h4, h5⟩ t d => ⟨A, B, a.touch h1 t fun k hk => d k (h4 k hk), b.touch h2 t fun k hk => d k (h5 k hk), h3, h4, h5⟩
  mono := fun ⟨A, B, h1, h2, h3, h4, h5⟩ d => ⟨A, B, h1, h2, h3, fun k hk => d k (h4 k hk), fun k hk => d k (h5 k hk)⟩
  tight := fun ⟨A, B, h1, h2, h3, h4, h5⟩ => ⟨_, _, a.tight h1, b.tight h2, fun k hk hb => h3 k hk.1 hb.1, fun k hk => ⟨h4 k hk.1, hk.2⟩, fun k hk => ⟨h5 k hk.1, hk.2⟩⟩
theorem star_comm (h : (a.star b).at_ w S) : (b.star a).at_ w S := by
  obtain ⟨A, B, h1, h2, h3, h4, h5⟩ := h
  exact ⟨B, A, h2, h1, fun k hb ha => h3 k ha hb, h5, h4⟩
theorem star_assoc (h : ((a.star b).star c).at_ w S) : (a.star (b.star c)).at_ w S := by
  obtain ⟨A, C, ⟨A1, A2, h1, h2, h3, h4, h5⟩, h6, h7, h8, h9⟩ := h
  exact ⟨A1, fun k => A2 k ∨ C k, h1, ⟨A2, C, h2, h6, fun k hk => h7 k (h5 k hk), fun k => .inl, fun k => .inr⟩, fun k hk h => h.elim (h3 k hk) (h7 k (h4 k hk)), fun k hk => h8 k (h4 k hk), fun k hk => hk.elim (fun h => h8 k (h5 k h)) (h9 k)⟩
theorem star_assoc' (h : (a.star (b.star c)).at_ w S) : ((a.star b).star c).at_ w S := by
  have h1 := star_comm h
  have h2 := star_assoc (star_comm (star_comm h1))
  exact star_comm (star_assoc (star_comm (by
    have h3 : ((b.star c).star a).at_ w S := h1
    have h4 := star_assoc h3
    have h5 : ((c.star a).star b).at_ w S := star_comm h4
    exact star_comm h5)))
theorem star_mono {a' : Th} (h : (a.star b).at_ w S) (f : ∀ {S}, a.at_ w S → a'.at_ w S) : (a'.star b).at_ w S := by
  obtain ⟨A, B, h1, h2, h3, h4, h5⟩ := h
  exact ⟨A, B, f h1, h2, h3, h4, h5⟩
end Th

/-- A disk, an own list of texts, a journal. -/
def diskT (db : Nat) (D : Dk) : Th := ⟨fun w S => DiskAt w S db D, fun h t d => h.touch t d, fun h d => h.mono d, fun h => h.tight⟩
def rowT (v : Value) (xs : List (List UInt8)) : Th where
  at_ w S := w.ownsRow 0 9 1 v xs.length (strL xs) ∧ ∀ k, v.ownBlock = some k → S k
  touch := fun h t d => ⟨t.own h.1 fun k hk => d k (h.2 k hk), h.2⟩
  mono := fun h d => ⟨h.1, fun k hk => d k (h.2 k hk)⟩
  tight := fun h => ⟨h.1, fun k hk => ⟨h.2 k hk, (h.1.lt k hk).2⟩⟩
def jobT (jb db : Nat) (n c : Nat) (v : Value) (br : Bool) : Th where
  at_ w S := Blk w jb 50 #[.pointer (some ⟨db, 0, none⟩), .int .i64 (n : Int), .int .i64 (c : Int), v, .bool br] ∧ S jb
  touch := fun h t d => ⟨t.blk h.1 (d _ h.2), h.2⟩
  mono := fun h d => ⟨h.1, d _ h.2⟩
  tight := fun h => ⟨h.1, h.2, h.1.lt⟩
def jnT (jb db : Nat) (J : Jn) : Th := Th.ex fun v => (jobT jb db J.n J.c v J.br).star (rowT v J.recs)

/-- All that is here lies from block B on; below B all is as in w0. -/
def Hp (B : Nat) (w0 : World) (R : Th) (w : World) : Prop :=
  (∃ S, R.at_ w S ∧ ∀ k, S k → B ≤ k ∧ k < w.heap.size) ∧ Below B w0 w ∧ B ≤ w.heap.size
section
variable {B : Nat} {w0 w w' : World} {R F R' : Th}
theorem Hp.bel (h : Hp B w0 R w) : Below B w0 w := h.2.1
theorem Hp.size (h : Hp B w0 R w) : B ≤ w.heap.size := h.2.2
theorem Hp.start (w : World) : Hp w.heap.size w Th.emp w := ⟨⟨fun _ => False, trivial, fun _ h => h.elim⟩, Below.refl _ _, Nat.le_refl _⟩
theorem Hp.below (h : Hp B w0 R w) (hb : Below w.heap.size w w') : Hp B w0 R w' := by
  obtain ⟨⟨S, h1, h2⟩, h3, h4⟩ := h
  exact ⟨⟨S, Th.below h1 hb, fun k hk => ⟨(h2 k hk).1, Nat.lt_of_lt_of_le (h2 k hk).2 hb.size⟩⟩, bthen h3 h4 hb, Nat.le_trans h4 hb.size⟩
theorem Hp.conv (h : Hp B w0 R w) (f : ∀ S, R.at_ w S → R'.at_ w S) : Hp B w0 R' w := by
  obtain ⟨⟨S, h1, h2⟩, h3⟩ := h
  exact ⟨⟨S, f S h1, h2⟩, h3⟩
theorem Hp.comm (h : Hp B w0 (R.star F) w) : Hp B w0 (F.star R) w := h.conv fun _ => Th.star_comm
theorem Hp.look (h : Hp B w0 R w) : ∃ S, R.at_ w S ∧ ∀ k, S k → B ≤ k ∧ k < w.heap.size := h.1
/-- What is new is added. -/
theorem Hp.add (h : Hp B w0 F w) (hb : Below w.heap.size w w') (hR : R.at_ w' (fun k => w.heap.size ≤ k)) : Hp B w0 (R.star F) w' := by
  obtain ⟨⟨S, h1, h2⟩, h3, h4⟩ := h
  refine ⟨⟨fun k => B ≤ k ∧ k < w'.heap.size, ⟨_, S, R.tight hR, Th.below h1 hb, fun k hk hs => ?_, fun k hk => ?_, fun k hk => ?_⟩, fun k hk => hk⟩, bthen h3 h4 hb, Nat.le_trans h4 hb.size⟩
  · have := (h2 k hs).2; have := hk.1; omega
  · exact ⟨Nat.le_trans h4 hk.1, hk.2⟩
  · exact ⟨(h2 k hk).1, Nat.lt_of_lt_of_le (h2 k hk).2 hb.size⟩
/-- What a call does to the things it is about. -/
def CPost (S : Nat → Prop) (w : World) (R : Ending → Th) (e : Ending) (w' : World) : Prop := (R e).at_ w' (Plus S w w') ∧ Touch S w w'
theorem Hp.after (h : Hp B w0 (R.star F) w) {S : Nat → Prop} (hS : ∀ k, S k → B ≤ k ∧ k < w.heap.size) {T : Nat → Prop} (hF : F.at_ w T) (hT : ∀ k, T k → B ≤ k ∧ k < w.heap.size) (hd : ∀ k, S k → ¬ T k)
    (hR' : R'.at_ w' (Plus S w w')) (ht : Touch S w w') : Hp B w0 (R'.star F) w' := by
  obtain ⟨_, h3, h4⟩ := h
  refine ⟨⟨fun k => B ≤ k ∧ k < w'.heap.size, ⟨_, T, R'.tight hR', F.touch hF ht fun k hk hs => hd k hs hk, fun k hk hs => ?_, fun k hk => ?_, fun k hk => ?_⟩, fun k hk => hk⟩, h3.trans (ht.below h4 fun k hk => (hS k hk).1), Nat.le_trans h4 ht.size⟩
  · rcases hk.1 with h | h
    · exact hd k h hs
    · have := (hT k hs).2; omega
  · refine ⟨?_, hk.2⟩
    rcases hk.1 with h | h
    · exact (hS k h).1
    · exact Nat.le_trans h4 h.1
  · exact ⟨(hT k hk).1, Nat.lt_of_lt_of_le (hT k hk).2 ht.size⟩
theorem Hp.step {P : Program} {f : FuncId} {args : Array Value} {Q : Ending → Th} (h : Hp B w0 (R.star F) w) (hc : ∀ S, (∀ k, S k → B ≤ k ∧ k < w.heap.size) → R.at_ w S → Calls P f args w (CPost S w Q)) :
    Calls P f args w fun e w' => Hp B w0 ((Q e).star F) w' ∧ w.heap.size ≤ w'.heap.size := by
  obtain ⟨S, ⟨A, C, h1, h2, h3, h4, h5⟩, h6⟩ := h.look
  refine (hc A (fun k hk => h6 k (h4 k hk)) h1).mono fun e w' hp => ?_
  exact ⟨h.after (fun k hk => h6 k (h4 k hk)) h2 (fun k hk => h6 k (h5 k hk)) h3 hp.1 hp.2, hp.2.size⟩
theorem Hp.use {P : Program} {f : FuncId} {args : Array Value} {Q : Ending → World → Prop} (h : Hp B w0 R w) (hc : ∀ S, (∀ k, S k → B ≤ k ∧ k < w.heap.size) → R.at_ w S → Calls P f args w Q) : Calls P f args w Q := by
  obtain ⟨S, h1, h2⟩ := h.look
  exact hc S h2 h1
end
end Go.Proofs.YthhkadeiplbdkaaDoor
