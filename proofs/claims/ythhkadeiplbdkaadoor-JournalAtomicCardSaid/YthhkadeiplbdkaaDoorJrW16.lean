/- Walks of the journal's functions, part 16: what Open has made on its way. -/
import Derived.Test.YthhkadeiplbdkaaDoorJrW15
import Derived.Test.YthhkadeiplbdkaaDoorJrE
set_option linter.unusedVariables false
set_option linter.unusedSimpArgs false
namespace Go.Proofs.YthhkadeiplbdkaaDoor
open Go.RowKit

def curs (D : Dk) (k : Nat) : List (List UInt8) := (List.range k).map (Jr.curL D)
theorem curs_length (D : Dk) (k : Nat) : (curs D k).length = k := by simp [curs]
theorem curs_succ (D : Dk) (k : Nat) : curs D (k + 1) = curs D k ++ [Jr.curL D k] := by simp [curs, List.range_succ]
theorem curs_at (D : Dk) {k n : Nat} (h : k < n) : (curs D n)[k]'(by rw [curs_length]; exact h) = Jr.curL D k := by simp [curs]
theorem curs_get (D : Dk) {k n : Nat} (h : k < n) : (curs D n)[k]? = some (Jr.curL D k) := by simp [curs, h]
def lenOfV : Value → Nat | .slice _ n _ => n | _ => 0
theorem curL_len {D : Dk} (h : D.Inv) {i : Nat} (hi : i < D.st.length) : (Jr.curL D i).length = 64 := by
  unfold Jr.curL Dk.cur
  split
  · rename_i p hp
    have hm := List.mem_of_find?_eq_some hp
    rw [Dk.data_len]
    exact (h.pend p (List.mem_reverse.1 hm)).2
  · show (D.st.getD i []).length = 64
    exact Dk.getD_len h.sec hi
theorem cur_str (D : Dk) (k : Nat) : D.cur k = Dk.str (Jr.curL D k) := (Dk.str_data _).symm

/-- The texts and the journal that Open has made. -/
structure OpA (w wr : World) (db g n cap jb : Nat) (c : Int) (v : Value) (D : Dk) : Prop where
  bel : Below w.heap.size w wr
  own : wr.ownsRow w.heap.size 9 1 (.slice (some ⟨g, 0, none⟩) n cap) n (strL (curs D n))
  job : Blk wr jb 50 #[.pointer (some ⟨db, 0, none⟩), .int .i64 (n : Int), .int .i64 c, v, .bool false]
  new : w.heap.size ≤ jb
theorem OpA.at_ {w wr : World} {db g n cap jb : Nat} {c : Int} {v : Value} {D : Dk} (h : OpA w wr db g n cap jb c v D) {i : Nat} (hi : i < n) : wr.cell? ⟨g, i, none⟩ = some (.string (Dk.str (Jr.curL D i))) := by
  have h1 := h.own.cellAt i (by omega)
  rw [h1]
  simp [strL, curs_get D hi]
theorem OpA.gl {w wr : World} {db g n cap jb : Nat} {c : Int} {v : Value} {D : Dk} (h : OpA w wr db g n cap jb c v D) : g < wr.heap.size := (h.own.lt g rfl).2
theorem OpA.below {w wr w' : World} {db g n cap jb : Nat} {c : Int} {v : Value} {D : Dk} (h : OpA w wr db g n cap jb c v D) (hb : Below wr.heap.size wr w') : OpA w w' db g n cap jb c v D :=
  ⟨bthen h.bel h.bel.size hb, (Touch.of_new (S := fun _ => False) hb).own h.own fun _ _ => id, (Touch.of_new (S := fun _ => False) hb).blk h.job id, h.new⟩
theorem OpA.belowB {w wr w' : World} {db g n cap jb B : Nat} {c : Int} {v : Value} {D : Dk} (h : OpA w wr db g n cap jb c v D) (hb : Below B wr w') (hg : g < B) (hj : jb < B) (hB : w.heap.size ≤ B) : OpA w w' db g n cap jb c v D :=
  ⟨h.bel.trans (hb.mono hB), (Touch.of_below hb).own h.own (fun k hk => by
    have : g = k := by simpa [Value.ownBlock] using hk
    omega), (Touch.of_below hb).blk h.job (by omega), h.new⟩
theorem OpA.store {w wr : World} {db g n cap jb : Nat} {c : Int} {v : Value} {D : Dk} (h : OpA w wr db g n cap jb c v D) (c' : Int) : OpA w (wr.setCell ⟨jb, 2, none⟩ (.int .i64 c')) db g n cap jb c' v D :=
  ⟨h.bel.setCell (p := ⟨jb, 2, none⟩) h.new _, (Touch.setCell (S := fun k => k = jb) (Touch.refl _ wr) (p := ⟨jb, 2, none⟩) (.inr rfl) _).own h.own (fun k hk e => own_blk_ne h.own h.job (by decide) (hk.trans (congrArg some e))), h.job.set_ 2 _, h.new⟩
theorem OpA.drew {w wr : World} {db g n cap jb : Nat} {c : Int} {v : Value} {D : Dk} (h : OpA w wr db g n cap jb c v D) : OpA w wr.drew db g n cap jb c v D :=
  ⟨h.bel.drew, h.own, h.job, h.new⟩


namespace Jr
/-- The first heads are restored. -/
def Rests (D : Dk) (c : Nat) : Nat → Dk → Prop
  | 0, E => E = D
  | i + 1, E => ∃ F, Rests D c i F ∧ rest F i (curL D i) c = (E, 0)
section
variable {D E F : Dk} {c : Nat} {t : List UInt8} {rs : List (List UInt8)}
theorem opn_low (ho : D.off = false) (h3 : ¬ D.st.length < 3) (hm : max (cnt 0 (curL D 0) ((D.st.length : Int) - 2)) (cnt 1 (curL D 1) ((D.st.length : Int) - 2)) < 0) : opn D = (D, none, 27) := by
  unfold opn
  rw [ho, if_neg (by simp), if_neg h3]
  simp only
  rw [if_pos hm]
theorem opn_lost (ho : D.off = false) (h3 : ¬ D.st.length < 3) (hm : max (cnt 0 (curL D 0) ((D.st.length : Int) - 2)) (cnt 1 (curL D 1) ((D.st.length : Int) - 2)) = (c : Int)) (hf : found D c = none) : opn D = (D, none, 27) := by
  unfold opn
  rw [ho, if_neg (by simp), if_neg h3]
  simp only [hm, Int.toNat_natCast]
  rw [if_neg (by omega), hf]
theorem opn_unparsed (ho : D.off = false) (h3 : ¬ D.st.length < 3) (hm : max (cnt 0 (curL D 0) ((D.st.length : Int) - 2)) (cnt 1 (curL D 1) ((D.st.length : Int) - 2)) = (c : Int)) (hf : found D c = some t) (hp : parse t = none) : opn D = (D, none, 27) := by
  unfold opn
  rw [ho, if_neg (by simp), if_neg h3]
  simp only [hm, Int.toNat_natCast]
  rw [if_neg (by omega), hf]
  simp only
  rw [hp]
theorem opn_eq (ho : D.off = false) (h3 : ¬ D.st.length < 3) (hm : max (cnt 0 (curL D 0) ((D.st.length : Int) - 2)) (cnt 1 (curL D 1) ((D.st.length : Int) - 2)) = (c : Int)) (hf : found D c = some t) (hp : parse t = some rs) :
    opn D = (if (rest D 0 (curL D 0) c).2 ≠ 0 then ((rest D 0 (curL D 0) c).1, none, (rest D 0 (curL D 0) c).2) else
      if (rest (rest D 0 (curL D 0) c).1 1 (curL D 1) c).2 ≠ 0 then ((rest (rest D 0 (curL D 0) c).1 1 (curL D 1) c).1, none, (rest (rest D 0 (curL D 0) c).1 1 (curL D 1) c).2) else
        ((rest (rest D 0 (curL D 0) c).1 1 (curL D 1) c).1, some { n := D.st.length, c := c, recs := rs, br := false }, 0)) := by
  unfold opn
  rw [ho, if_neg (by simp), if_neg h3]
  simp only [hm, Int.toNat_natCast]
  rw [if_neg (by omega), hf]
  simp only
  rw [hp]
theorem opn_done (ho : D.off = false) (h3 : ¬ D.st.length < 3) (hm : max (cnt 0 (curL D 0) ((D.st.length : Int) - 2)) (cnt 1 (curL D 1) ((D.st.length : Int) - 2)) = (c : Int)) (hf : found D c = some t) (hp : parse t = some rs) (h : Rests D c 2 E) :
    opn D = (E, some { n := D.st.length, c := c, recs := rs, br := false }, 0) := by
  obtain ⟨F, ⟨G, rfl, h0⟩, h1⟩ := h
  rw [opn_eq ho h3 hm hf hp, h0]
  simp only [ne_eq, not_true_eq_false, if_false]
  rw [h1]
  simp only [not_true_eq_false, if_false]
theorem opn_stop (ho : D.off = false) (h3 : ¬ D.st.length < 3) (hm : max (cnt 0 (curL D 0) ((D.st.length : Int) - 2)) (cnt 1 (curL D 1) ((D.st.length : Int) - 2)) = (c : Int)) (hf : found D c = some t) (hp : parse t = some rs) {i : Nat} (hi : i < 2) (h : Rests D c i F) (hr : (rest F i (curL D i) c).2 ≠ 0) :
    opn D = ((rest F i (curL D i) c).1, none, (rest F i (curL D i) c).2) := by
  rw [opn_eq ho h3 hm hf hp]
  rcases (show i = 0 ∨ i = 1 by omega) with rfl | rfl
  · obtain rfl : F = D := h
    rw [if_pos hr]
  · obtain ⟨G, rfl, h0⟩ := h
    rw [h0]
    simp only [ne_eq, not_true_eq_false, if_false]
    rw [if_pos hr]
theorem found_none {D : Dk} {m : Nat} (h : found D m = none) : ∀ k, found D (m + k) = none := by
  intro k
  induction k with
  | zero => exact h
  | succ k ih =>
    show found D (m + k + 1) = none
    simp only [found]
    rw [ih]
theorem found_lost {D : Dk} {m c : Nat} {t : List UInt8} (h : found D m = some t) (hp : piece (2 + m) (curL D (2 + m)) = none) (hc : m < c) : found D c = none := by
  have h1 : found D (m + 1) = none := by
    simp only [found]
    rw [h]
    simp only
    rw [hp]
    rfl
  have := found_none h1 (c - (m + 1))
  rwa [show m + 1 + (c - (m + 1)) = c by omega] at this
theorem found_more {D : Dk} {m : Nat} {t x : List UInt8} (h : found D m = some t) (hp : piece (2 + m) (curL D (2 + m)) = some x) : found D (m + 1) = some (t ++ x) := by
  simp only [found]
  rw [h]
  simp only
  rw [hp]
  rfl
theorem piece_no {p : Nat} {s : List UInt8} {n : Int} (hn : (atoiV ((s.drop 16).take 2)).1 = n) (h : n < 1 ∨ 46 < n) : piece p s = none := by
  unfold piece
  simp only
  rw [hn, if_neg (by omega)]
theorem piece_if {p : Nat} {s : List UInt8} {n : Nat} (hn : (atoiV ((s.drop 16).take 2)).1 = (n : Int)) (h1 : 1 ≤ n) (h2 : n ≤ 46) : piece p s = if sect p ((s.drop 18).take n) = s then some ((s.drop 18).take n) else none := by
  unfold piece
  simp only
  rw [hn, Int.toNat_natCast]
  by_cases h : sect p ((s.drop 18).take n) = s
  · rw [if_pos ⟨by omega, by omega, h⟩, if_pos h]
  · rw [if_neg (fun e => h e.2.2), if_neg h]
theorem rest_same {D : Dk} {p : Nat} {was : List UInt8} {c : Nat} (h : was = head p c ∨ (c = 0 ∧ was = zeros)) : rest D p was c = (D, 0) := by unfold rest; exact if_pos h
theorem rest_fail {D : Dk} {p : Nat} {was : List UInt8} {c : Nat} (h : ¬ (was = head p c ∨ (c = 0 ∧ was = zeros))) (ha : (wr D p [zeros]).2 ≠ 0) : rest D p was c = wr D p [zeros] := by
  unfold rest
  rw [if_neg h]
  simp only
  rw [if_neg (fun e => ha e.1)]
theorem rest_zero {D : Dk} {p : Nat} {was : List UInt8} (h : ¬ (was = head p 0 ∨ ((0 : Nat) = 0 ∧ was = zeros))) : rest D p was 0 = wr D p [zeros] := by
  unfold rest
  rw [if_neg h]
  simp only
  rw [if_neg (by omega)]
theorem rest_two {D : Dk} {p : Nat} {was : List UInt8} {c : Nat} (h : ¬ (was = head p c ∨ (c = 0 ∧ was = zeros))) (ha : (wr D p [zeros]).2 = 0) (hc : 0 < c) : rest D p was c = wr (wr D p [zeros]).1 p [head p c] := by
  unfold rest
  rw [if_neg h]
  simp only
  rw [if_pos ⟨ha, hc⟩]
end
end Jr

/-- What Open leaves. -/
def OpnPost (S : Nat → Prop) (w : World) (db : Nat) (r : Dk × Option Jn × Int) (e : Ending) (w' : World) : Prop :=
  Touch S w w' ∧ match r.2.1 with
    | none => e = .returned (.tuple #[.pointer none, .slice none 0 0, .int .i64 r.2.2]) ∧ DiskAt w' (Plus S w w') db r.1
    | some J => ∃ jb v, e = .returned (.tuple #[.pointer (some ⟨jb, 0, none⟩), v, .int .i64 r.2.2]) ∧ (((jnT jb db J).star (rowT v J.recs)).star (diskT db r.1)).at_ w' (Plus S w w')
theorem OpnPost.no {S : Nat → Prop} {w w' : World} {db : Nat} {D : Dk} {x : Int} (hD : DiskAt w S db D) (hb : Below w.heap.size w w') {r : Dk × Option Jn × Int} (hr : r = (D, none, x)) {v : Value} (hv : v = .tuple #[.pointer none, .slice none 0 0, .int .i64 x]) :
    OpnPost S w db r (.returned v) w' := by
  subst hr; subst hv
  exact ⟨Touch.of_new hb, rfl, (hD.below hb).mono fun _ => .inl⟩
/-- The blocks of Open's own while the heads are restored. -/
def OpG (g jb : Nat) (v : Value) : Nat → Prop := fun k => k = g ∨ k = jb ∨ v.ownBlock = some k
structure OpJ (w wr : World) (db g n cap jb c : Nat) (v : Value) (D : Dk) (rs : List (List UInt8)) : Prop where
  own : wr.ownsRow w.heap.size 9 1 (.slice (some ⟨g, 0, none⟩) n cap) n (strL (curs D n))
  job : Blk wr jb 50 #[.pointer (some ⟨db, 0, none⟩), .int .i64 (n : Int), .int .i64 (c : Int), v, .bool false]
  row : wr.ownsRow w.heap.size 9 1 v rs.length (strL rs)
  new : w.heap.size ≤ jb
section
variable {w wr w' wL : World} {db g n cap jb c : Nat} {v : Value} {D E F : Dk} {rs : List (List UInt8)} {S G : Nat → Prop} {qm qm' : Nat}
theorem OpJ.at_ (h : OpJ w wr db g n cap jb c v D rs) {i : Nat} (hi : i < n) : wr.cell? ⟨g, i, none⟩ = some (.string (Dk.str (Jr.curL D i))) := by
  have h1 := h.own.cellAt i (by omega)
  rw [h1]
  simp [strL, curs_get D hi]
theorem OpJ.gl (h : OpJ w wr db g n cap jb c v D rs) : g < wr.heap.size := (h.own.lt g rfl).2
theorem OpJ.lt (h : OpJ w wr db g n cap jb c v D rs) : ∀ k, OpG g jb v k → k < wr.heap.size := by
  rintro k (rfl | rfl | e)
  · exact h.gl
  · exact h.job.lt
  · exact (h.row.lt k e).2
theorem OpJ.base (h : OpJ w wr db g n cap jb c v D rs) : ∀ k, OpG g jb v k → w.heap.size ≤ k := by
  rintro k (rfl | rfl | e)
  · exact (h.own.lt _ rfl).1
  · exact h.new
  · exact (h.row.lt k e).1
theorem OpJ.of (h : OpA w wr db g n cap jb c (.slice none 0 0) D) (hr : wr.ownsRow w.heap.size 9 1 v rs.length (strL rs)) : OpJ w (wr.setCell ⟨jb, 3, none⟩ v) db g n cap jb c v D rs := by
  have t : Touch (fun k => k = jb) wr (wr.setCell ⟨jb, 3, none⟩ v) := Touch.setCell (S := fun k => k = jb) (Touch.refl _ wr) (p := ⟨jb, 3, none⟩) (.inr rfl) _
  exact ⟨t.own h.own fun k hk e => own_blk_ne h.own h.job (by decide) (hk.trans (congrArg some e)), h.job.set_ 3 _, t.own hr fun k hk e => own_blk_ne hr h.job (by decide) (hk.trans (congrArg some e)), h.new⟩
/-- While the heads are restored: the disk E, apart from the blocks of G, which are as they were. -/
def OpR (S G : Nat → Prop) (w wL : World) (db qm : Nat) (E : Dk) (wr : World) : Prop :=
  (∃ T, DiskAt wr T db E ∧ ∀ i, T i → (S i ∨ w.heap.size ≤ i) ∧ i < wr.heap.size ∧ ¬ G i) ∧ (∀ g, G g → wr.heap[g]? = wL.heap[g]?) ∧ Touch S w wr ∧ wL.heap.size ≤ wr.heap.size ∧ E.q.length ≤ qm
theorem OpR.start (hD : DiskAt wL S db D) (hS : ∀ k, S k → k < w.heap.size) (hG : ∀ k, G k → w.heap.size ≤ k) (hb : Below w.heap.size w wL) (hq : D.q.length ≤ qm) : OpR S G w wL db qm D wL :=
  ⟨⟨S, hD, fun i hi => ⟨.inl hi, by have := hS i hi; have := hb.size; omega, fun h => by have := hG i h; have := hS i hi; omega⟩⟩, fun _ _ => rfl, Touch.of_new hb, Nat.le_refl _, hq⟩
theorem OpR.new (h : OpR S G w wL db qm E wr) (hG : ∀ g, G g → g < wL.heap.size) (hb : Below wr.heap.size wr w') : OpR S G w wL db qm E w' := by
  obtain ⟨⟨T, h1, h2⟩, h3, h4, h5, h6⟩ := h
  have hs := hb.size
  exact ⟨⟨T, h1.below hb, fun i hi => ⟨(h2 i hi).1, by have := (h2 i hi).2.1; omega, (h2 i hi).2.2⟩⟩, fun g hg => (hb.block g (by have := hG g hg; omega)).trans (h3 g hg), h4.trans (Touch.of_new (S := fun _ => False) hb) (fun _ _ h => h.elim), by omega, h6⟩
theorem OpR.drew (h : OpR S G w wL db qm E wr) (hG : ∀ g, G g → g < wL.heap.size) : OpR S G w wL db qm E wr.drew := h.new hG (below_drewN (Below.refl _ _) 1)
theorem OpR.env (h : OpR S G w wL db qm E wr) (hE : Env w) (hS : ∀ k, S k → nG ≤ k) : Env wr := hE.touch h.2.2.1 hS
theorem OpR.here (h : OpR S (OpG g jb v) w wL db qm E wr) (hJ : OpJ w wL db g n cap jb c v D rs) : OpJ w wr db g n cap jb c v D rs :=
  ⟨own_of_block hJ.own fun k hk => h.2.1 k (.inl (by simpa [Value.ownBlock] using hk.symm)), (h.2.1 jb (.inr (.inl rfl))).trans hJ.job, own_of_block hJ.row fun k hk => h.2.1 k (.inr (.inr hk)), hJ.new⟩
theorem OpR.write {T : Nat → Prop} {u : Value} {e : Ending} (h : OpR S G w wL db qm E wr) (hT : ∀ i, T i → (S i ∨ w.heap.size ≤ i) ∧ i < wr.heap.size ∧ ¬ G i) (hG : ∀ g, G g → g < wL.heap.size) (hp : DPost T wr db F u e w') (hq : F.q.length ≤ qm') : OpR S G w wL db qm' F w' := by
  obtain ⟨_, h3, h4, h5, _⟩ := h
  obtain ⟨_, hd, ht⟩ := hp
  have hs := ht.size
  have hws := h4.size
  refine ⟨⟨_, hd, ?_⟩, fun g hg => (ht.block g (by have := hG g hg; omega) (fun hh => (hT g hh).2.2 hg)).trans (h3 g hg), h4.trans ht (fun i hi hh => (hT i hh).1.elim id fun h => by omega), by omega, hq⟩
  rintro i (hi | hi)
  · exact ⟨(hT i hi).1, by have := (hT i hi).2.1; omega, (hT i hi).2.2⟩
  · exact ⟨.inr (by omega), hi.2, fun hg => by have := hG i hg; omega⟩
theorem OpR.fail (h : OpR S G w wL db qm E wr) {r : Dk × Option Jn × Int} {x : Int} (hr : r = (E, none, x)) {u : Value} (hu : u = .tuple #[.pointer none, .slice none 0 0, .int .i64 x]) : OpnPost S w db r (.returned u) wr := by
  subst hr; subst hu
  obtain ⟨⟨T, h1, h2⟩, h3, h4, h5, h6⟩ := h
  exact ⟨h4, rfl, h1.mono fun k hk => (h2 k hk).1.elim .inl fun hh => .inr ⟨hh, (h2 k hk).2.1⟩⟩
/-- Open ends, and hands back a copy of the records. -/
theorem OpR.done (h : OpR S (OpG g jb v) w wL db qm E wr) (hJ : OpJ w wL db g n cap jb c v D rs) (hS : ∀ k, S k → k < w.heap.size) {v' : Value} {w' : World} (ho : w'.ownsRow wr.heap.size 9 1 v' rs.length (strL rs)) (hb : Below wr.heap.size wr w')
    {r : Dk × Option Jn × Int} (hr : r = (E, some ⟨n, c, rs, false⟩, 0)) {u : Value} (hu : u = .tuple #[.pointer (some ⟨jb, 0, none⟩), v', .int .i64 0]) : OpnPost S w db r (.returned u) w' := by
  subst hr; subst hu
  have hG := hJ.lt
  have h0 := h
  have h' := h.new hG hb
  have hj := h'.here hJ
  obtain ⟨⟨T, h1, h2⟩, h3, h4, h5, h6⟩ := h
  obtain ⟨_, _, h4', _, _⟩ := h'
  have hs := hb.size
  have hws := h4.size
  have hv' : ∀ k, v'.ownBlock = some k → wr.heap.size ≤ k ∧ k < w'.heap.size := fun k hk => ho.lt k hk
  refine ⟨h4', jb, v', rfl, fun k => OpG g jb v k ∨ v'.ownBlock = some k, T, ?_, h1.below hb, ?_, ?_, ?_⟩
  · refine ⟨OpG g jb v, fun k => v'.ownBlock = some k, ⟨v, fun k => k = jb, fun k => v.ownBlock = some k, ⟨hj.job, rfl⟩, ⟨own_low hj.row (Nat.zero_le _), fun _ => id⟩, ?_, fun k hk => .inr (.inl hk), fun k hk => .inr (.inr hk)⟩, ⟨own_low ho (Nat.zero_le _), fun _ => id⟩, ?_, fun k hk => .inl hk, fun k hk => .inr hk⟩
    · intro k hk hk2
      exact own_blk_ne hj.row hj.job (by decide) (hk2.trans (congrArg some hk))
    · intro k hk hk2
      have := hG k hk
      have := (hv' k hk2).1
      omega
  · rintro k (hk | hk) hT
    · exact (h2 k hT).2.2 hk
    · have := (hv' k hk).1
      have := (h2 k hT).2.1
      omega
  · rintro k (hk | hk)
    · exact .inr ⟨hJ.base k hk, by have := hG k hk; omega⟩
    · exact .inr ⟨by have := (hv' k hk).1; omega, (hv' k hk).2⟩
  · intro k hk
    exact (h2 k hk).1.elim .inl fun hh => .inr ⟨hh, by have := (h2 k hk).2.1; omega⟩
end
/-- One sector is written, by a list that was made for it. -/
theorem jwrite_one (w : World) (T : Nat → Prop) (jb db : Nat) (E : Dk) (p : Nat) (x : List UInt8) (hD : DiskAt w T db E) (hj : w.cell? ⟨jb, 0, none⟩ = some (.pointer (some ⟨db, 0, none⟩))) (hjl : jb < w.heap.size) (hjT : ¬ T jb) (hTl : ∀ k, T k → k < w.heap.size)
    (hp : p ≤ 1000) (hx : x.length ≤ 1000) (hq : E.q.length + 1 < 1000000) :
    Calls Tryd.prog 36 #[.pointer (some ⟨jb, 0, none⟩), .int .i64 (p : Int), .slice (some ⟨w.heap.size, 0, none⟩) 1 1] (w.alloc (.cells #[.string (Dk.str x)] 9)) (DPost T w db (Jr.wr E p [x]).1 (.int .i64 (Jr.wr E p [x]).2)) := by
  have hb2 : Below w.heap.size w (w.alloc (.cells #[.string (Dk.str x)] 9)) := (Below.refl _ _).alloc (Nat.le_refl _) _
  refine (jwrite_any _ T jb db E p _ 1 [x] (hD.below hb2) ((hb2.cell (p := ⟨jb, 0, none⟩) hjl).trans hj) (Nat.lt_of_lt_of_le hjl hb2.size) hjT (strs_one w _) ?_ (by simp; omega) ?_ (by simpa using hq)).mono fun e w2 hp => hp.since hb2
  · rintro b o h
    injection h with h
    injection h with h _
    subst h
    intro hs
    have := hTl _ hs
    omega
  · intro y hy
    rw [List.mem_singleton.1 hy]
    exact hx
end Go.Proofs.YthhkadeiplbdkaaDoor
