/- Walks of the journal's functions, part 12: Append where it writes. -/
import Derived.Test.YthhkadeiplbdkaaDoorJrW11
set_option linter.unusedVariables false
set_option linter.unusedSimpArgs false
namespace Go.Proofs.YthhkadeiplbdkaaDoor
open Go.RowKit

/-- The variables of Append's own: from, next. -/
structure AppV (w4 wr : World) (c M : Nat) (bf bn : Nat) : Prop where
  f : Blk wr bf 3 #[.int .i64 ((2 + c : Nat) : Int)]
  n : Blk wr bn 3 #[.int .i64 ((c + M : Nat) : Int)]
  bel : Below w4.heap.size w4 wr
  lf : w4.heap.size ≤ bf
  ln : w4.heap.size ≤ bn
theorem AppV.of {w4 : World} {c M : Nat} : AppV w4 (((w4.alloc (.cells #[.int .i64 ((2 + c : Nat) : Int)] 3)).alloc (.cells #[.int .i64 ((c + M : Nat) : Int)] 3)).drew) c M w4.heap.size (w4.heap.size + 1) :=
  ⟨(Blk.new _ _ _).alloc _, Blk.drew (by simpa using Blk.new (w4.alloc (.cells #[.int .i64 ((2 + c : Nat) : Int)] 3)) 3 #[.int .i64 ((c + M : Nat) : Int)]), (((Below.refl _ _).alloc (Nat.le_refl _) _).alloc (by simp) _).drew, Nat.le_refl _, Nat.le_succ _⟩
theorem AppV.of' {w4 : World} {c M : Nat} : AppV w4 (((w4.alloc (.cells #[.int .i64 ((c + M : Nat) : Int)] 3)).alloc (.cells #[.int .i64 ((2 + c : Nat) : Int)] 3)).drew) c M (w4.heap.size + 1) w4.heap.size :=
  ⟨Blk.drew (by simpa using Blk.new (w4.alloc (.cells #[.int .i64 ((c + M : Nat) : Int)] 3)) 3 #[.int .i64 ((2 + c : Nat) : Int)]), (Blk.new _ _ _).alloc _, (((Below.refl _ _).alloc (Nat.le_refl _) _).alloc (by simp) _).drew, Nat.le_succ _, Nat.le_refl _⟩
/-- The lists that are gathered: empty sectors, full sectors. -/
structure AppL (w4 wr : World) (c M : Nat) (ps : List (List UInt8)) (bf bn bE bF kE kF : Nat) (vE vF : Value) : Prop where
  v : AppV w4 wr c M bf bn
  e : Blk wr bE 27 #[vE]
  g : Blk wr bF 27 #[vF]
  re : wr.ownsRow w4.heap.size 9 1 vE kE (strL (List.replicate kE Jr.zeros))
  rg : wr.ownsRow w4.heap.size 9 1 vF kF (strL ((Jr.full (2 + c) ps).take kF))
  ap : ∀ k, vE.ownBlock = some k → vF.ownBlock ≠ some k
  le_ : w4.heap.size ≤ bE
  lg : w4.heap.size ≤ bF
  ne : bE ≠ bF
theorem AppL.of {w4 wr : World} {c M : Nat} {ps : List (List UInt8)} {bf bn : Nat} (h : AppV w4 wr c M bf bn) :
    AppL w4 ((wr.alloc (.cells #[.slice none 0 0] 27)).alloc (.cells #[.slice none 0 0] 27)) c M ps bf bn wr.heap.size (wr.heap.size + 1) 0 0 (.slice none 0 0) (.slice none 0 0) :=
  ⟨⟨(h.f.alloc _).alloc _, (h.n.alloc _).alloc _, (h.bel.alloc h.bel.size _).alloc (by have := h.bel.size; simp; omega) _, h.lf, h.ln⟩, (Blk.new _ _ _).alloc _, by simpa using Blk.new (wr.alloc (.cells #[.slice none 0 0] 27)) 27 #[.slice none 0 0],
    World.ownsRow_nil _ _ _ _, World.ownsRow_nil _ _ _ _, fun k hk => by simp [Value.ownBlock] at hk, h.bel.size, Nat.le_succ_of_le h.bel.size, by omega⟩

theorem Blk.grown {w w' : World} {g : Nat} {t : TypeId} {cs : Array Value} {row : Option Nat} (h : Blk w g t cs) (hb : w.grownBy w' row) (hg : row ≠ some g) : Blk w' g t cs := (hb.block g h.lt (fun e => hg e.symm)).trans h
section
variable {w4 wr w' w8 : World} {c M : Nat} {ps : List (List UInt8)} {bf bn bE bF kE kF : Nat} {vE vF : Value}
theorem AppL.below (h : AppL w4 wr c M ps bf bn bE bF kE kF vE vF) (hb : Below wr.heap.size wr w') : AppL w4 w' c M ps bf bn bE bF kE kF vE vF := by
  have t : Touch (fun _ => False) wr w' := Touch.of_new hb
  exact ⟨⟨t.blk h.v.f id, t.blk h.v.n id, bthen h.v.bel h.v.bel.size hb, h.v.lf, h.v.ln⟩, t.blk h.e id, t.blk h.g id, t.own h.re fun _ _ => id, t.own h.rg fun _ _ => id, h.ap, h.le_, h.lg, h.ne⟩
theorem AppL.pushE (h : AppL w4 wr c M ps bf bn bE bF kE kF vE vF) (o : Obj) {g cap : Nat} (hg : (wr.alloc o).grownBy w8 vE.ownBlock) (ho : w8.ownsRow w4.heap.size 9 1 (.slice (some ⟨g, 0, none⟩) (kE + 1) cap) (kE + 1) (strL (List.replicate kE Jr.zeros) ++ [.string (Dk.str Jr.zeros)]))
    (hat : vE.ownBlock = some g ∨ g = wr.heap.size + 1) : AppL w4 (w8.setCell ⟨bE, 0, none⟩ (.slice (some ⟨g, 0, none⟩) (kE + 1) cap)) c M ps bf bn bE bF (kE + 1) kF (.slice (some ⟨g, 0, none⟩) (kE + 1) cap) vF := by
  have hap : vF.ownBlock ≠ some g := by
    rcases hat with e | e
    · exact h.ap g e
    · intro e2
      have := (h.rg.lt g e2).2
      omega
  have n1 := own_blk_ne h.re h.e (by decide)
  have n2 := own_blk_ne h.re h.g (by decide)
  have n3 := own_blk_ne h.re h.v.f (by decide)
  have n4 := own_blk_ne h.re h.v.n (by decide)
  have hE := ((h.e.alloc o).grown hg n1).set_ 0 (.slice (some ⟨g, 0, none⟩) (kE + 1) cap)
  have hbs := h.v.bel.size
  have eE := (h.e.alloc o).grown hg n1
  refine ⟨⟨Blk.far ((h.v.f.alloc o).grown hg n3) (fun e => ?_) _, Blk.far ((h.v.n.alloc o).grown hg n4) (fun e => ?_) _, ?_, h.v.lf, h.v.ln⟩, by simpa using hE, Blk.far ((h.g.alloc o).grown hg n2) (fun e => h.ne e.symm) _, ?_, ?_, ?_, h.le_, h.lg, h.ne⟩
  · exact Blk.ne_ h.v.f h.e (by decide) e
  · exact Blk.ne_ h.v.n h.e (by decide) e
  · exact ((h.v.bel.alloc hbs o).grown hg (by simp; omega) (fun j hj => (h.re.lt j hj).1)).setCell h.le_ _
  · rw [List.replicate_succ', strL_append]
    exact ownsRow_setCell_other ho (own_blk_ne ho eE (by decide)) _
  · exact ownsRow_setCell_other ((h.rg.alloc o).kept hg (by
      rcases h : vF.ownBlock with _ | k
      · exact .inl rfl
      · refine .inr fun e => ?_
        exact absurd h (AppL.ap ‹_› k e.symm))) (own_blk_ne h.rg h.e (by decide)) _
  · intro k hk
    have : k = g := by simpa [Value.ownBlock] using hk.symm
    subst this
    exact hap
theorem AppL.pushF (h : AppL w4 wr c M ps bf bn bE bF kE kF vE vF) (o : Obj) {g cap : Nat} {x : List UInt8} (hx : (Jr.full (2 + c) ps)[kF]? = some x) (hg : (wr.alloc o).grownBy w8 vF.ownBlock) (ho : w8.ownsRow w4.heap.size 9 1 (.slice (some ⟨g, 0, none⟩) (kF + 1) cap) (kF + 1) (strL ((Jr.full (2 + c) ps).take kF) ++ [.string (Dk.str x)]))
    (hat : vF.ownBlock = some g ∨ g = wr.heap.size + 1) : AppL w4 (w8.setCell ⟨bF, 0, none⟩ (.slice (some ⟨g, 0, none⟩) (kF + 1) cap)) c M ps bf bn bE bF kE (kF + 1) vE (.slice (some ⟨g, 0, none⟩) (kF + 1) cap) := by
  have hap : vE.ownBlock ≠ some g := by
    rcases hat with e | e
    · exact fun e2 => h.ap g e2 e
    · intro e2
      have := (h.re.lt g e2).2
      omega
  have n1 := own_blk_ne h.rg h.e (by decide)
  have n2 := own_blk_ne h.rg h.g (by decide)
  have n3 := own_blk_ne h.rg h.v.f (by decide)
  have n4 := own_blk_ne h.rg h.v.n (by decide)
  have hF := ((h.g.alloc o).grown hg n2).set_ 0 (.slice (some ⟨g, 0, none⟩) (kF + 1) cap)
  have hbs := h.v.bel.size
  have eF := (h.g.alloc o).grown hg n2
  refine ⟨⟨Blk.far ((h.v.f.alloc o).grown hg n3) (fun e => ?_) _, Blk.far ((h.v.n.alloc o).grown hg n4) (fun e => ?_) _, ?_, h.v.lf, h.v.ln⟩, Blk.far ((h.e.alloc o).grown hg n1) h.ne _, by simpa using hF, ?_, ?_, ?_, h.le_, h.lg, h.ne⟩
  · exact Blk.ne_ h.v.f h.g (by decide) e
  · exact Blk.ne_ h.v.n h.g (by decide) e
  · exact ((h.v.bel.alloc hbs o).grown hg (by simp; omega) (fun j hj => (h.rg.lt j hj).1)).setCell h.lg _
  · exact ownsRow_setCell_other ((h.re.alloc o).kept hg (by
      rcases h : vE.ownBlock with _ | k
      · exact .inl rfl
      · refine .inr fun e => ?_
        exact AppL.ap ‹_› k h e.symm)) (own_blk_ne h.re h.g (by decide)) _
  · rw [List.take_add_one, hx]
    rw [show (some x).toList = [x] from rfl, strL_append]
    exact ownsRow_setCell_other ho (own_blk_ne ho eF (by decide)) _
  · intro k hk e
    have : g = k := by simpa [Value.ownBlock] using e
    subst this
    exact hap hk
end


namespace Jr
/-- Jobs one after the other, until one fails. -/
def jobs (D : Dk) : List (Nat × List (List UInt8)) → Dk × Int
  | [] => (D, 0)
  | j :: r => if (wr D j.1 j.2).2 = 0 then jobs (wr D j.1 j.2).1 r else wr D j.1 j.2
def todo (J : Jn) (ps : List (List UInt8)) : List (Nat × List (List UInt8)) :=
  [(2 + J.c, List.replicate ps.length zeros), (2 + J.c, full (2 + J.c) ps), (1, [head 1 (J.c + ps.length)]), (0, [head 0 (J.c + ps.length)])]
theorem steps_jobs (D : Dk) (J : Jn) (ps : List (List UInt8)) : steps D J ps = jobs D (todo J ps) := by
  have e : ps.map (fun _ => zeros) = List.replicate ps.length zeros := by rw [List.map_const']
  unfold steps todo
  simp only [jobs, e, ne_eq]
  split
  · rename_i h; first | rfl | rw [if_neg h]
  · rename_i h
    rw [Decidable.not_not] at h
    rw [if_pos h]
    split
    · rename_i h2; first | rfl | rw [if_neg h2]
    · rename_i h2
      rw [Decidable.not_not] at h2
      rw [if_pos h2]
      split
      · rename_i h3; first | rfl | rw [if_neg h3]
      · rename_i h3
        rw [Decidable.not_not] at h3
        rw [if_pos h3]
        split
        · rename_i h4; exact Prod.ext rfl h4
        · rfl
theorem wr_q (xs : List (List UInt8)) : ∀ (D : Dk) (p : Nat), (wr D p xs).1.q.length ≤ D.q.length + xs.length := by
  induction xs with
  | nil => intro D p; have := Dk.sync_q D; simpa [wr] using this
  | cons x xs ih =>
    intro D p
    have h1 := Dk.write_q D p (Dk.str x)
    by_cases h : (D.write p (Dk.str x)).2 = 0
    · rw [wr_go h]
      have := ih (D.write p (Dk.str x)).1 (p + 1)
      rw [List.length_cons]; omega
    · rw [wr_stop h, List.length_cons]; omega
theorem wr_n (xs : List (List UInt8)) : ∀ (D : Dk) (p : Nat), (wr D p xs).1.st.length = D.st.length := by
  induction xs with
  | nil => intro D p; exact Dk.sync_n D
  | cons x xs ih =>
    intro D p
    have h1 := Dk.write_n D p (Dk.str x)
    by_cases h : (D.write p (Dk.str x)).2 = 0
    · rw [wr_go h, ih, h1]
    · rw [wr_stop h, h1]
theorem jobs_stop {D : Dk} {j : Nat × List (List UInt8)} {r : List (Nat × List (List UInt8))} (h : (wr D j.1 j.2).2 ≠ 0) : jobs D (j :: r) = wr D j.1 j.2 := by
  simp only [jobs]; rw [if_neg h]
theorem jobs_go {D : Dk} {j : Nat × List (List UInt8)} {r : List (Nat × List (List UInt8))} (h : (wr D j.1 j.2).2 = 0) : jobs D (j :: r) = jobs (wr D j.1 j.2).1 r := by
  simp only [jobs]; rw [if_pos h]
theorem full_length (p : Nat) (ps : List (List UInt8)) : (full p ps).length = ps.length := by simp [full]
end Jr
/-- Between two steps of Append: the disk E, apart from the blocks of G, which are as they were. -/
def Stp (S G : Nat → Prop) (w wL : World) (db : Nat) (D : Dk) (js : List (Nat × List (List UInt8))) (q : Nat) (k : Nat) (E : Dk) (wr : World) : Prop :=
  (∃ T, DiskAt wr T db E ∧ ∀ i, T i → (S i ∨ w.heap.size ≤ i) ∧ i < wr.heap.size ∧ ¬ G i) ∧ (∀ g, G g → wr.heap[g]? = wL.heap[g]?) ∧ Touch S w wr ∧ wL.heap.size ≤ wr.heap.size ∧ Jr.jobs D js = Jr.jobs E (js.drop k) ∧ E.q.length ≤ D.q.length + k * q
theorem own_low {w : World} {base base' n : Nat} {e : TypeId} {size : Nat} {v : Value} {xs : List Value} (ho : w.ownsRow base e size v n xs) (hb : base' ≤ base) : w.ownsRow base' e size v n xs := by
  refine ⟨ho.1, ?_⟩
  rcases ho.2 with h2 | ⟨g, cap, cur, hv, hg, r⟩
  · exact Or.inl h2
  · exact Or.inr ⟨g, cap, cur, hv, by omega, r⟩
theorem own_of_block {w w' : World} {base n : Nat} {e : TypeId} {size : Nat} {v : Value} {xs : List Value} (ho : w.ownsRow base e size v n xs) (h : ∀ k, v.ownBlock = some k → w'.heap[k]? = w.heap[k]?) : w'.ownsRow base e size v n xs := by
  refine ⟨ho.1, ?_⟩
  rcases ho.2 with h2 | ⟨g, cap, cur, hv, hg, hh, r⟩
  · exact Or.inl h2
  · refine Or.inr ⟨g, cap, cur, hv, hg, ?_, r⟩
    rw [h g (by rw [hv]; rfl)]; exact hh
theorem Strs.of_block {w w' : World} {A : Option Addr} {xs : List (List UInt8)} (h : Strs w A xs) (hs : w.heap.size ≤ w'.heap.size) (hb : ∀ b o, A = some ⟨b, o, none⟩ → w'.heap[b]? = w.heap[b]?) : Strs w' A xs :=
  ⟨h.len, fun h0 => by
    obtain ⟨b, o, rfl, hlt, hc⟩ := h.at_ h0
    exact ⟨b, o, rfl, Nat.lt_of_lt_of_le hlt hs, fun k hk => by rw [World.cell?_of_block (hb b o rfl)]; exact hc k hk⟩⟩
/-- One step is done, and its error is laid down. -/
structure Nxt (S G : Nat → Prop) (w wL : World) (db be : Nat) (E : Dk) (x : Int) (w6 : World) : Prop where
  disk : ∃ T, DiskAt w6 T db E ∧ ∀ i, T i → (S i ∨ w.heap.size ≤ i) ∧ i < w6.heap.size ∧ ¬ G i
  same : ∀ g, G g → g ≠ be → w6.heap[g]? = wL.heap[g]?
  err : Blk w6 be 33 #[.int .i64 x]
  touch : Touch S w w6
  size : wL.heap.size ≤ w6.heap.size
theorem Nxt.of {S G T : Nat → Prop} {w wL wr w5 : World} {db be : Nat} {E : Dk} (x : Int) (hT : ∀ i, T i → (S i ∨ w.heap.size ≤ i) ∧ i < wr.heap.size ∧ ¬ G i) (hg : ∀ g, G g → wr.heap[g]? = wL.heap[g]?) (hG : ∀ g, G g → g < wL.heap.size)
    (hz : wL.heap.size ≤ wr.heap.size) (ht : Touch S w wr) (hd5 : DiskAt w5 (Plus T wr w5) db E) (ht5 : Touch T wr w5) (hbe : G be) (hbB : Blk wL be 33 #[.int .i64 0]) (hbn : w.heap.size ≤ be) :
    Blk w5 be 33 #[.int .i64 0] ∧ Nxt S G w wL db be E x (w5.setCell ⟨be, 0, none⟩ (.int .i64 x)) := by
  have hGz : ∀ g, G g → w5.heap[g]? = wL.heap[g]? := fun g h => (ht5.block g (Nat.lt_of_lt_of_le (hG g h) hz) (fun hh => (hT g hh).2.2 h)).trans (hg g h)
  have hb5 : Blk w5 be 33 #[.int .i64 0] := (hGz be hbe).trans hbB
  have hwz := ht.size
  have t5 : Touch S w w5 := ht.trans ht5 fun i hi h => (hT i h).1.elim id fun h2 => by omega
  refine ⟨hb5, ⟨⟨Plus T wr w5, hd5.touch (T := fun k => k = be) (Touch.setCell (S := fun k => k = be) (p := ⟨be, 0, none⟩) (Touch.refl _ w5) (.inr rfl) _) ?_, ?_⟩, fun g h hn => (Below.heap_setCell w5 ⟨be, 0, none⟩ _ g hn).trans (hGz g h), by simpa using hb5.set_ 0 (.int .i64 x), t5.setCell (.inl hbn) _, ?_⟩⟩
  · rintro k hk rfl
    rcases hk with hk | hk
    · exact (hT _ hk).2.2 hbe
    · have := hG _ hbe; omega
  · intro i hi
    have hs := ht5.size
    rcases hi with hi | hi
    · exact ⟨(hT i hi).1, by have := (hT i hi).2.1; simp [World.setCell]; omega, (hT i hi).2.2⟩
    · exact ⟨.inr (by omega), by have := hi.2; simpa [World.setCell] using this, fun h => by have := hG i h; omega⟩
  · have := ht5.size
    simp [World.setCell]; omega
theorem Nxt.again {S G : Nat → Prop} {w wL w6 : World} {db be : Nat} {E : Dk} {x : Int} (h : Nxt S G w wL db be E x w6) : Nxt S G w wL db be E x (w6.setCell ⟨be, 0, none⟩ (.int .i64 x)) := by
  have e : ∀ k, (w6.setCell ⟨be, 0, none⟩ (.int .i64 x)).heap[k]? = w6.heap[k]? := fun k => by
    by_cases hk : k = be
    · subst hk
      have := h.err.set_ 0 (.int .i64 x)
      rw [show (w6.setCell ⟨k, 0, none⟩ (.int .i64 x)).heap[k]? = _ from this, show w6.heap[k]? = _ from h.err]
      simp
    · exact Below.heap_setCell w6 ⟨be, 0, none⟩ _ k hk
  obtain ⟨T, hd, hT⟩ := h.disk
  have t : Touch (fun _ => False) w6 (w6.setCell ⟨be, 0, none⟩ (.int .i64 x)) := ⟨rfl, rfl, rfl, by simp [World.setCell], fun k _ _ => e k⟩
  exact ⟨⟨T, hd.touch t fun _ _ => id, fun i hi => ⟨(hT i hi).1, by have := (hT i hi).2.1; simpa [World.setCell] using this, (hT i hi).2.2⟩⟩, fun g hg hn => (e g).trans (h.same g hg hn), t.blk h.err id, h.touch.trans t fun _ _ h => h.elim, Nat.le_trans h.size t.size⟩
theorem Nxt.stp {S G : Nat → Prop} {w wL w6 : World} {db be : Nat} {D E : Dk} {js : List (Nat × List (List UInt8))} {q k : Nat} (h : Nxt S G w wL db be E 0 w6) (hbB : Blk wL be 33 #[.int .i64 0]) (hj : Jr.jobs D js = Jr.jobs E (js.drop k)) (hq : E.q.length ≤ D.q.length + k * q) : Stp S G w wL db D js q k E w6 := by
  refine ⟨h.disk, fun g hg => ?_, h.touch, h.size, hj, hq⟩
  by_cases e : g = be
  · subst e; exact (show w6.heap[g]? = _ from h.err).trans (show wL.heap[g]? = _ from hbB).symm
  · exact h.same g hg e
/-- What Append leaves. -/
def AppPost (S : Nat → Prop) (w : World) (jb db : Nat) (v : Value) (r : Dk × Jn × Int) (e : Ending) (w' : World) : Prop :=
  e = .returned (.int .i64 r.2.2) ∧ ((jnT jb db r.2.1).star (diskT db r.1)).at_ w' (Plus (fun k => S k ∨ k = jb ∨ v.ownBlock = some k) w w') ∧ Touch (fun k => S k ∨ k = jb ∨ v.ownBlock = some k) w w'
/-- All is gathered up. -/
theorem app_done {S T : Nat → Prop} {w w7 : World} {jb db : Nat} {v v' : Value} {D' : Dk} {J' : Jn} (r : Int) (hd : DiskAt w7 T db D') (hT : ∀ i, T i → (S i ∨ w.heap.size ≤ i) ∧ i < w7.heap.size ∧ i ≠ jb ∧ v'.ownBlock ≠ some i)
    (hj : Blk w7 jb 50 #[.pointer (some ⟨db, 0, none⟩), .int .i64 (J'.n : Int), .int .i64 (J'.c : Int), v', .bool J'.br]) (hrow : w7.ownsRow 0 9 1 v' J'.recs.length (strL J'.recs))
    (hv : ∀ k, v'.ownBlock = some k → v.ownBlock = some k ∨ w.heap.size ≤ k) (ht : Touch (fun k => S k ∨ k = jb ∨ v.ownBlock = some k) w w7) : AppPost S w jb db v (D', J', r) (.returned (.int .i64 r)) w7 := by
  refine ⟨rfl, ⟨fun k => k = jb ∨ v'.ownBlock = some k, T, ⟨v', fun k => k = jb, fun k => v'.ownBlock = some k, ⟨hj, rfl⟩, ⟨hrow, fun k hk => hk⟩, ?_, fun k hk => .inl hk, fun k hk => .inr hk⟩, hd, ?_, ?_, ?_⟩, ht⟩
  · rintro k rfl h
    exact own_blk_ne hrow hj (by decide) h
  · rintro k hk h
    rcases hk with hk | hk
    · exact (hT k h).2.2.1 hk
    · exact (hT k h).2.2.2 hk
  · intro k hk
    rcases hk with hk | hk
    · exact .inl (.inr (.inl hk))
    · rcases hv k hk with h | h
      · exact .inl (.inr (.inr h))
      · exact .inr ⟨h, (hrow.lt k hk).2⟩
  · intro k hk
    rcases (hT k hk).1 with h | h
    · exact .inl (.inl h)
    · exact .inr ⟨h, (hT k hk).2.1⟩

def appFns (b0 bf bn bE : Nat) : Array Value :=
  #[.func (.func 43) #[] #[.pointer (some ⟨b0, 0, none⟩), .pointer (some ⟨bf, 0, none⟩), .pointer (some ⟨bE, 0, none⟩)],
    .func (.func 44) #[] #[.pointer (some ⟨b0, 0, none⟩), .pointer (some ⟨bf, 0, none⟩), .pointer (some ⟨bE + 1, 0, none⟩)],
    .func (.func 45) #[] #[.pointer (some ⟨b0, 0, none⟩), .pointer (some ⟨bn, 0, none⟩)],
    .func (.func 46) #[] #[.pointer (some ⟨b0, 0, none⟩), .pointer (some ⟨bn, 0, none⟩)]]
/-- Append's own blocks, the journal's, and the list's. -/
def AppG (w : World) (jb bf bn bE bG : Nat) (vE vF v : Value) (A : Option Addr) (k : Nat) : Prop :=
  k = jb ∨ k = w.heap.size ∨ k = w.heap.size + 1 ∨ k = bf ∨ k = bn ∨ k = bE ∨ k = bE + 1 ∨ k = bG ∨ vE.ownBlock = some k ∨ vF.ownBlock = some k ∨ v.ownBlock = some k ∨ ∃ o, A = some ⟨k, o, none⟩
structure AppW (w wr : World) (jb db : Nat) (J : Jn) (v : Value) (k : Nat) (ps xs : List (List UInt8)) (bf bn bE bG : Nat) (vE vF : Value) (A : Option Addr) : Prop where
  job : Blk wr jb 50 #[.pointer (some ⟨db, 0, none⟩), .int .i64 (J.n : Int), .int .i64 (J.c : Int), v, .bool J.br]
  ptr : Blk wr w.heap.size 26 #[.pointer (some ⟨jb, 0, none⟩)]
  f : Blk wr bf 3 #[.int .i64 ((2 + J.c : Nat) : Int)]
  n : Blk wr bn 3 #[.int .i64 ((J.c + k : Nat) : Int)]
  e : Blk wr bE 27 #[vE]
  g : Blk wr (bE + 1) 27 #[vF]
  fn : Blk wr bG 83 (appFns w.heap.size bf bn bE)
  re : wr.ownsRow w.heap.size 9 1 vE k (strL (List.replicate k Jr.zeros))
  rg : wr.ownsRow w.heap.size 9 1 vF k (strL (Jr.full (2 + J.c) ps))
  rv : wr.ownsRow 0 9 1 v J.recs.length (strL J.recs)
  list : Strs wr A xs
  lb : ∀ b o, A = some ⟨b, o, none⟩ → b < w.heap.size
theorem AppW.move {w wL wr : World} {jb db : Nat} {J : Jn} {v : Value} {k : Nat} {ps xs : List (List UInt8)} {bf bn bE bG : Nat} {vE vF : Value} {A : Option Addr} {x : Int} (h : AppW w wL jb db J v k ps xs bf bn bE bG vE vF A)
    (he : Blk wL (w.heap.size + 1) 33 #[.int .i64 x]) (hg : ∀ g, AppG w jb bf bn bE bG vE vF v A g → g ≠ w.heap.size + 1 → wr.heap[g]? = wL.heap[g]?) (hz : wL.heap.size ≤ wr.heap.size) : AppW w wr jb db J v k ps xs bf bn bE bG vE vF A := by
  refine ⟨(hg jb ?_ (h.job.ne_ he (by decide))).trans h.job, (hg _ ?_ (h.ptr.ne_ he (by decide))).trans h.ptr, (hg bf ?_ (h.f.ne_ he (by decide))).trans h.f, (hg bn ?_ (h.n.ne_ he (by decide))).trans h.n, (hg bE ?_ (h.e.ne_ he (by decide))).trans h.e,
    (hg (bE + 1) ?_ (h.g.ne_ he (by decide))).trans h.g, (hg bG ?_ (h.fn.ne_ he (by decide))).trans h.fn,
    own_of_block h.re fun i hi => hg i ?_ (fun e => own_blk_ne h.re he (by decide) (e ▸ hi)), own_of_block h.rg fun i hi => hg i ?_ (fun e => own_blk_ne h.rg he (by decide) (e ▸ hi)), own_of_block h.rv fun i hi => hg i ?_ (fun e => own_blk_ne h.rv he (by decide) (e ▸ hi)),
    h.list.of_block hz fun b o e => hg b ?_ (by have := h.lb b o e; omega), h.lb⟩
  all_goals unfold AppG
  · exact .inl rfl
  · exact .inr (.inl rfl)
  · exact .inr (.inr (.inr (.inl rfl)))
  · exact .inr (.inr (.inr (.inr (.inl rfl))))
  · exact .inr (.inr (.inr (.inr (.inr (.inl rfl)))))
  · exact .inr (.inr (.inr (.inr (.inr (.inr (.inl rfl))))))
  · exact .inr (.inr (.inr (.inr (.inr (.inr (.inr (.inl rfl)))))))
  · exact .inr (.inr (.inr (.inr (.inr (.inr (.inr (.inr (.inl hi))))))))
  · exact .inr (.inr (.inr (.inr (.inr (.inr (.inr (.inr (.inr (.inl hi)))))))))
  · exact .inr (.inr (.inr (.inr (.inr (.inr (.inr (.inr (.inr (.inr (.inl hi))))))))))
  · exact .inr (.inr (.inr (.inr (.inr (.inr (.inr (.inr (.inr (.inr (.inr ⟨o, e⟩))))))))))
theorem AppG.lt {w wL : World} {jb db : Nat} {J : Jn} {v : Value} {k : Nat} {ps xs : List (List UInt8)} {bf bn bE bG : Nat} {vE vF : Value} {A : Option Addr} (h : AppW w wL jb db J v k ps xs bf bn bE bG vE vF A) (hz : w.heap.size + 1 < wL.heap.size) (hx : 0 < xs.length)
    {g : Nat} (hg : AppG w jb bf bn bE bG vE vF v A g) : g < wL.heap.size := by
  rcases hg with rfl | rfl | rfl | rfl | rfl | rfl | rfl | rfl | hg | hg | hg | ⟨o, hg⟩
  · exact h.job.lt
  · exact h.ptr.lt
  · exact hz
  · exact h.f.lt
  · exact h.n.lt
  · exact h.e.lt
  · exact h.g.lt
  · exact h.fn.lt
  · exact (h.re.lt g hg).2
  · exact (h.rg.lt g hg).2
  · exact (h.rv.lt g hg).2
  · obtain ⟨b, o', e, hb, _⟩ := h.list.at_ hx
    rw [hg] at e
    injection e with e
    injection e with e1
    rw [e1]; exact hb
/-- Where the steps begin. -/
theorem AppW.of {S : Nat → Prop} {w w4 wr : World} {jb db : Nat} {D : Dk} {J : Jn} {v : Value} {k : Nat} {ps xs : List (List UInt8)} {bf bn bE : Nat} {vE vF : Value} {A : Option Addr}
    (hb4 : Below w.heap.size w w4) (hz : w.heap.size + 2 ≤ w4.heap.size) (hp4 : Blk w4 w.heap.size 26 #[.pointer (some ⟨jb, 0, none⟩)]) (he4 : Blk w4 (w.heap.size + 1) 33 #[.int .i64 0])
    (hr : AppL w4 wr J.c k ps bf bn bE (bE + 1) k k vE vF) (hk : ps.length = k) (h : AppPre w jb db J v A xs) (hD : DiskAt w S db D) (hS : ∀ k, S k → nG ≤ k ∧ k < w.heap.size ∧ k ≠ jb ∧ v.ownBlock ≠ some k) (hrow : w.ownsRow 0 9 1 v J.recs.length (strL J.recs))
    (hA : ∀ b o, A = some ⟨b, o, none⟩ → ¬ S b ∧ b ≠ jb ∧ v.ownBlock ≠ some b) (h0 : 0 < xs.length) (q : Nat) :
    AppW w (wr.alloc (.cells (appFns w.heap.size bf bn bE) 83)) jb db J v k ps xs bf bn bE wr.heap.size vE vF A ∧
    Blk (wr.alloc (.cells (appFns w.heap.size bf bn bE) 83)) (w.heap.size + 1) 33 #[.int .i64 0] ∧ w.heap.size + 1 < (wr.alloc (.cells (appFns w.heap.size bf bn bE) 83)).heap.size ∧
    Stp S (AppG w jb bf bn bE wr.heap.size vE vF v A) w (wr.alloc (.cells (appFns w.heap.size bf bn bE) 83)) db D (Jr.todo J ps) q 0 D (wr.alloc (.cells (appFns w.heap.size bf bn bE) 83)) := by
  have hzr := hr.v.bel.size
  have b2 : Below w.heap.size w (wr.alloc (.cells (appFns w.heap.size bf bn bE) 83)) := (bthen hb4 hb4.size hr.v.bel).alloc (by omega) _
  have t2 : Touch (fun _ => False) w (wr.alloc (.cells (appFns w.heap.size bf bn bE) 83)) := Touch.of_new b2
  have t4 : Touch (fun _ => False) w4 (wr.alloc (.cells (appFns w.heap.size bf bn bE) 83)) := Touch.of_new (hr.v.bel.alloc hzr _)
  have hrg := hr.rg
  rw [List.take_of_length_le (by rw [Jr.full_length]; omega)] at hrg
  have hw : AppW w (wr.alloc (.cells (appFns w.heap.size bf bn bE) 83)) jb db J v k ps xs bf bn bE wr.heap.size vE vF A :=
    ⟨t2.blk h.job id, t4.blk hp4 id, hr.v.f.alloc _, hr.v.n.alloc _, hr.e.alloc _, hr.g.alloc _, Blk.new _ _ _, own_low (hr.re.alloc _) (by omega), own_low (World.ownsRow.alloc hrg _) (by omega), t2.own hrow fun _ _ => id, h.list.new b2, fun b o e => by
      obtain ⟨b', o', e', hl, _⟩ := h.list.at_ h0
      rw [e] at e'
      injection e' with e'
      injection e' with e1
      rw [e1]; exact hl⟩
  refine ⟨hw, t4.blk he4 id, by simp; omega, ⟨S, hD.below b2, fun i hi => ⟨.inl hi, ?_, ?_⟩⟩, fun _ _ => rfl, Touch.of_new b2, Nat.le_refl _, by simp, by omega⟩
  · have := (hS i hi).2.1; simp; omega
  · have hlt := (hS i hi).2.1
    have l1 := hr.v.lf
    have l2 := hr.v.ln
    have l3 := hr.le_
    rintro (rfl | rfl | rfl | rfl | rfl | rfl | rfl | rfl | hg | hg | hg | ⟨o, hg⟩)
    · exact (hS _ hi).2.2.1 rfl
    · omega
    · omega
    · omega
    · omega
    · omega
    · omega
    · omega
    · have := (hr.re.lt i hg).1; omega
    · have := (hr.rg.lt i hg).1; omega
    · exact (hS _ hi).2.2.2 hg
    · exact (hA i o hg).1 hi
/-- The first seven: of Append's blocks. -/
theorem AppG.jb {w : World} {jb bf bn bE bG : Nat} {vE vF v : Value} {A : Option Addr} : AppG w jb bf bn bE bG vE vF v A jb := .inl rfl
theorem AppG.err {w : World} {jb bf bn bE bG : Nat} {vE vF v : Value} {A : Option Addr} : AppG w jb bf bn bE bG vE vF v A (w.heap.size + 1) := .inr (.inr (.inl rfl))
theorem AppG.re {w : World} {jb bf bn bE bG : Nat} {vE vF v : Value} {A : Option Addr} {k : Nat} (h : vE.ownBlock = some k) : AppG w jb bf bn bE bG vE vF v A k := .inr (.inr (.inr (.inr (.inr (.inr (.inr (.inr (.inl h))))))))
theorem AppG.rg {w : World} {jb bf bn bE bG : Nat} {vE vF v : Value} {A : Option Addr} {k : Nat} (h : vF.ownBlock = some k) : AppG w jb bf bn bE bG vE vF v A k := .inr (.inr (.inr (.inr (.inr (.inr (.inr (.inr (.inr (.inl h)))))))))
theorem AppG.rv {w : World} {jb bf bn bE bG : Nat} {vE vF v : Value} {A : Option Addr} {k : Nat} (h : v.ownBlock = some k) : AppG w jb bf bn bE bG vE vF v A k := .inr (.inr (.inr (.inr (.inr (.inr (.inr (.inr (.inr (.inr (.inl h))))))))))
/-- A step has failed: the journal is broken. -/
theorem app_fail {S : Nat → Prop} {w wL w6 : World} {jb db : Nat} {J : Jn} {v : Value} {k : Nat} {ps xs : List (List UInt8)} {bf bn bE bG : Nat} {vE vF : Value} {A : Option Addr} {x y : Int} {E : Dk} (h : AppW w wL jb db J v k ps xs bf bn bE bG vE vF A)
    (he : Blk wL (w.heap.size + 1) 33 #[.int .i64 y]) (hn : Nxt S (AppG w jb bf bn bE bG vE vF v A) w wL db (w.heap.size + 1) E x w6) (hx : x ≠ 0) :
    AppPost S w jb db v (E, { J with br := true }, x) (.returned (.int .i64 x)) (w6.setCell ⟨jb, 4, none⟩ (.bool (x != 0))) := by
  have hw := h.move he hn.same hn.size
  obtain ⟨T, hd, hT⟩ := hn.disk
  have t6 : Touch (fun k => k = jb) w6 (w6.setCell ⟨jb, 4, none⟩ (.bool (x != 0))) := Touch.setCell (S := fun k => k = jb) (p := ⟨jb, 4, none⟩) (Touch.refl _ w6) (.inr rfl) _
  have hb : (x != 0) = true := by simpa using hx
  refine app_done x (hd.touch t6 fun i hi e => (hT i hi).2.2 (e ▸ AppG.jb)) (fun i hi => ⟨(hT i hi).1, by have := (hT i hi).2.1; simpa [World.setCell] using this, fun e => (hT i hi).2.2 (e ▸ AppG.jb), fun e => (hT i hi).2.2 (AppG.rv e)⟩) ?_ (t6.own hw.rv fun i hi e => own_blk_ne hw.rv hw.job (by decide) (e ▸ hi)) (fun k hk => .inl hk) ?_
  · rw [hb]; exact hw.job.set_ 4 (.bool true)
  · exact (hn.touch.mono fun i _ h => .inl h).trans t6 fun i _ e => .inr (.inl e)
/-- All steps are done. -/
theorem app_ok {S T : Nat → Prop} {w w6 w9 : World} {jb db c g cap : Nat} {J : Jn} {v : Value} {xs : List (List UInt8)} {E : Dk} (hd : DiskAt w6 T db E) (hT : ∀ i, T i → (S i ∨ w.heap.size ≤ i) ∧ i < w6.heap.size ∧ i ≠ jb ∧ i ≠ w.heap.size + 1 ∧ v.ownBlock ≠ some i)
    (ht : Touch (fun k => S k ∨ k = jb) w w6) (hj : Blk w6 jb 50 #[.pointer (some ⟨db, 0, none⟩), .int .i64 (J.n : Int), .int .i64 (c : Int), v, .bool J.br]) (hjl : jb < w.heap.size) (hv : w6.ownsRow 0 9 1 v J.recs.length (strL J.recs)) (he : Blk w6 (w.heap.size + 1) 33 #[.int .i64 0])
    (hg : w6.grownBy w9 v.ownBlock) (ho : w9.ownsRow 0 9 1 (.slice (some ⟨g, 0, none⟩) (J.recs.length + xs.length) cap) (J.recs.length + xs.length) (strL J.recs ++ strL xs)) (hat : v.ownBlock = some g ∨ g = w6.heap.size) (hs : w.heap.size ≤ w6.heap.size) :
    AppPost S w jb db v (E, { n := J.n, c := c, recs := J.recs ++ xs, br := false }, 0) (.returned (.int .i64 0)) (((w9.setCell ⟨jb, 3, none⟩ (.slice (some ⟨g, 0, none⟩) (J.recs.length + xs.length) cap)).setCell ⟨w.heap.size + 1, 0, none⟩ (.int .i64 0)).setCell ⟨jb, 4, none⟩ (.bool false)) := by
  have n1 := own_blk_ne hv hj (by decide)
  have n2 := own_blk_ne hv he (by decide)
  have n3 : jb ≠ w.heap.size + 1 := by omega
  have hj9 := hj.grown hg n1
  have hz9 := hg.size
  have t1 : Touch (fun k => v.ownBlock = some k) w6 w9 := (Touch.refl _ w6).grown hg fun k hk => .inr hk
  have t2 : Touch (fun k => v.ownBlock = some k ∨ k = jb ∨ k = w.heap.size + 1) w6 (((w9.setCell ⟨jb, 3, none⟩ (.slice (some ⟨g, 0, none⟩) (J.recs.length + xs.length) cap)).setCell ⟨w.heap.size + 1, 0, none⟩ (.int .i64 0)).setCell ⟨jb, 4, none⟩ (.bool false)) :=
    (((t1.mono (T := fun k => v.ownBlock = some k ∨ k = jb ∨ k = w.heap.size + 1) fun i _ h => .inl h).setCell (p := ⟨jb, 3, none⟩) (.inr (.inr (.inl rfl))) _).setCell (p := ⟨w.heap.size + 1, 0, none⟩) (.inr (.inr (.inr rfl))) _).setCell (p := ⟨jb, 4, none⟩) (.inr (.inr (.inl rfl))) _
  have hsz : (((w9.setCell ⟨jb, 3, none⟩ (.slice (some ⟨g, 0, none⟩) (J.recs.length + xs.length) cap)).setCell ⟨w.heap.size + 1, 0, none⟩ (.int .i64 0)).setCell ⟨jb, 4, none⟩ (.bool false)).heap.size = w9.heap.size := by simp [World.setCell]
  have hel := he.lt
  refine app_done (v' := .slice (some ⟨g, 0, none⟩) (J.recs.length + xs.length) cap) 0 (hd.touch t2 fun i hi e => ?_) (fun i hi => ⟨(hT i hi).1, by rw [hsz]; have := (hT i hi).2.1; omega, (hT i hi).2.2.1, fun e => ?_⟩) ?_ ?_ (fun k hk => ?_) ?_
  · rcases e with e | e | e
    · exact (hT i hi).2.2.2.2 e
    · exact (hT i hi).2.2.1 e
    · exact (hT i hi).2.2.2.1 e
  · have e' : g = i := by simpa [Value.ownBlock] using e
    rcases hat with h | h
    · exact (hT i hi).2.2.2.2 (e' ▸ h)
    · have := (hT i hi).2.1; omega
  · exact ((hj9.set_ 3 _).far (p := ⟨w.heap.size + 1, 0, none⟩) n3 _).set_ 4 (.bool false)
  · have hl : (J.recs ++ xs).length = J.recs.length + xs.length := List.length_append
    simp only [hl, strL_append]
    have o1 := ownsRow_setCell_other ho (a := ⟨jb, 3, none⟩) (own_blk_ne ho hj9 (by decide)) (.slice (some ⟨g, 0, none⟩) (J.recs.length + xs.length) cap)
    have b1 := (he.grown hg n2).far (p := ⟨jb, 3, none⟩) n3.symm (.slice (some ⟨g, 0, none⟩) (J.recs.length + xs.length) cap)
    have o2 := ownsRow_setCell_other o1 (a := ⟨w.heap.size + 1, 0, none⟩) (own_blk_ne o1 b1 (by decide)) (.int .i64 0)
    have b2 := (hj9.set_ 3 (.slice (some ⟨g, 0, none⟩) (J.recs.length + xs.length) cap)).far (p := ⟨w.heap.size + 1, 0, none⟩) n3 (.int .i64 0)
    exact ownsRow_setCell_other o2 (a := ⟨jb, 4, none⟩) (own_blk_ne o2 b2 (by decide)) (.bool false)
  · have e' : g = k := by simpa [Value.ownBlock] using hk
    subst e'
    rcases hat with h | h
    · exact .inl h
    · exact .inr (by omega)
  · refine (ht.mono (T := fun k => S k ∨ k = jb ∨ v.ownBlock = some k) fun i _ h => h.elim .inl fun e => .inr (.inl e)).trans t2 fun i hi e => ?_
    rcases e with e | e | e
    · exact .inr (.inr e)
    · exact .inr (.inl e)
    · omega
theorem full_mem {ps : List (List UInt8)} (h : ∀ x ∈ ps, x.length ≤ 46) {p : Nat} {x : List UInt8} (hx : x ∈ Jr.full p ps) : x.length ≤ 64 := by
  simp only [Jr.full, List.mem_map, List.mem_range] at hx
  obtain ⟨i, hi, rfl⟩ := hx
  rw [Jr.sect_length]
  · exact Nat.le_refl _
  · rw [List.getD_eq_getElem?_getD, List.getElem?_eq_getElem hi]
    exact h _ (List.getElem_mem hi)
theorem text_count (xs : List (List UInt8)) : xs.length ≤ (Jr.text xs).length := by
  induction xs with
  | nil => simp
  | cons x xs ih =>
    have : Jr.text (x :: xs) = (Jr.decs x.length ++ 58 :: x) ++ Jr.text xs := by simp [Jr.text]
    rw [this, List.length_append, List.length_append, List.length_cons, List.length_cons]
    omega
end Go.Proofs.YthhkadeiplbdkaaDoor
