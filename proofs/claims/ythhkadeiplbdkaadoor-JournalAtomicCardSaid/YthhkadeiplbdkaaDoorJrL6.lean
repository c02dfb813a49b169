/- The journal's laws: appends in drawn regions; the operations of JournalAtomic and JournalForeign as plain data. -/
import Derived.Test.YthhkadeiplbdkaaDoorJrL5
set_option linter.unusedVariables false
set_option linter.unusedSimpArgs false
namespace Go.Proofs.YthhkadeiplbdkaaDoor
open Go.RowKit

/-- append(dst, src...), as a step of a region that draws its order. -/
theorem step_append_strs {w : World} {ops : Array Oper} {o : Oper} {a : Act} {K : Act → World → Prop} {Q : Exit → Act → World → Prop} {E : Prop} (hgd : o.guard = none) (s x : Operand)
    (ho : o.op = .call { callee := .builtin .append, args := #[s, x], argTypes := #[27, 27] }) (v : Value) (rs : List (List UInt8)) (hs : a.eval s = v) (hown : w.ownsRow 0 9 1 v rs.length (strL rs))
    (A : Option Addr) (c : Nat) (xs : List (List UInt8)) (hx : a.eval x = .slice A xs.length c) (hst : Strs w A xs) (hl : rs.length + xs.length ≤ 1000000)
    (h : ∀ v' w', w'.ownsRow 0 9 1 v' (rs ++ xs).length (strL (rs ++ xs)) → w.grownBy w' v.ownBlock → (v'.ownBlock = v.ownBlock ∨ v'.ownBlock = some w.heap.size) → K (a.put o.dst v') w') :
    if Region.wanted o (yielded ops a.tmps) = true then Oper.wp Tryd.prog o a w K Q else E := by
  have hw : Region.wanted o (yielded ops a.tmps) = true := by simp [Region.wanted, hgd]
  rw [if_pos hw]
  obtain ⟨i0, hi, hz0, hz1, hz2⟩ := info_parts info_strs
  have hrun : ∃ v' w', (Builtin.append_ #[27, 27] o.type #[v, .slice A xs.length c]).run Tryd.prog w = .ok v' w' ∧ w'.ownsRow 0 9 1 v' (rs ++ xs).length (strL (rs ++ xs)) ∧ w.grownBy w' v.ownBlock ∧ (v'.ownBlock = v.ownBlock ∨ v'.ownBlock = some w.heap.size) := by
    match A, hst with
    | some ad, hst =>
      obtain ⟨v', w', h1, h2, h3, _, h5⟩ := run_append_own_at (P := Tryd.prog) w 0 27 o.type 9 i0 _ 1 16 Tryd.underlying27 hi hz0 hz1 hz2 rfl (by omega) v rs.length (strL rs) hown ad xs.length c (strL xs) (by rw [strL_length, Nat.mul_one]) (fun j u hu => by
        have hj : j < xs.length := by
          rcases Nat.lt_or_ge j xs.length with h1 | h1
          · exact h1
          · rw [List.getElem?_eq_none (by rw [strL_length]; exact h1)] at hu; cases hu
        obtain ⟨b, o', e, _, hc⟩ := hst.at_ (by omega)
        rw [Option.some.inj e, add_at, hc j hj]
        simpa [strL, hj] using hu) (fun u hu => by
        simp only [strL, List.mem_map] at hu
        obtain ⟨y, _, rfl⟩ := hu
        rfl) (by simp only [maxLen]; omega) (by omega) (Nat.zero_le _)
      exact ⟨v', w', h1, by rw [strL_append, List.length_append]; exact h2, h3, h5⟩
    | none, hst =>
      have hxs : xs = [] := by
        rcases Nat.eq_zero_or_pos xs.length with h0 | h0
        · exact List.length_eq_zero_iff.1 h0
        · obtain ⟨b, o', e, _⟩ := hst.at_ h0
          cases e
      subst hxs
      exact ⟨v, w, append_none_run (w := w) 27 o.type 9 i0 Tryd.underlying27 hi v rs.length 1 0 (strL rs) hown c, by simpa using hown, ⟨rfl, rfl, rfl, Nat.le_refl _, fun _ _ _ => rfl⟩, .inl rfl⟩
  obtain ⟨v', w', h1, h2, h3, h4⟩ := hrun
  unfold Oper.wp
  simp [execOp, ho, resolve, invoke, builtin, hs, hx, h1, Result.andThen]
  exact h v' w' h2 h3 h4
/-- An empty list in a new block of no cells. -/
theorem own_empty (w : World) : (w.alloc (.cells #[] 9)).ownsRow 0 9 1 (.slice (some ⟨w.heap.size, 0, none⟩) 0 0) 0 (strL []) :=
  ⟨rfl, .inr ⟨w.heap.size, 0, #[], rfl, Nat.zero_le _, heap_alloc_new w _, Nat.le_refl _, Nat.zero_le _, rfl, rfl⟩⟩
namespace Jr
theorem Right.arm {D : Dk} {J : Jn} (h : Right D J) (a b c : Int) (ha : Dk.i64 a) (hb : Dk.i64 b) (hc : Dk.i64 c) : Right (D.arm a b c) J ∧ (D.arm a b c).q = D.q ∧ (D.arm a b c).st = D.st := by
  have hi := Dk.arm_inv h.inv a b c ha hb hc
  have e : (D.arm a b c).off = false ∧ (D.arm a b c).q = D.q ∧ (D.arm a b c).st = D.st := by
    unfold Dk.arm
    rw [h.on]
    simp only [Bool.false_eq_true, if_false]
    split <;> exact ⟨rfl, rfl, rfl⟩
  have hv : view (D.arm a b c) = view D := by unfold view; rw [e.2.1, e.2.2]
  exact ⟨⟨hi, e.1, by rw [e.2.2]; exact h.n, h.n3, by rw [hv]; exact h.good, h.br⟩, e.2.1, e.2.2⟩
/-- An Append on a disk that may be armed, then the power off and on: what Open will find. -/
structure After (D : Dk) (J : Jn) (xs : List (List UInt8)) (D2 : Dk) (f : Int) (c : Nat) (recs : List (List UInt8)) : Prop where
  q : D2.q = []
  inv : D2.Inv
  n : D2.st.length = J.n
  can : Can D2.st c recs
  end_ : (f = 0 ∧ recs = J.recs ++ xs) ∨ ((f = 2 ∨ f = 29) ∧ recs = J.recs) ∨ (f = 28 ∧ (recs = J.recs ∨ recs = J.recs ++ xs))
theorem app_after {D : Dk} {J : Jn} (xs : List (List UInt8)) (h : Right D J) (hq : D.q = []) : ∃ D2 J2 f c recs, app D J xs = (D2, J2, f) ∧ After D J xs D2 f c recs := by
  obtain ⟨D2, J2, f, e⟩ : ∃ D2 J2 f, app D J xs = (D2, J2, f) := ⟨_, _, _, rfl⟩
  have z := app_armed xs h hq
  rw [e] at z
  have hl : (view D).length ≤ 4000 := by rw [view_length]; exact h.inv.hi
  cases z with
  | done e1 ok q recs =>
    have hlen : J2.n = J.n := by
      have : J2 = (app D J xs).2.1 := by rw [e]
      rw [this]
      unfold app
      split
      · rfl
      · split
        · rfl
        · split
          · rfl
          · split
            · rfl
            · simp only
              split <;> rfl
    have hv := view_st q
    have hg := ok.good.can (by rw [view_length]; exact ok.inv.hi)
    dsimp only at hv hg q recs e1 ok
    rw [hv, recs] at hg
    exact ⟨D2, J2, f, J2.c, J.recs ++ xs, e, q, ok.inv, by rw [← ok.n]; exact hlen, hg, .inl ⟨e1, rfl⟩⟩
  | no e1 same =>
    dsimp only at e1 same
    obtain ⟨rfl, rfl⟩ := same
    have hg := h.good.can hl
    rw [view_st hq] at hg
    exact ⟨D2, J2, f, J2.c, J2.recs, e, hq, h.inv, h.n.symm, hg, .inr (.inl ⟨e1, rfl⟩)⟩
  | cut e1 off q inv len can =>
    dsimp only at e1 off q inv len can
    rcases can with ⟨c, hc⟩ | ⟨c, hc⟩
    · exact ⟨D2, J2, f, c, _, e, q, inv, by rw [len, h.n], hc, .inr (.inr ⟨e1, .inl rfl⟩)⟩
    · exact ⟨D2, J2, f, c, _, e, q, inv, by rw [len, h.n], hc, .inr (.inr ⟨e1, .inr rfl⟩)⟩
/-- A disk with nothing pending, turned on. -/
def onD (D : Dk) : Dk := { st := D.st, q := [], off := false, al := none }
theorem onD_inv {D : Dk} (h : D.Inv) : (onD D).Inv := ⟨h.lo, h.hi, h.sec, by simp [onD], by simp [onD], by simp [onD]⟩
/-- Open on an armed disk, and the power off and on again. -/
theorem opn_after {D : Dk} {c : Nat} {recs : List (List UInt8)} (hi : D.Inv) (h3 : 3 ≤ D.st.length) (h : Can D.st c recs) (a b d : Int) (ha : Dk.i64 a) (hb : Dk.i64 b) (hd : Dk.i64 d) :
    ∃ E oj g, opn ((onD D).arm a b d) = (E, oj, g) ∧ E.q = [] ∧ E.Inv ∧ E.st.length = D.st.length ∧ Can E.st c recs ∧ ((g = 0 ∧ oj = some ⟨D.st.length, c, recs, false⟩) ∨ (g = 28 ∧ oj = none)) := by
  have hiO := onD_inv hi
  have hiA := Dk.arm_inv hiO a b d ha hb hd
  have e : ((onD D).arm a b d).off = false ∧ ((onD D).arm a b d).q = [] ∧ ((onD D).arm a b d).st = D.st := by
    unfold Dk.arm onD
    simp only [Bool.false_eq_true, if_false]
    split <;> exact ⟨rfl, rfl, rfl⟩
  obtain ⟨E, oj, g, hE⟩ : ∃ E oj g, opn ((onD D).arm a b d) = (E, oj, g) := ⟨_, _, _, rfl⟩
  have z := opn_armed hiA e.1 e.2.1 (by rw [e.2.2]; exact h3) (by rw [e.2.2]; exact h)
  rw [hE] at z
  refine ⟨E, oj, g, hE, ?_⟩
  cases z with
  | done e1 j ok q =>
    dsimp only at e1 j ok q
    rw [e.2.2] at j ok
    have hg := ok.good.can (by rw [view_length]; exact ok.inv.hi)
    rw [view_st q] at hg
    exact ⟨q, ok.inv, ok.n.symm, hg, .inl ⟨e1, j⟩⟩
  | cut e1 j off q inv len can =>
    dsimp only at e1 j off q inv len can
    rw [e.2.2] at len
    exact ⟨q, inv, len, can, .inr ⟨e1, j⟩⟩
theorem opn_onD {D : Dk} {c : Nat} {recs : List (List UInt8)} (hi : D.Inv) (h3 : 3 ≤ D.st.length) (h : Can D.st c recs) : ∃ E, opn (onD D) = (E, some ⟨D.st.length, c, recs, false⟩, 0) ∧ Right E ⟨D.st.length, c, recs, false⟩ ∧ E.al = none ∧ E.q = [] := by
  obtain ⟨E, h1, h2, h3', h4⟩ := opn_can (onD_inv hi) ⟨rfl, rfl⟩ h3 (by show Can (view (onD D)) c recs; rw [view_st rfl]; exact h)
  exact ⟨E, h1, h2, h3', h4 rfl⟩
/-- What is written at first by JournalForeign: a text, cut or filled up. -/
def fit (x : List UInt8) : List UInt8 := (x ++ zeros).take 64
theorem fit_len (x : List UInt8) : (fit x).length = 64 := by unfold fit zeros; rw [List.length_take, List.length_append, List.length_replicate]; omega
def foreign (n : Nat) (xs : List (List UInt8)) : Dk := { Dk.new n with q := pend 0 (xs.map fit) }
theorem pend_mem (xs : List (List UInt8)) : ∀ (p : Nat) (x : Nat × ByteArray), x ∈ pend p xs → ∃ i, i < xs.length ∧ x.1 = p + i ∧ ∃ y ∈ xs, x.2 = Dk.str y := by
  induction xs with
  | nil => intro p x h; simp [pend] at h
  | cons y xs ih =>
    intro p x h
    simp only [pend, List.mem_cons] at h
    rcases h with rfl | h
    · exact ⟨0, by simp, rfl, y, by simp, rfl⟩
    · obtain ⟨i, h1, h2, z, h3, h4⟩ := ih _ _ h
      exact ⟨i + 1, by simpa using h1, by omega, z, by simp [h3], h4⟩
theorem foreign_inv {n : Nat} (h1 : 1 ≤ n) (h2 : n ≤ 4000) (xs : List (List UInt8)) (hx : xs.length ≤ n) : (foreign n xs).Inv := by
  have h0 := Dk.new_inv n h1 h2
  refine ⟨h0.lo, h0.hi, h0.sec, ?_, h0.alarm, by simp [foreign, Dk.new]⟩
  intro p hp
  obtain ⟨i, hi, e1, y, hy, e2⟩ := pend_mem _ _ _ hp
  obtain ⟨x, hx', rfl⟩ := List.mem_map.1 hy
  rw [List.length_map] at hi
  refine ⟨by rw [e1]; show 0 + i < (List.replicate n Dk.zeroSec).length; rw [List.length_replicate]; omega, by rw [e2, Dk.str_size, fit_len]⟩
theorem foreign_step {n : Nat} {xs : List (List UInt8)} {k : Nat} {x : List UInt8} (hk : k < n) (h : xs[k]? = some x) : (foreign n (xs.take k)).write (k : Int) (Dk.str (fit x)) = (foreign n (xs.take (k + 1)), 0) := by
  have hkl : k < xs.length := (List.getElem?_eq_some_iff.1 h).1
  rw [write_ready ⟨rfl, rfl⟩ (by simp [foreign, Dk.new]; exact hk) (fit_len x)]
  have e : xs.take (k + 1) = xs.take k ++ [x] := strs_snoc h
  unfold foreign
  rw [e, List.map_append, pend_append, List.length_map, List.length_take, Nat.min_eq_left (by omega)]
  simp [pend]
theorem flat_le (ps : List (List UInt8)) (h : ∀ p ∈ ps, p.length ≤ 46) : ps.flatten.length ≤ 46 * ps.length := by
  induction ps with
  | nil => simp
  | cons p ps ih =>
    rw [List.flatten_cons, List.length_append, List.length_cons]
    have := h p (by simp)
    have := ih fun q hq => h q (by simp [hq])
    omega
theorem recs_len {D : Dk} {J : Jn} (h : Right D J) (hn : J.n ≤ 40) : J.recs.length ≤ 100000 := by
  obtain ⟨ps, e1, _, e3, e4⟩ := h.good.sound.data
  have h1 := flat_le ps fun p hp => (e3 p hp).2
  have h2 := text_len J.recs
  have h3 := h.c
  rw [e4, e1] at h1
  omega
theorem rest_q (D : Dk) (p : Nat) (was : List UInt8) (c : Nat) : (rest D p was c).1.q.length ≤ D.q.length + 2 := by
  have h1 := wr_q [zeros] D p
  have h2 := wr_q [head p c] (wr D p [zeros]).1 p
  simp only [List.length_singleton] at h1 h2
  unfold rest
  split
  · show D.q.length ≤ _; omega
  · simp only
    split <;> omega
theorem opn_q {D D' : Dk} {oj : Option Jn} {x : Int} (h : opn D = (D', oj, x)) : D'.q.length ≤ D.q.length + 4 := by
  have e : D' = (opn D).1 := by rw [h]
  rw [e]
  unfold opn
  split
  · show D.q.length ≤ _; omega
  · split
    · show D.q.length ≤ _; omega
    · simp only
      split
      · show D.q.length ≤ _; omega
      · split
        · show D.q.length ≤ _; omega
        · split
          · show D.q.length ≤ _; omega
          · have h1 := fun was c => rest_q D 0 was c
            have h2 := fun F was c => rest_q F 1 was c
            split
            · exact Nat.le_trans (h1 _ _) (by omega)
            · split
              · exact Nat.le_trans (h2 _ _ _) (Nat.le_trans (Nat.add_le_add_right (h1 _ _) 2) (by omega))
              · exact Nat.le_trans (h2 _ _ _) (Nat.le_trans (Nat.add_le_add_right (h1 _ _) 2) (by omega))
theorem app_q {D D' : Dk} {J J' : Jn} {rs : List (List UInt8)} {x : Int} (h : app D J rs = (D', J', x)) : D'.q.length ≤ D.q.length + 2 * (pieces (text rs)).length + 2 := by
  have e : D' = (app D J rs).1 := by rw [h]
  rw [e]
  have key : ∀ ps : List (List UInt8), (steps D J ps).1.q.length ≤ D.q.length + 2 * ps.length + 2 := by
    intro ps
    have h1 := wr_q (ps.map fun _ => zeros) D (2 + J.c)
    have h2 := wr_q (full (2 + J.c) ps) (wr D (2 + J.c) (ps.map fun _ => zeros)).1 (2 + J.c)
    have h3 := wr_q [head 1 (J.c + ps.length)] (wr (wr D (2 + J.c) (ps.map fun _ => zeros)).1 (2 + J.c) (full (2 + J.c) ps)).1 1
    have h4 := wr_q [head 0 (J.c + ps.length)] (wr (wr (wr D (2 + J.c) (ps.map fun _ => zeros)).1 (2 + J.c) (full (2 + J.c) ps)).1 1 [head 1 (J.c + ps.length)]).1 0
    rw [List.length_map] at h1
    rw [full_len] at h2
    simp only [List.length_singleton] at h3 h4
    unfold steps
    simp only
    split
    · omega
    · split
      · omega
      · split <;> omega
  unfold app
  split
  · show D.q.length ≤ _; omega
  · split
    · show D.q.length ≤ _; omega
    · split
      · show D.q.length ≤ _; omega
      · split
        · show D.q.length ≤ _; omega
        · simp only
          have := key (pieces (text rs))
          split <;> exact this
end Jr
end Go.Proofs.YthhkadeiplbdkaaDoor
