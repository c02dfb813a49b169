/- The journal as plain data: the power fails in the middle of an Append or an Open. -/
import Derived.Test.YthhkadeiplbdkaaDoorJrE
set_option linter.unusedVariables false
set_option linter.unusedSimpArgs false
namespace Go.Proofs.YthhkadeiplbdkaaDoor
namespace Jr

/-- V' is V but for the sectors from p on, each of which has the first bytes of what was to be written there. -/
structure Torn (V : List (List UInt8)) (p : Nat) (xs : List (List UInt8)) (V' : List (List UInt8)) : Prop where
  len : V'.length = V.length
  far : ∀ i, ¬ (p ≤ i ∧ i < p + xs.length) → V'.getD i [] = V.getD i []
  near : ∀ i, i < xs.length → ∃ t, t ≤ 64 ∧ V'.getD (p + i) [] = (xs.getD i []).take t ++ (V.getD (p + i) []).drop t
theorem Torn.more {V V' : List (List UInt8)} {p : Nat} {xs ys : List (List UInt8)} (h : Torn V p xs V') : Torn V p (xs ++ ys) V' := by
  refine ⟨h.len, fun i hi => h.far i (by rw [List.length_append] at hi; omega), fun i hi => ?_⟩
  by_cases h1 : i < xs.length
  · obtain ⟨t, ht, e⟩ := h.near i h1
    exact ⟨t, ht, by rw [e, getD_app_left h1]⟩
  · exact ⟨0, by omega, by rw [h.far _ (by omega)]; simp⟩
theorem pend_append (xs ys : List (List UInt8)) : ∀ p, pend p (xs ++ ys) = pend p xs ++ pend (p + xs.length) ys := by
  induction xs with
  | nil => intro p; rfl
  | cons x xs ih => intro p; simp only [List.cons_append, pend, ih, List.length_cons]; rw [show p + 1 + xs.length = p + (xs.length + 1) by omega]
theorem pend_length (xs : List (List UInt8)) : ∀ p, (pend p xs).length = xs.length := by
  induction xs with
  | nil => intro p; rfl
  | cons x xs ih => intro p; simp [pend, ih]
theorem pend_take (xs : List (List UInt8)) : ∀ p n, (pend p xs).take n = pend p (xs.take n) := by
  induction xs with
  | nil => intro p n; simp [pend]
  | cons x xs ih => intro p n; cases n with
    | zero => rfl
    | succ n => simp [pend, ih]
theorem pend_at (xs : List (List UInt8)) : ∀ p n, (pend p xs)[n]? = (xs[n]?).map fun x => (p + n, Dk.str x) := by
  induction xs with
  | nil => intro p n; simp [pend]
  | cons x xs ih => intro p n; cases n with
    | zero => rfl
    | succ n => simp only [pend, List.getElem?_cons_succ, ih]; rw [show p + 1 + n = p + (n + 1) by omega]
theorem getD_take {xs : List (List UInt8)} {n i : Nat} (h : i < n) : (xs.take n).getD i [] = xs.getD i [] := by
  rw [List.getD_eq_getElem?_getD, List.getD_eq_getElem?_getD, List.getElem?_take, if_pos h]
/-- The power fails with writes pending. -/
theorem fail_torn {D : Dk} {p : Nat} {ys : List (List UInt8)} (hs : Sec D.st) (hy : ∀ x ∈ ys, x.length = 64) (hq : D.q = pend p ys) (hp : p + ys.length ≤ D.st.length) (a b : Int) : Torn D.st p ys (D.failSt a b) := by
  have hl : D.q.length = ys.length := by rw [hq, pend_length]
  obtain ⟨n, hn⟩ : ∃ n, Dk.clamp a D.q.length = n := ⟨_, rfl⟩
  obtain ⟨t, ht⟩ : ∃ t, Dk.clamp b 64 = t := ⟨_, rfl⟩
  have hn1 : n ≤ ys.length := by rw [← hn, hl]; exact Nat.min_le_right _ _
  have ht1 : t ≤ 64 := by rw [← ht]; exact Nat.min_le_right _ _
  have hyt : ∀ x ∈ ys.take n, x.length = 64 := fun x hx => hy x (List.mem_of_mem_take hx)
  have e1 : Dk.settle D.st (D.q.take n) = lay D.st p (ys.take n) := by rw [hq, pend_take, settle_pend _ _ _ hs hyt]
  have hlay : ∀ i, (lay D.st p (ys.take n)).getD i [] = if p ≤ i ∧ i < p + n then ys.getD (i - p) [] else D.st.getD i [] := by
    intro i
    have hln : (ys.take n).length = n := by rw [List.length_take]; omega
    rw [lay_get _ _ _ _ (by rw [hln]; omega), hln]
    by_cases h : p ≤ i ∧ i < p + n
    · rw [if_pos h, if_pos h, getD_take (by omega)]
    · rw [if_neg h, if_neg h]
  have base : ∀ i, i < ys.length → ∃ t, t ≤ 64 ∧ (lay D.st p (ys.take n)).getD (p + i) [] = (ys.getD i []).take t ++ (D.st.getD (p + i) []).drop t := by
    intro i hi
    rw [hlay]
    by_cases h : i < n
    · rw [if_pos ⟨by omega, by omega⟩, Nat.add_sub_cancel_left]
      refine ⟨64, Nat.le_refl _, ?_⟩
      have h1 := hy _ (getD_mem (ps := ys) (i := i) hi)
      rw [List.take_of_length_le (by omega), List.drop_of_length_le (by rw [Dk.getD_len hs (by omega)]; omega), List.append_nil]
    · rw [if_neg (by omega)]
      exact ⟨0, by omega, by simp⟩
  unfold Dk.failSt
  rw [hn, ht, e1, hq, pend_at]
  rcases Nat.lt_or_ge n ys.length with hlt | hge
  · rw [List.getElem?_eq_getElem hlt]
    simp only [Option.map_some]
    have hx : ys[n] = ys.getD n [] := by rw [List.getD_eq_getElem?_getD, List.getElem?_eq_getElem hlt]; rfl
    rw [hx, show (Dk.str (ys.getD n [])).data.toList = ys.getD n [] from rfl]
    have hx64 := hy _ (getD_mem (ps := ys) (i := n) hlt)
    have hold : (lay D.st p (ys.take n)).getD (p + n) [] = D.st.getD (p + n) [] := by rw [hlay, if_neg (by omega)]
    have hput : ∀ i, (Dk.put (lay D.st p (ys.take n)) (p + n) ((ys.getD n []).take t)).getD i [] = if i = p + n then (ys.getD n []).take t ++ (D.st.getD (p + n) []).drop t else (lay D.st p (ys.take n)).getD i [] := by
      intro i
      unfold Dk.put Dk.over
      rw [getD_set _ _ _ _ (by rw [lay_length]; omega), hold, List.length_take, hx64, Nat.min_eq_left ht1]
    refine ⟨by rw [Dk.put_length, lay_length], fun i hi => ?_, fun i hi => ?_⟩
    · rw [hput, if_neg (by omega), hlay, if_neg (by omega)]
    · rw [hput]
      by_cases h : i = n
      · subst h; rw [if_pos rfl]; exact ⟨t, ht1, rfl⟩
      · rw [if_neg (by omega)]; exact base i hi
  · rw [List.getElem?_eq_none (by omega)]
    simp only [Option.map_none]
    refine ⟨lay_length _ _ _, fun i hi => ?_, base⟩
    rw [hlay, if_neg (by omega)]
/-- What a write leaves on a disk that is on, may be armed, and has nothing pending. -/
inductive WrEnd (D : Dk) (p : Nat) (xs : List (List UInt8)) (r : Dk × Int) : Prop
  | done (e : r.2 = 0) (on : r.1.off = false) (q : r.1.q = []) (v : r.1.st = lay D.st p xs)
  | cut (e : r.2 = 28) (off : r.1.off = true) (q : r.1.q = []) (v : Torn D.st p xs r.1.st)
theorem wr_armed_aux (rest : List (List UInt8)) : ∀ (D : Dk) (p : Nat) (done : List (List UInt8)), Sec D.st → D.off = false → D.q = pend p done → p + (done ++ rest).length ≤ D.st.length → (∀ x ∈ done ++ rest, x.length = 64) → WrEnd D p (done ++ rest) (wr D (p + done.length) rest) := by
  induction rest with
  | nil =>
    intro D p done hs ho hq hp hx
    simp only [List.append_nil] at hp hx ⊢
    simp only [wr]
    unfold Dk.sync Dk.count
    rw [ho]
    simp only [Bool.false_eq_true, if_false]
    cases hal : D.al with
    | none =>
      simp only [if_true]
      refine .done rfl ho rfl ?_
      show Dk.settle D.st D.q = _
      rw [hq, settle_pend _ _ _ hs hx]
    | some abc =>
      obtain ⟨a, b, c⟩ := abc
      simp only
      by_cases ha : 0 < a
      · rw [if_pos ha]
        simp only [if_true]
        refine .done rfl rfl rfl ?_
        show Dk.settle D.st D.q = _
        rw [hq, settle_pend _ _ _ hs hx]
      · rw [if_neg ha]
        rw [if_neg (show ¬ ((28 : Int) = 0) by omega)]
        have hfo : D.fail b c = { st := D.failSt b c, q := [], off := true, al := none } := by unfold Dk.fail; rw [ho]; rfl
        refine .cut rfl (by rw [hfo]) (by rw [hfo]) ?_
        rw [hfo]
        exact fail_torn hs hx hq hp b c
  | cons x rest ih =>
    intro D p done hs ho hq hp hx
    have hl : (done ++ x :: rest).length = done.length + 1 + rest.length := by simp; omega
    have e2 : done ++ x :: rest = (done ++ [x]) ++ rest := by simp
    rw [hl] at hp
    have hx64 : x.length = 64 := hx x (by simp)
    have hD2q : D.q ++ [(p + done.length, Dk.str x)] = pend p (done ++ [x]) := by rw [hq, pend_append]; rfl
    simp only [wr]
    have hval : D.valid ((p + done.length : Nat) : Int) = true := by unfold Dk.valid; simp; omega
    have hw : D.write ((p + done.length : Nat) : Int) (Dk.str x) = ({ st := D.st, q := pend p (done ++ [x]), off := false, al := D.al } : Dk).count := by
      unfold Dk.write
      rw [ho]
      simp only [Bool.false_eq_true, if_false]
      rw [hval, if_pos rfl, if_pos (by rw [Dk.str_size]; exact hx64), Int.toNat_natCast, hD2q]
    rw [hw]
    unfold Dk.count
    cases hal : D.al with
    | none =>
      simp only [if_true]
      have := ih { st := D.st, q := pend p (done ++ [x]), off := false, al := D.al } p (done ++ [x]) hs rfl rfl (by rw [← e2, hl]; exact hp) (by rw [← e2]; exact hx)
      rw [← e2, List.length_append, List.length_singleton, ← Nat.add_assoc] at this
      simp only [hal] at this
      cases this with
      | done a b c d => exact .done a b c d
      | cut a b c d => exact .cut a b c d
    | some abc =>
      obtain ⟨a, b, c⟩ := abc
      simp only
      by_cases ha : 0 < a
      · rw [if_pos ha]
        simp only [if_true]
        have := ih { st := D.st, q := pend p (done ++ [x]), off := false, al := some (a - 1, b, c) } p (done ++ [x]) hs rfl rfl (by rw [← e2, hl]; exact hp) (by rw [← e2]; exact hx)
        rw [← e2, List.length_append, List.length_singleton, ← Nat.add_assoc] at this
        cases this with
        | done a b c d => exact .done a b c d
        | cut a b c d => exact .cut a b c d
      · rw [if_neg ha]
        rw [if_neg (show ¬ ((28 : Int) = 0) by omega)]
        obtain ⟨E, hE⟩ : ∃ E : Dk, ({ st := D.st, q := pend p (done ++ [x]), off := false, al := some (a, b, c) } : Dk) = E := ⟨_, rfl⟩
        have hst : E.st = D.st := by rw [← hE]
        have hEo : E.off = false := by rw [← hE]
        have hEq : E.q = pend p (done ++ [x]) := by rw [← hE]
        simp only [hE]
        have hfo : E.fail b c = { st := E.failSt b c, q := [], off := true, al := none } := by unfold Dk.fail; rw [hEo]; rfl
        have hT := (fail_torn (D := E) (p := p) (ys := done ++ [x]) (by rw [hst]; exact hs) (fun y hy => hx y (by rw [e2]; exact List.mem_append_left _ hy)) hEq (by rw [hst, List.length_append, List.length_singleton]; omega) b c).more (ys := rest)
        rw [hst, ← e2] at hT
        refine .cut (by rw [hfo]) (by rw [hfo]) (by rw [hfo]) ?_
        rw [hfo]
        exact hT
theorem wr_armed {D : Dk} {p : Nat} {xs : List (List UInt8)} (hi : D.Inv) (ho : D.off = false) (hq : D.q = []) (hp : p + xs.length ≤ D.st.length) (hx : ∀ x ∈ xs, x.length = 64) : WrEnd D p xs (wr D p xs) :=
  wr_armed_aux xs D p [] hi.sec ho (by rw [hq]; rfl) (by simpa using hp) (by simpa using hx)
/-- A head that is torn. -/
theorem cnt_torn {p c : Nat} {old : List UInt8} {t : Nat} {room : Int} (hc : c < 10 ^ 8) (hr : room < 10 ^ 8) (hl : old.length = 64) (ho : old = zeros ∨ ∃ d, d < 10 ^ 8 ∧ old = head p d) : cnt p ((head p c).take t ++ old.drop t) room = -1 ∨ cnt p ((head p c).take t ++ old.drop t) room = 0 ∨ cnt p ((head p c).take t ++ old.drop t) room = c ∨ (head p c).take t ++ old.drop t = old := by
  rcases cnt_cases p ((head p c).take t ++ old.drop t) room with e | ⟨e, hz⟩ | ⟨m, e, hm1, hm⟩
  · exact .inl e
  · exact .inr (.inl e)
  · have hm8 : m < 10 ^ 8 := by omega
    have hhl := head_length p c
    by_cases h16 : 16 ≤ t
    · refine .inr (.inr (.inl ?_))
      have h1 := congrArg (List.take 16) hm
      rw [List.take_append_of_le_length (by rw [List.length_take]; omega), List.take_take, Nat.min_eq_left h16] at h1
      rw [e, head_take_inj hc hm8 h1]
    · refine .inr (.inr (.inr ?_))
      have h1 := congrArg (List.drop 16) hm
      have hlt : ((head p c).take t).length = t := by rw [List.length_take]; omega
      rw [List.drop_append, List.drop_of_length_le (by omega), List.nil_append, List.drop_drop, hlt, show t + (16 - t) = 16 by omega] at h1
      rcases ho with rfl | ⟨d, hd, rfl⟩
      · exfalso
        have h2 := congrArg (List.take 8) h1
        rw [head_field] at h2
        have h3 : (48 : Nat) ≤ ((0 : UInt8)).toNat := (dig_mem 8 m 0 (by rw [← h2]; simp [zeros])).1
        exact absurd h3 (by decide)
      · obtain rfl := head_drop_inj hd hm8 h1
        exact hm
/-- Zeros that reach only a part of a sector. -/
theorem cnt_zero_torn {p : Nat} {old : List UInt8} {t : Nat} {room : Int} (ht : t ≤ 64) (hl : old.length = 64) : cnt p (zeros.take t ++ old.drop t) room = -1 ∨ cnt p (zeros.take t ++ old.drop t) room = 0 ∨ zeros.take t ++ old.drop t = old := by
  rcases cnt_cases p (zeros.take t ++ old.drop t) room with e | ⟨e, hz⟩ | ⟨m, e, hm1, hm⟩
  · exact .inl e
  · exact .inr (.inl e)
  · by_cases h0 : t = 0
    · subst h0; exact .inr (.inr (by simp))
    · exfalso
      have h1 := congrArg (fun l : List UInt8 => l.getD 0 0) hm
      have h2 : (zeros.take t ++ old.drop t).getD 0 0 = 0 := by
        rw [List.getD_eq_getElem?_getD, List.getElem?_append_left (by rw [List.length_take]; show 0 < min t 64; omega), List.getElem?_take, if_pos (by omega)]
        rfl
      simp only [h2] at h1
      exact head_ne0 p m (i := 0) (by omega) h1.symm
theorem Hd.old {V : List (List UInt8)} {p c : Nat} (h : Hd V p c) (hc : c < 10 ^ 8) : V.getD p [] = zeros ∨ ∃ d, d < 10 ^ 8 ∧ V.getD p [] = head p d := h.elim (fun h => .inr ⟨c, hc, h⟩) fun h => .inl h.2

/-- How an Append on a disk that may be armed ends. -/
inductive AppEnd (D : Dk) (J : Jn) (rs : List (List UInt8)) (r : Dk × Jn × Int) : Prop
  | done (e : r.2.2 = 0) (ok : Right r.1 r.2.1) (q : r.1.q = []) (recs : r.2.1.recs = J.recs ++ rs)
  | no (e : r.2.2 = 2 ∨ r.2.2 = 29) (same : r.1 = D ∧ r.2.1 = J)
  | cut (e : r.2.2 = 28) (off : r.1.off = true) (q : r.1.q = []) (inv : r.1.Inv) (len : r.1.st.length = D.st.length) (can : (∃ c, Can r.1.st c J.recs) ∨ ∃ c, Can r.1.st c (J.recs ++ rs))
theorem steps_inv {D : Dk} (J : Jn) (ps : List (List UInt8)) (h : D.Inv) : (steps D J ps).1.Inv := by
  unfold steps
  simp only
  have h1 := wr_inv (ps.map fun _ => zeros) (2 + J.c) h
  have h2 := wr_inv (full (2 + J.c) ps) (2 + J.c) h1
  have h3 := wr_inv [head 1 (J.c + ps.length)] 1 h2
  have h4 := wr_inv [head 0 (J.c + ps.length)] 0 h3
  split
  · exact h1
  · split
    · exact h2
    · split
      · exact h3
      · exact h4
theorem app_armed {D : Dk} {J : Jn} (rs : List (List UInt8)) (h : Right D J) (hq : D.q = []) : AppEnd D J rs (app D J rs) := by
  have hn := h.n
  have h4 := h.n4
  have n3 := h.n3
  by_cases hL : long rs = true
  · have e : app D J rs = (D, J, 2) := by unfold app; rw [h.br, if_neg (by simp), if_pos hL]
    rw [e]; exact .no (.inl rfl) ⟨rfl, rfl⟩
  · have hL' : long rs = false := by simpa using hL
    by_cases hf : J.n < 2 + J.c + (pieces (text rs)).length
    · have e : app D J rs = (D, J, 29) := by unfold app; rw [h.br, if_neg (by simp), if_neg hL, if_pos hf]
      rw [e]; exact .no (.inr rfl) ⟨rfl, rfl⟩
    · by_cases h0 : rs = []
      · subst h0
        have e : app D J [] = (D, J, 0) := by unfold app; rw [h.br, if_neg (by simp), if_neg hL, if_neg hf, if_pos rfl]
        rw [e]; exact .done rfl h hq (by simp)
      · have hpm := pieces_mem (text rs)
        have hpf := pieces_flatten (text rs)
        have hrr := long_short hL'
        have hsi := steps_inv J (pieces (text rs)) h.inv
        have happ : app D J rs = if (steps D J (pieces (text rs))).2 = 0 then ((steps D J (pieces (text rs))).1, { J with c := J.c + (pieces (text rs)).length, recs := J.recs ++ rs }, 0) else ((steps D J (pieces (text rs))).1, { J with br := true }, (steps D J (pieces (text rs))).2) := by
          unfold app; rw [h.br, if_neg (by simp), if_neg hL, if_neg hf, if_neg h0]
        rw [happ]
        generalize hps : pieces (text rs) = ps at *
        have hf' : 2 + J.c + ps.length ≤ D.st.length := by omega
        have hv : view D = D.st := view_st hq
        have hS : Sound D.st J.c J.recs := by rw [← hv]; exact h.good.sound
        have g0 : Hd D.st 0 J.c := by rw [← hv]; exact h.good.h0
        have g1 : Hd D.st 1 J.c := by rw [← hv]; exact h.good.h1
        have cutA : ∀ E : Dk, E.st.length = D.st.length → (∀ i, i < 2 + J.c → E.st.getD i [] = D.st.getD i []) → Can E.st J.c J.recs := by
          intro E hl he
          refine Good.can ⟨hS.same hl fun i hi => he _ (by omega), ?_, ?_⟩ (by rw [hl]; omega)
          · unfold Hd; rw [he 0 (by omega)]; exact g0
          · unfold Hd; rw [he 1 (by omega)]; exact g1
        -- zeros
        have za := wr_armed (p := 2 + J.c) (xs := ps.map fun _ => zeros) h.inv h.on hq (by simp; omega) (zeros_sec ps)
        have ia := wr_inv (ps.map fun _ => zeros) (2 + J.c) h.inv
        have na := wr_len (ps.map fun _ => zeros) D (2 + J.c)
        unfold steps at hsi ⊢
        simp only at hsi ⊢
        generalize hA : wr D (2 + J.c) (ps.map fun _ => zeros) = A at *
        cases za with
        | cut ea oa qa va =>
          rw [if_pos (show A.2 ≠ 0 by omega)]
          rw [if_neg (show ¬ A.2 = 0 by omega)]
          exact .cut ea oa qa ia na (.inl ⟨J.c, cutA A.1 na fun i hi => va.far i (by omega)⟩)
        | done ea oa qa va =>
          rw [if_neg (show ¬ A.2 ≠ 0 by omega)] at hsi ⊢
          have zb := wr_armed (p := 2 + J.c) (xs := full (2 + J.c) ps) ia oa qa (by rw [full_len, na]; omega) (full_sec _ hpm)
          have ib := wr_inv (full (2 + J.c) ps) (2 + J.c) ia
          have nb := wr_len (full (2 + J.c) ps) A.1 (2 + J.c)
          rw [na] at nb
          have far_a : ∀ i, ¬ (2 + J.c ≤ i ∧ i < 2 + J.c + ps.length) → A.1.st.getD i [] = D.st.getD i [] := by
            intro i hi
            rw [va, lay_get _ _ _ _ (by simp; omega), List.length_map, if_neg hi]
          generalize hB : wr A.1 (2 + J.c) (full (2 + J.c) ps) = B at *
          cases zb with
          | cut eb ob qb vb =>
            rw [if_pos (show B.2 ≠ 0 by omega)]
            rw [if_neg (show ¬ B.2 = 0 by omega)]
            exact .cut eb ob qb ib nb (.inl ⟨J.c, cutA B.1 nb fun i hi => by rw [vb.far i (by omega), far_a i (by omega)]⟩)
          | done eb ob qb vb =>
            rw [if_neg (show ¬ B.2 ≠ 0 by omega)] at hsi ⊢
            have far_b : ∀ i, ¬ (2 + J.c ≤ i ∧ i < 2 + J.c + ps.length) → B.1.st.getD i [] = D.st.getD i [] := by
              intro i hi
              rw [vb, lay_get _ _ _ _ (by rw [full_len, na]; omega), full_len, if_neg hi, far_a i hi]
            have new_b : ∀ i, i < ps.length → B.1.st.getD (2 + J.c + i) [] = sect (2 + J.c + i) (ps.getD i []) := by
              intro i hi
              rw [vb, lay_get _ _ _ _ (by rw [full_len, na]; omega), full_len, if_pos ⟨by omega, by omega⟩, Nat.add_sub_cancel_left, full_get _ _ hi]
            have soundB : ∀ E : Dk, E.st.length = D.st.length → (∀ i, 2 ≤ i → E.st.getD i [] = B.1.st.getD i []) → Sound E.st (J.c + ps.length) (J.recs ++ rs) := by
              intro E hl he
              refine hS.more (by rw [hl]; omega) (fun i hi => ?_) (fun i hi => ?_) hpm hpf hrr
              · rw [he _ (by omega), far_b _ (by omega)]
              · rw [he _ (by omega), new_b i hi]
            have zc := wr_armed (p := 1) (xs := [head 1 (J.c + ps.length)]) ib ob qb (by rw [nb]; simp; omega) (by simp [head_length])
            have ic := wr_inv [head 1 (J.c + ps.length)] 1 ib
            have nc := wr_len [head 1 (J.c + ps.length)] B.1 1
            rw [nb] at nc
            have c0 : cnt 0 (D.st.getD 0 []) ((D.st.length : Int) - 2) = J.c := cnt_hd g0 (by omega) (by omega)
            have c1 : cnt 1 (D.st.getD 1 []) ((D.st.length : Int) - 2) = J.c := cnt_hd g1 (by omega) (by omega)
            have l1 : (D.st.getD 1 []).length = 64 := Dk.getD_len h.inv.sec (by omega)
            have l0 : (D.st.getD 0 []).length = 64 := Dk.getD_len h.inv.sec (by omega)
            generalize hC : wr B.1 1 [head 1 (J.c + ps.length)] = C at *
            cases zc with
            | cut ec oc qc vc =>
              rw [if_pos (show C.2 ≠ 0 by omega)]
              rw [if_neg (show ¬ C.2 = 0 by omega)]
              refine .cut ec oc qc ic nc ?_
              obtain ⟨t, ht, hmix⟩ := vc.near 0 (by simp)
              have hmix' : C.1.st.getD 1 [] = (head 1 (J.c + ps.length)).take t ++ (D.st.getD 1 []).drop t := by
                rw [← far_b 1 (by omega)]; exact hmix
              have farc : ∀ i, i ≠ 1 → C.1.st.getD i [] = B.1.st.getD i [] := fun i hi => vc.far i (by simp; omega)
              have hk := cnt_torn (p := 1) (c := J.c + ps.length) (t := t) (room := (D.st.length : Int) - 2) (by omega) (by omega) l1 (g1.old (by omega))
              rw [← hmix'] at hk
              have hz0 : cnt 0 (C.1.st.getD 0 []) ((D.st.length : Int) - 2) = J.c := by rw [farc 0 (by omega), far_b 0 (by omega)]; exact c0
              have snd := soundB C.1 nc fun i hi => farc i (by omega)
              have fst : Sound C.1.st J.c J.recs := hS.same nc fun i hi => by rw [farc _ (by omega), far_b _ (by omega)]
              have old : cnt 1 (C.1.st.getD 1 []) ((D.st.length : Int) - 2) ≤ J.c → ∃ c, Can C.1.st c J.recs := fun hle => ⟨J.c, fst, by rw [nc, hz0]; omega⟩
              rcases hk with hk | hk | hk | hk
              · exact .inl (old (by omega))
              · exact .inl (old (by omega))
              · exact .inr ⟨_, snd, by rw [nc, hz0, hk]; omega⟩
              · exact .inl (old (by rw [hk, c1]; omega))
            | done ec oc qc vc =>
              rw [if_neg (show ¬ C.2 ≠ 0 by omega)] at hsi ⊢
              have vC : ∀ i, C.1.st.getD i [] = if i = 1 then head 1 (J.c + ps.length) else B.1.st.getD i [] := by
                intro i
                rw [vc]
                simp only [lay]
                exact getD_set _ _ _ _ (by omega)
              have zd := wr_armed (p := 0) (xs := [head 0 (J.c + ps.length)]) ic oc qc (by rw [nc]; simp; omega) (by simp [head_length])
              have nd := wr_len [head 0 (J.c + ps.length)] C.1 0
              rw [nc] at nd
              generalize hE : wr C.1 0 [head 0 (J.c + ps.length)] = E at *
              cases zd with
              | cut ed od qd vd =>
                rw [if_neg (show ¬ E.2 = 0 by omega)]
                refine .cut ed od qd hsi nd (.inr ⟨J.c + ps.length, soundB E.1 nd fun i hi => by rw [vd.far i (by simp; omega), vC, if_neg (by omega)], ?_⟩)
                obtain ⟨t, ht, hmix⟩ := vd.near 0 (by simp)
                have hmix' : E.1.st.getD 0 [] = (head 0 (J.c + ps.length)).take t ++ (D.st.getD 0 []).drop t := by
                  rw [← far_b 0 (by omega), show B.1.st.getD 0 [] = C.1.st.getD 0 [] by rw [vC, if_neg (by omega)]]; exact hmix
                have hk := cnt_torn (p := 0) (c := J.c + ps.length) (t := t) (room := (D.st.length : Int) - 2) (by omega) (by omega) l0 (g0.old (by omega))
                rw [← hmix'] at hk
                have h1 : cnt 1 (E.1.st.getD 1 []) ((D.st.length : Int) - 2) = (J.c + ps.length : Nat) := by
                  rw [vd.far 1 (by simp), vC, if_pos rfl]; exact cnt_head 1 _ _ (by omega) (by omega)
                show max (cnt 0 (E.1.st.getD 0 []) ((E.1.st.length : Int) - 2)) (cnt 1 (E.1.st.getD 1 []) ((E.1.st.length : Int) - 2)) = _
                rw [nd, h1]
                rcases hk with hk | hk | hk | hk
                · omega
                · omega
                · omega
                · rw [hk, c0]; omega
              | done ed od qd vd =>
                rw [if_pos ed]
                have vE : ∀ i, E.1.st.getD i [] = if i = 0 then head 0 (J.c + ps.length) else C.1.st.getD i [] := by
                  intro i
                  rw [vd]
                  simp only [lay]
                  exact getD_set _ _ _ _ (by omega)
                have hvE : view E.1 = E.1.st := view_st qd
                refine .done rfl ⟨hsi, od, by show J.n = E.1.st.length; omega, n3, ?_, h.br⟩ qd rfl
                show Good (view E.1) (J.c + ps.length) (J.recs ++ rs)
                rw [hvE]
                refine ⟨soundB E.1 nd fun i hi => by rw [vE, if_neg (by omega), vC, if_neg (by omega)], .inl (by rw [vE, if_pos rfl]), .inl (by rw [vE, if_neg (by omega), vC, if_pos rfl])⟩
/-- How one head is restored on a disk that may be armed. -/
inductive RestEnd (D : Dk) (p c : Nat) (r : Dk × Int) : Prop
  | done (e : r.2 = 0) (on : r.1.off = false) (q : r.1.q = []) (hd : Hd r.1.st p c) (far : ∀ i, i ≠ p → r.1.st.getD i [] = D.st.getD i [])
  | cut (e : r.2 = 28) (off : r.1.off = true) (q : r.1.q = []) (bad : ¬ Hd D.st p c) (near : cnt p (r.1.st.getD p []) ((D.st.length : Int) - 2) ≤ c) (far : ∀ i, i ≠ p → r.1.st.getD i [] = D.st.getD i [])
theorem rest_inv {D : Dk} (p : Nat) (was : List UInt8) (c : Nat) (h : D.Inv) : (rest D p was c).1.Inv ∧ (rest D p was c).1.st.length = D.st.length := by
  unfold rest
  split
  · exact ⟨h, rfl⟩
  · simp only
    split
    · exact ⟨wr_inv _ _ (wr_inv _ _ h), by rw [wr_len, wr_len]⟩
    · exact ⟨wr_inv _ _ h, wr_len _ _ _⟩
theorem rest_armed {D : Dk} (p c : Nat) (hi : D.Inv) (ho : D.off = false) (hq : D.q = []) (hp : p < D.st.length) (hle : cnt p (D.st.getD p []) ((D.st.length : Int) - 2) ≤ c) : RestEnd D p c (rest D p (D.st.getD p []) c) := by
  have h4 := hi.hi
  have hc8 : (D.st.length : Int) - 2 < 10 ^ 8 := by omega
  by_cases h : Hd D.st p c
  · have e : rest D p (D.st.getD p []) c = (D, 0) := by unfold rest; exact if_pos h
    rw [e]; exact .done rfl ho hq h fun _ _ => rfl
  · have e : rest D p (D.st.getD p []) c = if (wr D p [zeros]).2 = 0 ∧ 0 < c then wr (wr D p [zeros]).1 p [head p c] else wr D p [zeros] := by unfold rest; exact if_neg h
    rw [e]
    have za := wr_armed (p := p) (xs := [zeros]) hi ho hq (by simp; omega) (by simp [zeros])
    have ia := wr_inv [zeros] p hi
    have na := wr_len [zeros] D p
    have hl : (D.st.getD p []).length = 64 := Dk.getD_len hi.sec hp
    generalize hA : wr D p [zeros] = A at *
    cases za with
    | cut ea oa qa va =>
      rw [if_neg (by omega)]
      refine .cut ea oa qa h ?_ fun i hi => va.far i (by simp; omega)
      obtain ⟨t, ht, hmix⟩ := va.near 0 (by simp)
      have hmix' : A.1.st.getD p [] = zeros.take t ++ (D.st.getD p []).drop t := hmix
      have hk := cnt_zero_torn (p := p) (room := (D.st.length : Int) - 2) ht hl
      rw [← hmix'] at hk
      rcases hk with hk | hk | hk
      · omega
      · omega
      · rw [hk]; exact hle
    | done ea oa qa va =>
      have vA : ∀ i, A.1.st.getD i [] = if i = p then zeros else D.st.getD i [] := by
        intro i
        rw [va]
        simp only [lay]
        exact getD_set _ _ _ _ hp
      by_cases hc : 0 < c
      · rw [if_pos ⟨ea, hc⟩]
        have zb := wr_armed (p := p) (xs := [head p c]) ia oa qa (by rw [na]; simp; omega) (by simp [head_length])
        generalize hB : wr A.1 p [head p c] = B at *
        cases zb with
        | cut eb ob qb vb =>
          refine .cut eb ob qb h ?_ fun i hi => by rw [vb.far i (by simp; omega), vA, if_neg hi]
          obtain ⟨t, ht, hmix⟩ := vb.near 0 (by simp)
          have hmix' : B.1.st.getD p [] = (head p c).take t ++ zeros.drop t := by
            have : B.1.st.getD p [] = (head p c).take t ++ (A.1.st.getD p []).drop t := hmix
            rw [this, vA, if_pos rfl]
          by_cases hcb : c < 10 ^ 8
          · have hk := cnt_torn (p := p) (c := c) (old := zeros) (t := t) (room := (D.st.length : Int) - 2) hcb hc8 rfl (.inl rfl)
            rw [← hmix'] at hk
            rcases hk with hk | hk | hk | hk
            · omega
            · omega
            · omega
            · rw [hk, cnt_zeros]; omega
          · have := cnt_le p (B.1.st.getD p []) ((D.st.length : Int) - 2)
            by_cases h2 : 0 ≤ (D.st.length : Int) - 2
            · have := this h2; omega
            · rcases cnt_cases p (B.1.st.getD p []) ((D.st.length : Int) - 2) with e | ⟨e, hz⟩ | ⟨m, e, h', hm⟩ <;> omega
        | done eb ob qb vb =>
          have vB : ∀ i, B.1.st.getD i [] = if i = p then head p c else A.1.st.getD i [] := by
            intro i
            rw [vb]
            simp only [lay]
            exact getD_set _ _ _ _ (by omega)
          exact .done eb ob qb (.inl (by rw [vB, if_pos rfl])) fun i hi => by rw [vB, if_neg hi, vA, if_neg hi]
      · rw [if_neg (fun e => hc e.2)]
        exact .done ea oa qa (.inr ⟨by omega, by rw [vA, if_pos rfl]⟩) fun i hi => by rw [vA, if_neg hi]
/-- How Open on a disk that may be armed ends, where there is something to be found. -/
inductive OpnEnd (D : Dk) (c : Nat) (recs : List (List UInt8)) (r : Dk × Option Jn × Int) : Prop
  | done (e : r.2.2 = 0) (j : r.2.1 = some ⟨D.st.length, c, recs, false⟩) (ok : Right r.1 ⟨D.st.length, c, recs, false⟩) (q : r.1.q = [])
  | cut (e : r.2.2 = 28) (j : r.2.1 = none) (off : r.1.off = true) (q : r.1.q = []) (inv : r.1.Inv) (len : r.1.st.length = D.st.length) (can : Can r.1.st c recs)
theorem opn_armed {D : Dk} {c : Nat} {recs : List (List UInt8)} (hi : D.Inv) (ho : D.off = false) (hq : D.q = []) (h3 : 3 ≤ D.st.length) (h : Can D.st c recs) : OpnEnd D c recs (opn D) := by
  have hv : view D = D.st := view_st hq
  have hm := h.most
  have h4 := hi.hi
  have e := opn_steps hi ho h3 (by rw [hv]; exact h)
  rw [hv] at e
  have z0 := rest_armed 0 c hi ho hq (by omega) (by omega)
  have i0 := rest_inv 0 (D.st.getD 0 []) c hi
  generalize hA : rest D 0 (D.st.getD 0 []) c = A at *
  cases z0 with
  | cut ea oa qa ba va fa =>
    rw [if_pos (by omega)] at e
    rw [e]
    have hne : cnt 0 (D.st.getD 0 []) ((D.st.length : Int) - 2) ≠ c := fun e' => ba (hd_cnt e')
    refine .cut ea rfl oa qa i0.1 i0.2 ⟨h.sound.same i0.2 fun i _ => fa _ (by omega), ?_⟩
    dsimp only
    rw [i0.2, fa 1 (by omega)]; omega
  | done ea oa qa ha fa =>
    rw [if_neg (by omega)] at e
    have z1 := rest_armed 1 c i0.1 oa qa (by omega) (by rw [i0.2, fa 1 (by omega)]; omega)
    rw [fa 1 (by omega)] at z1
    have i1 := rest_inv 1 (D.st.getD 1 []) c i0.1
    generalize hB : rest A.1 1 (D.st.getD 1 []) c = B at *
    have hlen : B.1.st.length = D.st.length := by rw [i1.2, i0.2]
    have hcr := h.sound.room
    cases z1 with
    | cut eb ob qb bb vb fb =>
      rw [if_pos (by omega)] at e
      rw [e]
      have c0 : cnt 0 (A.1.st.getD 0 []) ((D.st.length : Int) - 2) = c := cnt_hd ha (by omega) (by omega)
      rw [i0.2] at vb
      refine .cut eb rfl ob qb i1.1 hlen ⟨h.sound.same hlen fun i _ => by rw [fb _ (by omega), fa _ (by omega)], ?_⟩
      dsimp only
      rw [hlen, fb 0 (by omega), c0]; omega
    | done eb ob qb hb fb =>
      rw [if_neg (by omega)] at e
      rw [e]
      refine .done rfl rfl ⟨i1.1, ob, hlen.symm, h3, ?_, rfl⟩ qb
      show Good (view B.1) c recs
      rw [view_st qb]
      refine ⟨h.sound.same hlen fun i _ => by rw [fb _ (by omega), fa _ (by omega)], ?_, hb⟩
      unfold Hd at ha ⊢
      rw [fb 0 (by omega)]
      exact ha
/-- The power is cut with nothing pending, and turned on again. -/
theorem off_on {D : Dk} (hq : D.q = []) : (D.fail 0 0).start = { st := D.st, q := [], off := false, al := none } := by
  unfold Dk.fail Dk.start
  split
  · simp [hq]
  · simp only
    unfold Dk.failSt Dk.clamp
    rw [hq]
    simp [Dk.settle]
theorem off_on_any {D : Dk} (hq : D.q = []) (a b : Int) : (D.fail a b).start = { st := D.st, q := [], off := false, al := none } := by
  unfold Dk.fail Dk.start
  split
  · simp [hq]
  · simp only
    unfold Dk.failSt Dk.clamp
    rw [hq]
    simp [Dk.settle]
end Jr
end Go.Proofs.YthhkadeiplbdkaaDoor
