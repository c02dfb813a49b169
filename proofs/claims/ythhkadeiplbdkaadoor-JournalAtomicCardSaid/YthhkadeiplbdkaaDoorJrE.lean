/- The journal as plain data: Open on whatever lies on a disk; a byte that rots. -/
import Derived.Test.YthhkadeiplbdkaaDoorJrD
set_option linter.unusedVariables false
set_option linter.unusedSimpArgs false
namespace Go.Proofs.YthhkadeiplbdkaaDoor
namespace Jr

/-- What Open will find. -/
structure Can (V : List (List UInt8)) (c : Nat) (recs : List (List UInt8)) : Prop where
  sound : Sound V c recs
  most : max (cnt 0 (V.getD 0 []) ((V.length : Int) - 2)) (cnt 1 (V.getD 1 []) ((V.length : Int) - 2)) = (c : Int)
theorem Good.can {V : List (List UInt8)} {c : Nat} {recs : List (List UInt8)} (h : Good V c recs) (hl : V.length ≤ 4000) : Can V c recs := by
  have hr := h.sound.room
  have c0 := cnt_hd (room := (V.length : Int) - 2) h.h0 (by omega) (by omega)
  have c1 := cnt_hd (room := (V.length : Int) - 2) h.h1 (by omega) (by omega)
  exact ⟨h.sound, by rw [c0, c1]; omega⟩
theorem hd_cnt {V : List (List UInt8)} {p c : Nat} {room : Int} (h : cnt p (V.getD p []) room = (c : Int)) : Hd V p c := by
  rcases cnt_cases p (V.getD p []) room with e | ⟨e, hz⟩ | ⟨m, e, _, hm⟩
  · omega
  · exact .inr ⟨by omega, hz⟩
  · obtain rfl : m = c := by omega
    exact .inl hm
theorem cnt_le (p : Nat) (s : List UInt8) (room : Int) (h : 0 ≤ room) : cnt p s room ≤ room := by
  rcases cnt_cases p s room with e | ⟨e, hz⟩ | ⟨m, e, h', hm⟩ <;> omega
/-- Open, step by step. -/
theorem opn_steps {D : Dk} {c : Nat} {recs : List (List UInt8)} (hi : D.Inv) (ho : D.off = false) (h3 : 3 ≤ D.st.length) (h : Can (view D) c recs) :
    opn D = (if (rest D 0 ((view D).getD 0 []) c).2 ≠ 0 then ((rest D 0 ((view D).getD 0 []) c).1, none, (rest D 0 ((view D).getD 0 []) c).2) else
      if (rest (rest D 0 ((view D).getD 0 []) c).1 1 ((view D).getD 1 []) c).2 ≠ 0 then ((rest (rest D 0 ((view D).getD 0 []) c).1 1 ((view D).getD 1 []) c).1, none, (rest (rest D 0 ((view D).getD 0 []) c).1 1 ((view D).getD 1 []) c).2) else
        ((rest (rest D 0 ((view D).getD 0 []) c).1 1 ((view D).getD 1 []) c).1, some { n := D.st.length, c := c, recs := recs, br := false }, 0)) := by
  have v0 : curL D 0 = (view D).getD 0 [] := curL_view hi 0
  have v1 : curL D 1 = (view D).getD 1 [] := curL_view hi 1
  obtain ⟨ps, e1, e2, e3, e4⟩ := h.sound.data
  have hf := found_sound hi e1 e2 e3
  rw [e4] at hf
  have hm := h.most
  rw [view_length] at hm
  unfold opn
  rw [ho, if_neg (by simp), if_neg (by omega), v0, v1]
  simp only [hm, Int.toNat_natCast]
  rw [if_neg (by omega), hf]
  simp only
  rw [parse_text _ h.sound.short]
/-- Open finds nothing, or finds something. -/
theorem opn_or {D : Dk} (hi : D.Inv) (ho : D.off = false) (h3 : 3 ≤ D.st.length) : opn D = (D, none, 27) ∨ ∃ c recs, Can (view D) c recs := by
  have v0 : curL D 0 = (view D).getD 0 [] := curL_view hi 0
  have v1 : curL D 1 = (view D).getD 1 [] := curL_view hi 1
  have l0 := cnt_le 0 ((view D).getD 0 []) ((D.st.length : Int) - 2) (by omega)
  have l1 := cnt_le 1 ((view D).getD 1 []) ((D.st.length : Int) - 2) (by omega)
  have hM : ∃ M, max (cnt 0 ((view D).getD 0 []) ((D.st.length : Int) - 2)) (cnt 1 ((view D).getD 1 []) ((D.st.length : Int) - 2)) = M := ⟨_, rfl⟩
  obtain ⟨M, hM⟩ := hM
  by_cases hneg : M < 0
  · left
    unfold opn
    rw [ho, if_neg (by simp), if_neg (by omega), v0, v1]
    simp only [hM]
    rw [if_pos hneg]
  · obtain ⟨c, rfl⟩ := Int.eq_ofNat_of_zero_le (show 0 ≤ M by omega)
    cases hf : found D c with
    | none =>
      left
      unfold opn
      rw [ho, if_neg (by simp), if_neg (by omega), v0, v1]
      simp only [hM, Int.toNat_natCast]
      rw [if_neg hneg, hf]
    | some t =>
      cases hp : parse t with
      | none =>
        left
        unfold opn
        rw [ho, if_neg (by simp), if_neg (by omega), v0, v1]
        simp only [hM, Int.toNat_natCast]
        rw [if_neg hneg, hf]
        simp only
        rw [hp]
      | some rs =>
        right
        obtain ⟨e1, e2⟩ := parse_iff hp
        have hroom : 2 + c ≤ D.st.length := by omega
        obtain ⟨ps, f1, f2, f3, f4⟩ := found_back hi c t hroom hf
        exact ⟨c, rs, ⟨by rw [view_length]; exact hroom, ⟨ps, f1, f2, f3, by rw [f4, e1]⟩, e2⟩, by rw [view_length]; exact hM⟩
/-- One head is restored, on a disk that is on and not armed. -/
structure Rest (D : Dk) (p c : Nat) (D' : Dk) : Prop where
  eq : rest D p ((view D).getD p []) c = (D', 0)
  ready : Ready D'
  inv : D'.Inv
  q : D.q = [] → D'.q = []
  hd : Hd (view D') p c
  view : ∀ i, i ≠ p → (view D').getD i [] = (view D).getD i []
  n : D'.st.length = D.st.length
theorem rest_ready {D : Dk} (p c : Nat) (hr : Ready D) (hi : D.Inv) (hp : p < D.st.length) : ∃ D', Rest D p c D' := by
  by_cases h : Hd (view D) p c
  · exact ⟨D, by unfold rest; exact if_pos h, hr, hi, id, h, fun _ _ => rfl, rfl⟩
  · obtain ⟨Da, wa⟩ := wr_view p [zeros] hr hi (by simp; omega) (by simp [zeros])
    have l1 : (view D).length = D.st.length := view_length D
    have va : ∀ i, (view Da).getD i [] = if i = p then zeros else (view D).getD i [] := by
      intro i
      rw [wa.view]
      simp only [lay]
      exact getD_set _ _ _ _ (by omega)
    by_cases hc : 0 < c
    · obtain ⟨Db, wb⟩ := wr_view p [head p c] wa.ready wa.inv (by rw [wa.n]; simp; omega) (by simp [head_length])
      have vb : ∀ i, (view Db).getD i [] = if i = p then head p c else (view Da).getD i [] := by
        intro i
        rw [wb.view]
        simp only [lay]
        exact getD_set _ _ _ _ (by rw [view_length, wa.n]; omega)
      refine ⟨Db, ?_, wb.ready, wb.inv, fun _ => wb.q, .inl (by rw [vb, if_pos rfl]), fun i hne => by rw [vb, if_neg hne, va, if_neg hne], by rw [wb.n, wa.n]⟩
      unfold rest
      rw [if_neg (show ¬ ((view D).getD p [] = head p c ∨ (c = 0 ∧ (view D).getD p [] = zeros)) from h)]
      simp only [wa.eq]
      rw [if_pos ⟨trivial, hc⟩, wb.eq]
    · refine ⟨Da, ?_, wa.ready, wa.inv, fun _ => wa.q, .inr ⟨by omega, by rw [va, if_pos rfl]⟩, fun i hne => by rw [va, if_neg hne], wa.n⟩
      unfold rest
      rw [if_neg (show ¬ ((view D).getD p [] = head p c ∨ (c = 0 ∧ (view D).getD p [] = zeros)) from h)]
      simp only [wa.eq]
      rw [if_neg (fun e => hc e.2)]
/-- Open on a disk that is on and not armed, where it finds something. -/
theorem opn_can {D : Dk} {c : Nat} {recs : List (List UInt8)} (hi : D.Inv) (hr : Ready D) (h3 : 3 ≤ D.st.length) (h : Can (view D) c recs) :
    ∃ D', opn D = (D', some ⟨D.st.length, c, recs, false⟩, 0) ∧ Right D' ⟨D.st.length, c, recs, false⟩ ∧ D'.al = none ∧ (D.q = [] → D'.q = []) := by
  obtain ⟨Da, ra⟩ := rest_ready 0 c hr hi (by omega)
  obtain ⟨Db, rb⟩ := rest_ready 1 c ra.ready ra.inv (by rw [ra.n]; omega)
  have e := opn_steps hi hr.1 h3 h
  have hb := rb.eq
  rw [ra.view 1 (by omega)] at hb
  rw [ra.eq] at e
  simp only [hb, ne_eq, not_true_eq_false, if_false] at e
  refine ⟨Db, e, ⟨rb.inv, rb.ready.1, by show D.st.length = _; rw [rb.n, ra.n], h3, ⟨?_, ?_, rb.hd⟩, rfl⟩, rb.ready.2, fun hq => rb.q (ra.q hq)⟩
  · refine h.sound.same (by rw [view_length, view_length, rb.n, ra.n]) fun i _ => ?_
    rw [rb.view _ (by omega), ra.view _ (by omega)]
  · have := ra.hd
    unfold Hd at this ⊢
    rw [rb.view 0 (by omega)]
    exact this

/-! A byte that rots. -/
theorem head_take (p c : Nat) : (head p c).take 16 = Hs.sum (dig 8 p ++ pad (dig 8 c)) := take_left2 (Hs.sum_length _)
theorem head_take_inj {p c m : Nat} (hc : c < 10 ^ 8) (hm : m < 10 ^ 8) (h : (head p c).take 16 = (head p m).take 16) : c = m := by
  rw [head_take, head_take] at h
  by_cases e : dig 8 c = dig 8 m
  · exact dig_inj 8 c m hc hm e
  · exfalso
    unfold pad at h
    rw [dig_length, dig_length] at h
    exact Hs.sum_swap (dig 8 p) (dig 8 c) (dig 8 m) _ (by rw [dig_length]) (dig_length _ _) (dig_length _ _) e (by simp only [List.length_append, dig_length, List.length_replicate]; decide) h
theorem head_drop_inj {p c m : Nat} (hc : c < 10 ^ 8) (hm : m < 10 ^ 8) (h : (head p c).drop 16 = (head p m).drop 16) : c = m := by
  have h1 := congrArg (List.take 8) h
  rw [head_field, head_field] at h1
  exact dig_inj 8 c m hc hm h1
theorem take_sum_ne {s : List UInt8} (h : ∃ t, s.take 16 = Hs.sum t) {i : Nat} (hi : i < 16) : s.getD i 0 ≠ 0 := by
  obtain ⟨t, ht⟩ := h
  have hl := congrArg List.length ht
  rw [Hs.sum_length, List.length_take] at hl
  have e : s.getD i 0 = (Hs.sum t).getD i 0 := by
    rw [← ht, List.getD_eq_getElem?_getD, List.getD_eq_getElem?_getD, List.getElem?_take, if_pos hi]
  rw [e, List.getD_eq_getElem?_getD, List.getElem?_eq_getElem (by rw [Hs.sum_length]; exact hi)]
  exact Hs.sum_nz t _ (List.getElem_mem _)
theorem head_ne0 (p c : Nat) {i : Nat} (hi : i < 16) : (head p c).getD i 0 ≠ 0 := take_sum_ne ⟨_, head_take p c⟩ hi
theorem zeros_at (i : Nat) : zeros.getD i 0 = 0 := by
  unfold zeros
  rw [List.getD_eq_getElem?_getD, List.getElem?_replicate]
  split <;> rfl
theorem set_at (s : List UInt8) (j i : Nat) (b : UInt8) : (s.set j b).getD i 0 = if i = j ∧ j < s.length then b else s.getD i 0 := by
  simp only [List.getD_eq_getElem?_getD, List.getElem?_set]
  by_cases h : j = i
  · subst h
    rw [if_pos rfl]
    by_cases h2 : j < s.length
    · rw [if_pos h2, if_pos ⟨rfl, h2⟩]; rfl
    · rw [if_neg h2, if_neg (by omega), List.getElem?_eq_none (by omega)]
  · rw [if_neg h, if_neg (by omega)]
theorem cnt_flip {p c : Nat} {s : List UInt8} {j : Nat} {b : UInt8} {room : Int} (hc : c < 10 ^ 8) (hr : room < 10 ^ 8) (h : s = head p c ∨ s = zeros) (hj : j < 64) (hb : b ≠ s.getD j 0) : cnt p (s.set j b) room = -1 := by
  have hl : s.length = 64 := by
    rcases h with h | h
    · rw [h]; exact head_length p c
    · rw [h]; rfl
  have hset : s.set j b = s → False := fun e => by
    have := congrArg (fun l : List UInt8 => l.getD j 0) e
    simp only [set_at] at this
    rw [if_pos ⟨trivial, by omega⟩] at this
    exact hb this
  have hk : ∃ k, k < 16 ∧ k ≠ j := by
    by_cases h0 : j = 0
    · exact ⟨1, by omega, by omega⟩
    · exact ⟨0, by omega, by omega⟩
  obtain ⟨k, hk, hkj⟩ := hk
  have hsk : (s.set j b).getD k 0 = s.getD k 0 := by rw [set_at, if_neg (fun e => hkj e.1)]
  rcases cnt_cases p (s.set j b) room with e | ⟨e, hz⟩ | ⟨m, e, hm1, hm⟩
  · exact e
  · exfalso
    rcases h with h | h
    · rw [hz, zeros_at, h] at hsk
      exact head_ne0 p c hk hsk.symm
    · exact hset (hz.trans h.symm)
  · exfalso
    have hm8 : m < 10 ^ 8 := by omega
    rcases h with h | h
    · have : m = c := by
        by_cases h16 : j < 16
        · refine (head_drop_inj (p := p) hc hm8 ?_).symm
          rw [← hm, List.drop_set_of_lt h16, h]
        · refine (head_take_inj (p := p) hc hm8 ?_).symm
          rw [← hm, List.take_set_of_le (by omega), h]
      rw [this] at hm
      exact hset (hm.trans h.symm)
    · rw [hm, h, zeros_at] at hsk
      exact head_ne0 p m hk hsk
theorem m_big : 57 ≤ Hs.M := by decide +kernel
theorem sum_set (A X : List UInt8) {i : Nat} {b : UInt8} (hA : A.length = 8) (hX : X.length = 48) (hi : i < 48) (h : Hs.sum (A ++ X) = Hs.sum (A ++ X.set i b)) : X.set i b = X := by
  have key : ∀ Y : List UInt8, Y.length = 48 → ∀ a, a ≤ 5 → Y = Y.take (8 * a) ++ ((Y.drop (8 * a)).take 8 ++ Y.drop (8 * a + 8)) := by
    intro Y hY a ha
    rw [← List.drop_drop, List.take_append_drop, List.take_append_drop]
  have ha : i / 8 ≤ 5 := by omega
  have k1 := key X hX (i / 8) ha
  have k2 := key (X.set i b) (by rw [List.length_set]; exact hX) (i / 8) ha
  rw [List.take_set_of_le (by omega), List.drop_set_of_lt (show i < 8 * (i / 8) + 8 by omega)] at k2
  by_cases e : (X.drop (8 * (i / 8))).take 8 = ((X.set i b).drop (8 * (i / 8))).take 8
  · rw [← e] at k2
    exact k2.trans k1.symm
  · exfalso
    have h' : Hs.sum ((A ++ X.take (8 * (i / 8))) ++ ((X.drop (8 * (i / 8))).take 8 ++ X.drop (8 * (i / 8) + 8))) = Hs.sum ((A ++ X.take (8 * (i / 8))) ++ (((X.set i b).drop (8 * (i / 8))).take 8 ++ X.drop (8 * (i / 8) + 8))) := by
      rw [List.append_assoc, List.append_assoc, ← k1, ← k2]
      exact h
    refine Hs.sum_swap (A ++ X.take (8 * (i / 8))) _ _ _ ?_ ?_ ?_ e ?_ h'
    · rw [List.length_append, List.length_take, hA, hX]; omega
    · rw [List.length_take, List.length_drop, hX]; omega
    · rw [List.length_take, List.length_drop, List.length_set, hX]; omega
    · have k3 : (A ++ X.take (8 * (i / 8)) ++ ((X.drop (8 * (i / 8))).take 8 ++ X.drop (8 * (i / 8) + 8))).length = 56 := by
        rw [List.append_assoc, ← k1, List.length_append, hA, hX]
      rw [k3]
      exact m_big
theorem sect_flip {p : Nat} {x y : List UInt8} {j : Nat} {b : UInt8} (hx : x.length ≤ 46) (hy : y.length ≤ 46) (hj : j < 64) (h : (sect p x).set j b = sect p y) : (sect p x).set j b = sect p x := by
  have hlx : (dig 2 x.length ++ x).length ≤ 48 := by rw [List.length_append, dig_length]; omega
  have tk : ∀ z, (sect p z).take 16 = Hs.sum (dig 8 p ++ pad (dig 2 z.length ++ z)) := fun z => take_left2 (Hs.sum_length _)
  have dk : ∀ z, (sect p z).drop 16 = pad (dig 2 z.length ++ z) := fun z => seal_drop p _
  by_cases h16 : j < 16
  · have h1 := congrArg (List.drop 16) h
    rw [List.drop_set_of_lt h16] at h1
    have h2 := congrArg (List.take 2) h1
    rw [sect_field, sect_field] at h2
    have hlen := dig_inj 2 _ _ (by omega) (by omega) h2
    have h3 := congrArg (List.drop 2) h1
    rw [List.drop_drop, List.drop_drop] at h3
    have h4 := congrArg (List.take x.length) h3
    rw [sect_body, hlen, sect_body] at h4
    rw [h, h4]
  · have h1 := congrArg (List.take 16) h
    rw [List.take_set_of_le (by omega), tk, tk] at h1
    have h2 : (pad (dig 2 x.length ++ x)).set (j - 16) b = pad (dig 2 y.length ++ y) := by
      rw [← dk x, ← dk y, ← h]
      rw [List.drop_set, if_neg (by omega)]
    rw [← h2] at h1
    have h3 := sum_set (dig 8 p) _ (dig_length 8 p) (pad_length hlx) (by omega) h1
    have e : sect p x = Hs.sum (dig 8 p ++ pad (dig 2 x.length ++ x)) ++ pad (dig 2 x.length ++ x) := rfl
    rw [e, List.set_append_right _ _ (by rw [Hs.sum_length]; omega), Hs.sum_length, h3]
theorem view_st {D : Dk} (h : D.q = []) : view D = D.st := by unfold view; rw [h]; rfl
theorem xor_ne (x y : UInt8) (h : y ≠ 0) : x ^^^ y ≠ x := by
  intro e
  apply h
  have : x ^^^ (x ^^^ y) = x ^^^ x := by rw [e]
  rwa [← UInt8.xor_assoc, UInt8.xor_self, UInt8.zero_xor] at this
/-- One byte rots: Open finds the records, or says that the journal is damaged. -/
theorem rot_opn {D : Dk} {J : Jn} (h : Right D J) (ha : D.al = none) (hq : D.q = []) (s j m : Int) :
    ((2 ≤ s ∧ s < 2 + J.c ∧ D.rotOk s j m = true) ∧ opn (D.rot s j m) = (D.rot s j m, none, 27)) ∨ (¬ (2 ≤ s ∧ s < 2 + J.c ∧ D.rotOk s j m = true) ∧ ∃ D', opn (D.rot s j m) = (D', some J, 0) ∧ Right D' J ∧ D'.al = none ∧ D'.q = []) := by
  by_cases hok : D.rotOk s j m = true
  · have hv := hok
    simp only [Dk.rotOk, Dk.valid, Bool.and_eq_true, decide_eq_true_eq] at hv
    obtain ⟨⟨⟨⟨⟨v1, v2⟩, v3⟩, v4⟩, v5⟩, v6⟩ := hv
    obtain ⟨i, rfl⟩ := Int.eq_ofNat_of_zero_le v1
    obtain ⟨k, rfl⟩ := Int.eq_ofNat_of_zero_le v3
    obtain ⟨b, hb⟩ : ∃ b, ((D.st.getD i []).getD k 0 ^^^ UInt8.ofNat m.toNat) = b := ⟨_, rfl⟩
    have hbne : b ≠ (D.st.getD i []).getD k 0 := by
      rw [← hb]
      refine xor_ne _ _ fun e => ?_
      have := congrArg UInt8.toNat e
      simp only [UInt8.toNat_ofNat'] at this
      have : m.toNat % 256 = 0 := this
      omega
    have hrot : D.rot i k m = { D with st := D.st.set i ((D.st.getD i []).set k b) } := by
      unfold Dk.rot Dk.flip
      rw [if_pos hok, Int.toNat_natCast, Int.toNat_natCast, hb]
    have hin := Dk.rot_inv h.inv i k m
    obtain ⟨E, hE⟩ : ∃ E, D.rot i k m = E := ⟨_, rfl⟩
    rw [hE] at hrot hin ⊢
    have hEr : Ready E := by rw [hrot]; exact ⟨h.on, ha⟩
    have hEq : E.q = [] := by rw [hrot]; exact hq
    have hEn : E.st.length = D.st.length := by rw [hrot]; simp
    have hi1 : i < D.st.length := by omega
    have hvE : ∀ x, (view E).getD x [] = if x = i then (D.st.getD i []).set k b else (view D).getD x [] := by
      intro x
      rw [view_st hEq, view_st hq, hrot]
      exact getD_set _ _ _ _ hi1
    have hvi : (view D).getD i [] = D.st.getD i [] := by rw [view_st hq]
    have hn := h.n
    have hc := h.c
    have h4 := h.n4
    have h3 := h.n3
    have hJ : J = ⟨D.st.length, J.c, J.recs, false⟩ := by
      have hb := h.br
      cases J
      simp only at hn hb ⊢
      subst hn; subst hb; rfl
    have fin : Can (view E) J.c J.recs → ∃ D', opn E = (D', some J, 0) ∧ Right D' J ∧ D'.al = none ∧ D'.q = [] := by
      intro hcan
      obtain ⟨D', e1, e2, e3, e4⟩ := opn_can hin hEr (by omega) hcan
      rw [hEn, ← hJ] at e1 e2
      exact ⟨D', e1, e2, e3, e4 hEq⟩
    have hlE : (view E).length = D.st.length := by rw [view_length, hEn]
    have hlD : (view D).length = D.st.length := view_length D
    have g0 := h.good.h0
    have g1 := h.good.h1
    have c0 := cnt_hd (room := (D.st.length : Int) - 2) g0 (by omega) (by omega)
    have c1 := cnt_hd (room := (D.st.length : Int) - 2) g1 (by omega) (by omega)
    have hdz : ∀ p, Hd (view D) p J.c → (view D).getD p [] = head p J.c ∨ (view D).getD p [] = zeros := fun p h => h.elim .inl fun h => .inr h.2
    by_cases i0 : i = 0
    · right
      refine ⟨fun h => by omega, fin ⟨h.good.sound.same (by rw [hlE, hlD]) fun x _ => by rw [hvE, if_neg (by omega)], ?_⟩⟩
      subst i0
      rw [hlE, hvE, hvE, if_pos rfl, if_neg (by omega), c1]
      have hf := cnt_flip (p := 0) (c := J.c) (s := D.st.getD 0 []) (j := k) (b := b) (room := (D.st.length : Int) - 2) (by omega) (by omega) (by rw [← hvi]; exact hdz 0 g0) (by omega) hbne
      rw [hf]; omega
    · by_cases i1 : i = 1
      · right
        refine ⟨fun h => by omega, fin ⟨h.good.sound.same (by rw [hlE, hlD]) fun x _ => by rw [hvE, if_neg (by omega)], ?_⟩⟩
        subst i1
        rw [hlE, hvE, hvE, if_neg (by omega), if_pos rfl, c0]
        have hf := cnt_flip (p := 1) (c := J.c) (s := D.st.getD 1 []) (j := k) (b := b) (room := (D.st.length : Int) - 2) (by omega) (by omega) (by rw [← hvi]; exact hdz 1 g1) (by omega) hbne
        rw [hf]; omega
      · by_cases i2 : i < 2 + J.c
        · left
          refine ⟨⟨by omega, by omega, hok⟩, ?_⟩
          rcases opn_or hin hEr.1 (by omega) with e | ⟨c', recs', hcan⟩
          · exact e
          · exfalso
            have hm := hcan.most
            rw [hlE, hvE, hvE, if_neg (by omega), if_neg (by omega), c0, c1] at hm
            obtain rfl : c' = J.c := by omega
            obtain ⟨qs, q1, q2, q3, q4⟩ := hcan.sound.data
            obtain ⟨ps, p1, p2, p3, p4⟩ := h.good.sound.data
            have a1 := q2 (i - 2) (by omega)
            have a2 := p2 (i - 2) (by omega)
            rw [show 2 + (i - 2) = i by omega] at a1 a2
            rw [hvE, if_pos rfl] at a1
            rw [hvi] at a2
            rw [a2] at a1 hbne
            have hpl := p3 _ (getD_mem (ps := ps) (i := i - 2) (by omega))
            have hql := q3 _ (getD_mem (ps := qs) (i := i - 2) (by omega))
            have := sect_flip hpl.2 hql.2 (show k < 64 by omega) a1
            have := congrArg (fun l : List UInt8 => l.getD k 0) this
            simp only [set_at] at this
            rw [if_pos ⟨trivial, by rw [sect_length _ hpl.2]; omega⟩] at this
            exact hbne this
        · right
          refine ⟨fun h => by omega, fin ⟨h.good.sound.same (by rw [hlE, hlD]) fun x _ => by rw [hvE, if_neg (by omega)], ?_⟩⟩
          rw [hlE, hvE, hvE, if_neg (by omega), if_neg (by omega), c0, c1]
          omega
  · right
    have e : D.rot s j m = D := by unfold Dk.rot; rw [if_neg hok]
    rw [e]
    exact ⟨fun h => hok h.2.2, D, opn_right h, h, ha, hq⟩
/-- A byte of a head rots: nothing is lost. -/
theorem rot_head {D : Dk} {J : Jn} (h : Right D J) (ha : D.al = none) (hq : D.q = []) (s j m : Int) (hs : s < 2) : ∃ D', opn (D.rot s j m) = (D', some J, 0) ∧ Right D' J ∧ D'.al = none ∧ D'.q = [] := by
  rcases rot_opn h ha hq s j m with ⟨h1, _⟩ | ⟨_, h2⟩
  · omega
  · exact h2
theorem rot_data {D : Dk} {J : Jn} (h : Right D J) (ha : D.al = none) (hq : D.q = []) (s j m : Int) (h1 : 2 ≤ s) (h2 : s < 2 + J.c) (h3 : D.rotOk s j m = true) : opn (D.rot s j m) = (D.rot s j m, none, 27) := by
  rcases rot_opn h ha hq s j m with ⟨_, h⟩ | ⟨h, _⟩
  · exact h
  · exact absurd ⟨h1, h2, h3⟩ h
end Jr
end Go.Proofs.YthhkadeiplbdkaaDoor
