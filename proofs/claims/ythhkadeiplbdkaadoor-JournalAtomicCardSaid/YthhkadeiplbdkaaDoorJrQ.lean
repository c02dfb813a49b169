/- The journal as plain data: digits read back, texts parsed back, counts and pieces of sound sectors. -/
import Derived.Test.YthhkadeiplbdkaaDoorJrP
set_option linter.unusedVariables false
set_option linter.unusedSimpArgs false
namespace Go.Proofs.YthhkadeiplbdkaaDoor
namespace Jr

theorem digc (n : Nat) : (UInt8.ofNat (48 + n % 10)).toNat = 48 + n % 10 := by
  have := Nat.mod_lt n (show 0 < 10 by omega)
  simp only [UInt8.toNat_ofNat']
  omega
theorem pow_pos10 (w : Nat) : 0 < 10 ^ w := Nat.pow_pos (by omega)
theorem mod_split (w n : Nat) : n / 10 % 10 ^ w * 10 + n % 10 = n % 10 ^ (w + 1) := by
  rw [Nat.pow_succ, Nat.mul_comm (10 ^ w) 10, Nat.mod_mul]; omega
theorem parse_dig (w : Nat) : ∀ n acc rest, (acc + 1) * 10 ^ w ≤ 10 ^ 18 → Lib.parseUint10 acc (dig w n ++ rest) = Lib.parseUint10 (acc * 10 ^ w + n % 10 ^ w) rest := by
  induction w with
  | zero => intro n acc rest _; simp [dig, Nat.mod_one]
  | succ w ih =>
    intro n acc rest h
    have hp := pow_pos10 w
    have h1 : (acc + 1) * 10 ^ w * 10 ≤ 10 ^ 18 := by rw [Nat.pow_succ, ← Nat.mul_assoc] at h; exact h
    have e : dig (w + 1) n ++ rest = dig w (n / 10) ++ (UInt8.ofNat (48 + n % 10) :: rest) := by simp [dig]
    have hm := Nat.mod_lt (n / 10) hp
    have h2 : acc * 10 ^ w + n / 10 % 10 ^ w < 10 ^ 17 := by
      have : (acc + 1) * 10 ^ w = acc * 10 ^ w + 10 ^ w := Nat.succ_mul _ _
      omega
    rw [e, ih (n / 10) acc _ (by omega)]
    have hd := Nat.mod_lt n (show 0 < 10 by omega)
    simp only [Lib.parseUint10]
    rw [digc, if_pos (by omega), if_neg (by omega), if_neg (by omega)]
    congr 1
    have h3 := mod_split w n
    rw [Nat.pow_succ, ← Nat.mul_assoc]
    rw [Nat.pow_succ] at h3
    omega
theorem dig_mem (w : Nat) : ∀ n, ∀ c ∈ dig w n, 48 ≤ c.toNat ∧ c.toNat ≤ 57 := by
  induction w with
  | zero => intro n c h; simp [dig] at h
  | succ w ih =>
    intro n c h
    simp only [dig, List.mem_append, List.mem_singleton] at h
    rcases h with h | rfl
    · exact ih _ c h
    · rw [digc]; have := Nat.mod_lt n (show 0 < 10 by omega); omega
theorem atoi_of_mag {l : List UInt8} {u : Nat} (hne : l ≠ []) (hm : ∀ c ∈ l, 48 ≤ c.toNat ∧ c.toNat ≤ 57) (h : Lib.parseUint10 0 l = .ok u) (hu : u < 9223372036854775808) : atoiV l = ((u : Int), true) := by
  cases l with
  | nil => exact absurd rfl hne
  | cons c r =>
    have hc := hm c (by simp)
    unfold atoiV Lib.atoiAll
    simp only
    rw [if_neg (show ¬ (c.toNat = 43 ∨ c.toNat = 45) by omega)]
    unfold Lib.parseMag
    rw [if_neg (by simp), h]
    simp only
    rw [if_neg (by omega), if_neg (by omega), if_neg (by omega)]
theorem atoi_dig (w n : Nat) (hw : w ≤ 17) (hn : n < 10 ^ (w + 1)) : atoiV (dig (w + 1) n) = ((n : Int), true) := by
  have hp : 10 ^ (w + 1) ≤ 10 ^ 18 := Nat.pow_le_pow_right (by omega) (by omega)
  have h := parse_dig (w + 1) n 0 [] (by omega)
  rw [List.append_nil, Nat.zero_mul, Nat.zero_add, Nat.mod_eq_of_lt hn] at h
  exact atoi_of_mag (by intro e; have := congrArg List.length e; rw [dig_length] at this; simp at this) (dig_mem _ _) (by rw [h]; rfl) (by omega)
theorem decs_dig (n : Nat) (h : n < 10 ^ 17) : ∃ w, w ≤ 17 ∧ n < 10 ^ (w + 1) ∧ decs n = dig (w + 1) n := by
  have h0 := Lib.nDigits_pos n
  have h1 := Lib.lt_pow_nDigits n
  obtain ⟨w, hw⟩ : ∃ w, Lib.nDigits n = w + 1 := ⟨Lib.nDigits n - 1, by omega⟩
  rw [hw] at h1
  have h2 := dig_dec w n h1
  have h3 := dig_dec 16 n h
  refine ⟨w, by omega, h1, ?_⟩
  rw [decs_eq n (by omega), ← h2.2, hw, Nat.sub_self]
  rfl
theorem atoi_decs (n : Nat) (h : n < 10 ^ 17) : atoiV (decs n) = ((n : Int), true) := by
  obtain ⟨w, h1, h2, h3⟩ := decs_dig n h
  rw [h3, atoi_dig w n h1 h2]
theorem decs_mem (n : Nat) (h : n < 10 ^ 17) : ∀ c ∈ decs n, 48 ≤ c.toNat ∧ c.toNat ≤ 57 := by
  obtain ⟨w, h1, h2, h3⟩ := decs_dig n h
  rw [h3]; exact dig_mem _ _
theorem index_at (ds : List UInt8) (r : List UInt8) (h : ∀ c ∈ ds, c ≠ 58) : Lib.index (ds ++ 58 :: r) [58] = (ds.length : Int) := by
  induction ds with
  | nil => simp [Lib.index, List.isPrefixOf]
  | cons d ds ih =>
    have hd := h d (by simp)
    have e := ih fun c hc => h c (by simp [hc])
    rw [List.cons_append, Lib.index, e, if_neg]
    · simp only [List.length_cons, beq_iff_eq]
      rw [if_neg (by omega)]
      omega
    · simp only [List.isPrefixOf, Bool.and_true, beq_iff_eq]
      exact fun e => hd e.symm
theorem cut_at (ds : List UInt8) (r : List UInt8) (h : ∀ c ∈ ds, c ≠ 58) : Lib.cut (ds ++ 58 :: r) [58] = (ds, r, true) := by
  unfold Lib.cut
  rw [index_at ds r h, if_pos (by omega), Int.toNat_natCast, List.take_left', List.drop_append, List.drop_of_length_le (by simp)]
  · simp
  · rfl
theorem cut_text (r rest : List UInt8) (h : r.length ≤ 20000) : Lib.cut (decs r.length ++ 58 :: (r ++ rest)) [58] = (decs r.length, r ++ rest, true) :=
  cut_at _ _ fun c hc e => by
    have := (decs_mem r.length (by omega) c hc).2
    rw [e] at this
    exact absurd this (by decide)
theorem parse_cons (r rest : List UInt8) (h : r.length ≤ 20000) : parse (decs r.length ++ 58 :: (r ++ rest)) = (parse rest).map (r :: ·) := by
  have hc := cut_text r rest h
  have ha := atoi_decs r.length (by omega)
  have hg : good (decs r.length ++ 58 :: (r ++ rest)) := (good_iff hc ha).2 ⟨rfl, rfl, by omega, by omega, by rw [Int.toNat_natCast], by rw [List.length_append]; omega⟩
  rw [parse_good (by simp) hg, hc]
  simp only
  rw [ha]
  simp only [Int.toNat_natCast, List.drop_left', List.take_left']
def short (rs : List (List UInt8)) : Prop := ∀ r ∈ rs, r.length ≤ 20000
theorem text_cons (r : List UInt8) (rs : List (List UInt8)) : text (r :: rs) = decs r.length ++ 58 :: (r ++ text rs) := by simp [text]
theorem text_append (a b : List (List UInt8)) : text (a ++ b) = text a ++ text b := by simp [text]
theorem parse_text (rs : List (List UInt8)) (h : short rs) : parse (text rs) = some rs := by
  induction rs with
  | nil => exact parse_nil
  | cons r rs ih =>
    rw [text_cons, parse_cons r _ (h r (by simp)), ih fun x hx => h x (by simp [hx])]
    rfl
theorem cut_back {s a b : List UInt8} (h : Lib.cut s [58] = (a, b, true)) : s = a ++ 58 :: b := by
  unfold Lib.cut at h
  rcases Lib.index_spec s [58] with ⟨h1, _⟩ | ⟨i, h1, h2, h3, _⟩
  · rw [h1, if_neg (by omega)] at h; simp at h
  · rw [h1, if_pos (by omega), Int.toNat_natCast] at h
    simp only [Prod.mk.injEq, List.length_singleton] at h
    have hc := Lib.occAt_head (t := []) rfl h3
    rw [← h.1, ← h.2.1]
    obtain ⟨hi, hx⟩ := List.getElem?_eq_some_iff.1 hc
    rw [← hx, ← List.drop_eq_getElem_cons hi, List.take_append_drop]
theorem parse_back (f : Nat) : ∀ s rs, s.length < f → parse s = some rs → s = text rs ∧ short rs := by
  induction f with
  | zero => intro s rs h; omega
  | succ f ih =>
    intro s rs hf h
    by_cases h0 : s = []
    · subst h0
      rw [parse_nil] at h
      injection h with h
      subst h
      exact ⟨rfl, fun r hr => by simp at hr⟩
    · by_cases hg : good s
      · have hl := cut_lt s 58 h0
        rw [parse_good h0 hg] at h
        obtain ⟨a, b, ok, hc⟩ : ∃ a b ok, Lib.cut s [58] = (a, b, ok) := ⟨_, _, _, rfl⟩
        obtain ⟨n, okn, ha⟩ : ∃ n okn, atoiV a = (n, okn) := ⟨_, _, rfl⟩
        obtain ⟨rfl, rfl, h1, h2, h3, h4⟩ := (good_iff hc ha).1 hg
        rw [hc] at h hl
        simp only at h hl
        rw [ha] at h
        simp only at h
        obtain ⟨m, rfl⟩ := Int.eq_ofNat_of_zero_le h1
        rw [Int.toNat_natCast] at h h3
        have hlen : (b.take m).length = m := by rw [List.length_take]; omega
        cases hp : parse (b.drop m) with
        | none => rw [hp] at h; simp at h
        | some ts =>
          rw [hp] at h
          simp only [Option.map_some, Option.some.injEq] at h
          obtain ⟨e1, e2⟩ := ih (b.drop m) ts (by rw [List.length_drop]; omega) hp
          subst h
          refine ⟨?_, ?_⟩
          · rw [text_cons, hlen, h3, ← e1, List.take_append_drop]
            exact cut_back hc
          · intro r hr
            rcases List.mem_cons.1 hr with rfl | hr
            · omega
            · exact e2 r hr
      · rw [parse_bad h0 hg] at h; cases h
theorem parse_iff {s : List UInt8} {rs : List (List UInt8)} (h : parse s = some rs) : s = text rs ∧ short rs := parse_back _ s rs (Nat.lt_succ_self _) h

theorem text_len (rs : List (List UInt8)) : rs.length ≤ (text rs).length := by
  induction rs with
  | nil => simp
  | cons r rs ih => rw [text_cons]; simp only [List.length_append, List.length_cons]; omega
theorem parse_len {s : List UInt8} {rs : List (List UInt8)} (h : parse s = some rs) : rs.length ≤ s.length := by
  obtain ⟨e, _⟩ := parse_iff h
  rw [e]; exact text_len rs

/-! Sealed sectors. -/
theorem take_left2 {α : Type} {a b : List α} {n : Nat} (h : a.length = n) : (a ++ b).take n = a := by subst h; exact List.take_left
theorem drop_left2 {α : Type} {a b : List α} {n : Nat} (h : a.length = n) : (a ++ b).drop n = b := by subst h; exact List.drop_left
theorem seal_drop (p : Nat) (c : List UInt8) : (seal_ p c).drop 16 = pad c := drop_left2 (Hs.sum_length _)
theorem dig_inj (w : Nat) : ∀ a b, a < 10 ^ w → b < 10 ^ w → dig w a = dig w b → a = b := by
  induction w with
  | zero => intro a b ha hb _; simp at ha hb; omega
  | succ w ih =>
    intro a b ha hb h
    simp only [dig] at h
    have h2 := List.append_inj h (by rw [dig_length, dig_length])
    rw [Nat.pow_succ] at ha hb
    have e1 := ih (a / 10) (b / 10) (by omega) (by omega) h2.1
    have e2 : UInt8.ofNat (48 + a % 10) = UInt8.ofNat (48 + b % 10) := by simpa using h2.2
    have e3 := congrArg UInt8.toNat e2
    rw [digc, digc] at e3
    omega
theorem head_field (p c : Nat) : ((head p c).drop 16).take 8 = dig 8 c := by
  unfold head
  rw [seal_drop]
  unfold pad
  exact take_left2 (dig_length 8 c)
theorem head_nz (p c : Nat) : head p c ≠ zeros := by
  intro h
  have h1 := congrArg (fun l : List UInt8 => (l.drop 16).take 8) h
  simp only [head_field] at h1
  have h2 : (48 : Nat) ≤ ((0 : UInt8)).toNat := (dig_mem 8 c 0 (by rw [h1]; simp [zeros])).1
  exact absurd h2 (by decide)
theorem cnt_zeros (p : Nat) (room : Int) : cnt p zeros room = 0 := by unfold cnt; rw [if_pos rfl]
theorem cnt_head (p c : Nat) (room : Int) (hc : c < 10 ^ 8) (hr : (c : Int) ≤ room) : cnt p (head p c) room = (c : Int) := by
  have h := atoi_dig 7 c (by omega) hc
  unfold cnt
  rw [if_neg (head_nz p c), head_field, h]
  simp only [Int.toNat_natCast]
  rw [if_pos]
  exact ⟨trivial, by omega, hr, trivial⟩
/-- What a count says. -/
theorem cnt_cases (p : Nat) (s : List UInt8) (room : Int) : cnt p s room = -1 ∨ (cnt p s room = 0 ∧ s = zeros) ∨ ∃ m : Nat, cnt p s room = (m : Int) ∧ (m : Int) ≤ room ∧ s = head p m := by
  unfold cnt
  split
  · rename_i h; exact .inr (.inl ⟨rfl, h⟩)
  · split
    · rename_i h
      obtain ⟨m, hm⟩ := Int.eq_ofNat_of_zero_le h.2.1
      refine .inr (.inr ⟨m, hm, by omega, ?_⟩)
      have := h.2.2.2
      rw [hm] at this
      exact this.symm
    · exact .inl rfl
theorem sect_field (p : Nat) (s : List UInt8) : ((sect p s).drop 16).take 2 = dig 2 s.length := by
  unfold sect
  rw [seal_drop]
  unfold pad
  rw [List.append_assoc]
  exact take_left2 (dig_length 2 _)
theorem sect_body (p : Nat) (s : List UInt8) : ((sect p s).drop 18).take s.length = s := by
  have e : (sect p s).drop 18 = ((sect p s).drop 16).drop 2 := by rw [List.drop_drop]
  rw [e]
  unfold sect
  rw [seal_drop]
  unfold pad
  rw [List.append_assoc, drop_left2 (dig_length 2 _)]
  exact take_left2 rfl
theorem piece_sect (p : Nat) (s : List UInt8) (h1 : 1 ≤ s.length) (h2 : s.length ≤ 46) : piece p (sect p s) = some s := by
  have h := atoi_dig 1 s.length (by omega) (by omega)
  unfold piece
  rw [sect_field, h]
  simp only [Int.toNat_natCast]
  rw [sect_body, if_pos ⟨by omega, by omega, rfl⟩]
theorem piece_some {p : Nat} {s x : List UInt8} (hl : s.length = 64) (h : piece p s = some x) : s = sect p x ∧ 1 ≤ x.length ∧ x.length ≤ 46 := by
  unfold piece at h
  simp only at h
  split at h
  · rename_i hc
    injection h with h
    subst h
    refine ⟨hc.2.2.symm, ?_, ?_⟩
    · rw [List.length_take, List.length_drop]; omega
    · rw [List.length_take]; omega
  · cases h
end Jr
end Go.Proofs.YthhkadeiplbdkaaDoor
