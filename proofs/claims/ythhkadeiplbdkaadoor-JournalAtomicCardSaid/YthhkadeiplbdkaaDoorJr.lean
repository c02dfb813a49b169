/- The journal as plain data. -/
import Derived.Test.YthhkadeiplbdkaaDoorDigW3
set_option linter.unusedVariables false
set_option linter.unusedSimpArgs false
namespace Go.Proofs.YthhkadeiplbdkaaDoor
namespace Jr

/-- The last w decimal digits. -/
def dig : Nat → Nat → List UInt8
  | 0, _ => []
  | w + 1, n => dig w (n / 10) ++ [UInt8.ofNat (48 + n % 10)]
theorem dig_length (w : Nat) : ∀ n, (dig w n).length = w := by
  induction w with
  | zero => intro n; rfl
  | succ w ih => intro n; simp [dig, ih]
theorem dig_zero (w : Nat) : dig w 0 = List.replicate w 48 := by
  induction w with
  | zero => rfl
  | succ w ih => simp only [dig, Nat.zero_div, Nat.zero_mod, ih]; rw [List.replicate_succ']; rfl
theorem dig_dec (w : Nat) : ∀ n, n < 10 ^ (w + 1) → Lib.nDigits n ≤ w + 1 ∧ List.replicate (w + 1 - Lib.nDigits n) 48 ++ Lib.decDigits n = dig (w + 1) n := by
  induction w with
  | zero =>
    intro n hn
    have h : n < 10 := by simpa using hn
    rw [Lib.nDigits_small h, Lib.decDigits_one h]
    refine ⟨Nat.le_refl _, ?_⟩
    simp [dig, Nat.mod_eq_of_lt h]
  | succ w ih =>
    intro n hn
    by_cases h : n < 10
    · rw [Lib.nDigits_small h, Lib.decDigits_one h]
      refine ⟨by omega, ?_⟩
      have e : dig (w + 1 + 1) n = dig (w + 1) (n / 10) ++ [UInt8.ofNat (48 + n % 10)] := rfl
      rw [e, Nat.div_eq_of_lt h, dig_zero, Nat.mod_eq_of_lt h]
      rfl
    · have h2 : n / 10 < 10 ^ (w + 1) := by rw [Nat.pow_succ] at hn; omega
      have h3 := ih (n / 10) h2
      rw [Lib.nDigits_big h]
      refine ⟨by omega, ?_⟩
      have e : dig (w + 1 + 1) n = dig (w + 1) (n / 10) ++ [UInt8.ofNat (48 + n % 10)] := rfl
      rw [e, ← h3.2, Lib.decDigits, dif_neg h, show w + 1 + 1 - (Lib.nDigits (n / 10) + 1) = w + 1 - Lib.nDigits (n / 10) by omega, List.append_assoc]
/-- The decimal digits of a number, reckoned on fuel. -/
def decf : Nat → Nat → List UInt8
  | 0, _ => []
  | f + 1, n => if n < 10 then [UInt8.ofNat (48 + n)] else decf f (n / 10) ++ [UInt8.ofNat (48 + n % 10)]
def decs (n : Nat) : List UInt8 := decf 20 n
theorem decf_eq (f : Nat) : ∀ n, n < 10 ^ f → 0 < f → decf f n = Lib.decDigits n := by
  induction f with
  | zero => intro n _ h; omega
  | succ f ih =>
    intro n hn _
    unfold decf
    rw [Lib.decDigits]
    by_cases h : n < 10
    · rw [if_pos h, dif_pos h]
    · rw [if_neg h, dif_neg h]
      rw [Nat.pow_succ] at hn
      have hf : 0 < f := by
        rcases Nat.eq_zero_or_pos f with h0 | h0
        · subst h0; simp at hn; omega
        · exact h0
      rw [ih (n / 10) (by omega) hf]
theorem decs_eq (n : Nat) (h : n < 10 ^ 20) : decs n = Lib.decDigits n := decf_eq 20 n h (by omega)
theorem itoa_nat (n : Nat) (h : n < 10 ^ 20) : Lib.itoa (n : Int) = decs n := by
  unfold Lib.itoa
  rw [if_neg (by omega), decs_eq n h, Int.toNat_natCast]

def zeros : List UInt8 := List.replicate 64 0
def pad (c : List UInt8) : List UInt8 := c ++ List.replicate (48 - c.length) 0
def seal_ (p : Nat) (c : List UInt8) : List UInt8 := Hs.sum (dig 8 p ++ pad c) ++ pad c
def head (p c : Nat) : List UInt8 := seal_ p (dig 8 c)
def sect (p : Nat) (s : List UInt8) : List UInt8 := seal_ p (dig 2 s.length ++ s)
theorem pad_length {c : List UInt8} (h : c.length ≤ 48) : (pad c).length = 48 := by simp [pad]; omega
theorem seal_length (p : Nat) {c : List UInt8} (h : c.length ≤ 48) : (seal_ p c).length = 64 := by simp [seal_, Hs.sum_length, pad_length h]
theorem head_length (p c : Nat) : (head p c).length = 64 := seal_length p (by rw [dig_length]; omega)
theorem sect_length (p : Nat) {s : List UInt8} (h : s.length ≤ 46) : (sect p s).length = 64 := seal_length p (by rw [List.length_append, dig_length]; omega)
/-- The count of a head; -1 if it is not valid. -/
def cnt (p : Nat) (s : List UInt8) (room : Int) : Int :=
  if s = zeros then 0
  else if (atoiV ((s.drop 16).take 8)).2 = true ∧ 0 ≤ (atoiV ((s.drop 16).take 8)).1 ∧ (atoiV ((s.drop 16).take 8)).1 ≤ room ∧ head p (atoiV ((s.drop 16).take 8)).1.toNat = s then (atoiV ((s.drop 16).take 8)).1 else -1
/-- The pieces of a text. -/
def pieces (l : List UInt8) : List (List UInt8) := (List.range ((l.length + 45) / 46)).map fun i => (l.drop (46 * i)).take 46
/-- The text of records. -/
def text (rs : List (List UInt8)) : List UInt8 := rs.flatMap fun r => decs r.length ++ 58 :: r
/-- The records of a text. -/
def parseF : Nat → List UInt8 → Option (List (List UInt8))
  | 0, _ => none
  | f + 1, s =>
    if s = [] then some []
    else
      let c := Lib.cut s [58]
      let n := (atoiV c.1).1
      if c.2.2 = true ∧ (atoiV c.1).2 = true ∧ 0 ≤ n ∧ n ≤ 20000 ∧ decs n.toNat = c.1 ∧ n ≤ (c.2.1.length : Int) then (parseF f (c.2.1.drop n.toNat)).map (c.2.1.take n.toNat :: ·)
      else none
def parse (s : List UInt8) : Option (List (List UInt8)) := parseF (s.length + 1) s
/-- The piece of a sector, if it has one. -/
def piece (p : Nat) (s : List UInt8) : Option (List UInt8) :=
  let n := (atoiV ((s.drop 16).take 2)).1
  if 1 ≤ n ∧ n ≤ 46 ∧ sect p ((s.drop 18).take n.toNat) = s then some ((s.drop 18).take n.toNat) else none
/-- Writing sectors from a place on, then Sync. -/
def wr : Dk → Nat → List (List UInt8) → Dk × Int
  | D, _, [] => D.sync
  | D, p, s :: r => if (D.write p (Dk.str s)).2 = 0 then wr (D.write p (Dk.str s)).1 (p + 1) r else D.write p (Dk.str s)
end Jr
/-- A journal: its number of sectors, its count, its records, whether it is broken. -/
structure Jn where
  n : Nat
  c : Nat
  recs : List (List UInt8)
  br : Bool
namespace Jr
def full (p : Nat) (ps : List (List UInt8)) : List (List UInt8) := (List.range ps.length).map fun i => sect (p + i) (ps.getD i [])
/-- The steps of an Append, one after the other. -/
def steps (D : Dk) (J : Jn) (ps : List (List UInt8)) : Dk × Int :=
  let a := wr D (2 + J.c) (ps.map fun _ => zeros)
  if a.2 ≠ 0 then a else
  let b := wr a.1 (2 + J.c) (full (2 + J.c) ps)
  if b.2 ≠ 0 then b else
  let c := wr b.1 1 [head 1 (J.c + ps.length)]
  if c.2 ≠ 0 then c else
  wr c.1 0 [head 0 (J.c + ps.length)]
def long (rs : List (List UInt8)) : Bool := rs.any fun r => decide (20000 < r.length)
def app (D : Dk) (J : Jn) (rs : List (List UInt8)) : Dk × Jn × Int :=
  if J.br then (D, J, 11)
  else if long rs then (D, J, 2)
  else if J.n < 2 + J.c + (pieces (text rs)).length then (D, J, 29)
  else if rs = [] then (D, J, 0)
  else
    let a := steps D J (pieces (text rs))
    if a.2 = 0 then (a.1, { J with c := J.c + (pieces (text rs)).length, recs := J.recs ++ rs }, 0)
    else (a.1, { J with br := true }, a.2)
/-- One head is restored if it is not in order. -/
def rest (D : Dk) (p : Nat) (was : List UInt8) (c : Nat) : Dk × Int :=
  if was = head p c ∨ (c = 0 ∧ was = zeros) then (D, 0)
  else
    let a := wr D p [zeros]
    if a.2 = 0 ∧ 0 < c then wr a.1 p [head p c] else a
def curL (D : Dk) (i : Nat) : List UInt8 := (D.cur i).data.toList
/-- The pieces of the first c sectors of the room. -/
def found (D : Dk) : Nat → Option (List UInt8)
  | 0 => some []
  | i + 1 => match found D i with
    | none => none
    | some a => (piece (2 + i) (curL D (2 + i))).map (a ++ ·)
/-- Open: the disk, the journal if there is one, the error. -/
def opn (D : Dk) : Dk × Option Jn × Int :=
  if D.off then (D, none, 28)
  else if D.st.length < 3 then (D, none, 1)
  else
    let c := max (cnt 0 (curL D 0) ((D.st.length : Int) - 2)) (cnt 1 (curL D 1) ((D.st.length : Int) - 2))
    if c < 0 then (D, none, 27)
    else match found D c.toNat with
    | none => (D, none, 27)
    | some t => match parse t with
      | none => (D, none, 27)
      | some rs =>
        let a := rest D 0 (curL D 0) c.toNat
        if a.2 ≠ 0 then (a.1, none, a.2) else
        let b := rest a.1 1 (curL D 1) c.toNat
        if b.2 ≠ 0 then (b.1, none, b.2) else
        (b.1, some { n := D.st.length, c := c.toNat, recs := rs, br := false }, 0)
end Jr
end Go.Proofs.YthhkadeiplbdkaaDoor
