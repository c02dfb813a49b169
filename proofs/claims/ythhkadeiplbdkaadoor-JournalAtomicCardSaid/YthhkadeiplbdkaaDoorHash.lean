/- The digest of a text as plain data: its length, its letters, and that two texts of one length that part in one block have two digests. -/
import Derived.Test.YthhkadeiplbdkaaDoorProg
set_option linter.unusedVariables false
set_option linter.unusedSimpArgs false
namespace Go.Proofs.YthhkadeiplbdkaaDoor
namespace Hs

def M : Nat := 18446744073709551616
def c1 : Nat := 14029467366897019727
def c2 : Nat := 11400714785074694791
def mix (x : Nat) : Nat :=
  let a := (x ^^^ (x >>> 31)) * c1 % M
  let b := (a ^^^ (a >>> 27)) * c2 % M
  b ^^^ (b >>> 33)
/-- A number out of bytes, the greatest first. -/
def be (l : List UInt8) : Nat := l.foldl (fun a b => a * 256 + b.toNat) 0
/-- The k-th block of 8 bytes, filled with zeros. -/
def blk (s : List UInt8) (k : Nat) : List UInt8 := ((s.drop (8 * k)).take 8) ++ List.replicate (8 - ((s.drop (8 * k)).take 8).length) 0
def st0 (n : Nat) : Nat := 1442695040888963407 ^^^ n
/-- The state behind k blocks. -/
def st (s : List UInt8) : Nat → Nat
  | 0 => st0 s.length
  | k + 1 => mix (st s k ^^^ be (blk s k))
def hash (s : List UInt8) : Nat := st s (s.length / 8 + 1)
def hexd (d : Nat) : UInt8 := if d < 10 then UInt8.ofNat (48 + d) else UInt8.ofNat (87 + d)
/-- The last k hexadecimal digits. -/
def hex : Nat → Nat → List UInt8
  | 0, _ => []
  | k + 1, n => hex k (n / 16) ++ [hexd (n % 16)]
def sum (s : List UInt8) : List UInt8 := hex 16 (hash s)

theorem hex_length (k : Nat) : ∀ n, (hex k n).length = k := by
  induction k with
  | zero => intro n; rfl
  | succ k ih => intro n; simp [hex, ih]
theorem sum_length (s : List UInt8) : (sum s).length = 16 := hex_length 16 _
theorem hexd_injF : ∀ a b : Fin 16, hexd a.val = hexd b.val → a = b := by decide +kernel
theorem hexd_inj (a b : Nat) (ha : a < 16) (hb : b < 16) (h : hexd a = hexd b) : a = b := by
  have := hexd_injF ⟨a, ha⟩ ⟨b, hb⟩ h
  injection this
theorem hex_inj (k : Nat) : ∀ a b, a < 16 ^ k → b < 16 ^ k → hex k a = hex k b → a = b := by
  induction k with
  | zero => intro a b ha hb _; simp at ha hb; omega
  | succ k ih =>
    intro a b ha hb h
    simp only [hex] at h
    have h2 := List.append_inj h (by rw [hex_length, hex_length])
    have e1 := hexd_inj (a % 16) (b % 16) (Nat.mod_lt _ (by omega)) (Nat.mod_lt _ (by omega)) (by simpa using h2.2)
    have e2 := ih (a / 16) (b / 16) (by rw [Nat.pow_succ] at ha; omega) (by rw [Nat.pow_succ] at hb; omega) h2.1
    omega
theorem hex_cons (k : Nat) : ∀ n, hex (k + 1) n = hexd (n / 16 ^ k % 16) :: hex k n := by
  induction k with
  | zero => intro n; simp [hex]
  | succ k ih =>
    intro n
    have e : hex (k + 1 + 1) n = hex (k + 1) (n / 16) ++ [hexd (n % 16)] := rfl
    rw [e, ih (n / 16), Nat.div_div_eq_div_mul, show 16 * 16 ^ k = 16 ^ (k + 1) by rw [Nat.pow_succ]; omega]
    rfl
theorem hex_zero (k : Nat) : ∀ n, n < 16 ^ k → ∀ m, hex (m + k) n = List.replicate m 48 ++ hex k n := by
  intro n hn m
  induction m with
  | zero => simp
  | succ m ih =>
    have hp : n < 16 ^ (m + k) := Nat.lt_of_lt_of_le hn (Nat.pow_le_pow_right (by omega) (by omega))
    rw [show m + 1 + k = (m + k) + 1 by omega, hex_cons, ih, Nat.div_eq_of_lt hp]
    rfl
/-- A letter of a digest. -/
def isHex (c : UInt8) : Bool := (48 ≤ c && c ≤ 57) || (97 ≤ c && c ≤ 102)
theorem hexd_is : ∀ d, d < 16 → isHex (hexd d) = true := by decide +kernel
theorem hex_is (k : Nat) : ∀ n, ∀ c ∈ hex k n, isHex c = true := by
  induction k with
  | zero => intro n c hc; simp [hex] at hc
  | succ k ih =>
    intro n c hc
    simp only [hex, List.mem_append, List.mem_singleton] at hc
    rcases hc with hc | rfl
    · exact ih _ c hc
    · exact hexd_is _ (Nat.mod_lt _ (by omega))
theorem sum_is (s : List UInt8) : ∀ c ∈ sum s, isHex c = true := hex_is 16 _
theorem sum_nz (s : List UInt8) : ∀ c ∈ sum s, c ≠ 0 := by
  intro c hc h
  have := sum_is s c hc
  rw [h] at this
  exact absurd this (by decide)

theorem xor_lt {a b : Nat} (ha : a < M) (hb : b < M) : a ^^^ b < M := Nat.xor_lt_two_pow (n := 64) ha hb
theorem shr_lt {a : Nat} (k : Nat) (ha : a < M) : a >>> k < M := Nat.lt_of_le_of_lt (by rw [Nat.shiftRight_eq_div_pow]; exact Nat.div_le_self _ _) ha
theorem mix_lt (x : Nat) : mix x < M := by
  unfold mix
  simp only
  have : ((((x ^^^ (x >>> 31)) * c1 % M) ^^^ (((x ^^^ (x >>> 31)) * c1 % M) >>> 27)) * c2 % M) < M := Nat.mod_lt _ (by decide)
  exact xor_lt this (shr_lt _ this)

/-- x ^ x >> s has one source. -/
theorem xs_inj {s a b : Nat} (hs : 0 < s) (ha : a < M) (hb : b < M) (h : a ^^^ (a >>> s) = b ^^^ (b >>> s)) : a = b := by
  have big : ∀ i, 64 ≤ i → a.testBit i = b.testBit i := fun i hi => by
    have p : M ≤ 2 ^ i := by have := Nat.pow_le_pow_right (n := 2) (by omega) hi; exact this
    rw [Nat.testBit_lt_two_pow (Nat.lt_of_lt_of_le ha p), Nat.testBit_lt_two_pow (Nat.lt_of_lt_of_le hb p)]
  have all : ∀ k i, 64 - i ≤ k → a.testBit i = b.testBit i := by
    intro k
    induction k with
    | zero => intro i hi; exact big i (by omega)
    | succ k ih =>
      intro i hi
      rcases Nat.lt_or_ge i 64 with hlt | hge
      · have e := congrArg (fun n => n.testBit i) h
        simp only [Nat.testBit_xor, Nat.testBit_shiftRight] at e
        have e2 := ih (s + i) (by omega)
        rw [e2] at e
        revert e
        cases a.testBit i <;> cases b.testBit i <;> cases b.testBit (s + i) <;> simp
      · exact big i hge
  exact Nat.eq_of_testBit_eq fun i => all 64 i (by omega)
/-- Multiplying by a number that has an inverse has one source. -/
theorem mul_inj {c d a b : Nat} (hcd : c * d % M = 1) (ha : a < M) (hb : b < M) (h : a * c % M = b * c % M) : a = b := by
  have key : ∀ x, x < M → x = x * c % M * d % M := fun x hx => by
    rw [Nat.mod_mul_mod, Nat.mul_assoc, Nat.mul_mod, hcd, Nat.mul_one, Nat.mod_mod, Nat.mod_eq_of_lt hx]
  rw [key a ha, key b hb, h]
theorem mix_inj {a b : Nat} (ha : a < M) (hb : b < M) (h : mix a = mix b) : a = b := by
  unfold mix at h
  simp only at h
  have l1 : ∀ x, x % M < M := fun x => Nat.mod_lt _ (by decide)
  have h2 := xs_inj (by omega) (l1 _) (l1 _) h
  have h3 := mul_inj (c := c2) (d := 614540362697595703) (by decide) (xor_lt (l1 _) (shr_lt _ (l1 _))) (xor_lt (l1 _) (shr_lt _ (l1 _))) h2
  have h4 := xs_inj (by omega) (l1 _) (l1 _) h3
  have h5 := mul_inj (c := c1) (d := 839798700976720815) (by decide) (xor_lt ha (shr_lt _ ha)) (xor_lt hb (shr_lt _ hb)) h4
  exact xs_inj (by omega) ha hb h5

theorem be_snoc (l : List UInt8) (b : UInt8) : be (l ++ [b]) = be l * 256 + b.toNat := by simp [be, List.foldl_append]
theorem revRec {P : List UInt8 → Prop} (h0 : P []) (h1 : ∀ l b, P l → P (l ++ [b])) : ∀ l, P l := by
  intro l
  have : ∀ n (l : List UInt8), l.length = n → P l := by
    intro n
    induction n with
    | zero => intro l hl; rw [List.eq_nil_of_length_eq_zero hl]; exact h0
    | succ n ih =>
      intro l hl
      rcases List.eq_nil_or_concat l with rfl | ⟨m, c, rfl⟩
      · simp at hl
      · rw [List.concat_eq_append]
        exact h1 m c (ih m (by simpa using hl))
  exact this _ l rfl
theorem be_lt (l : List UInt8) : be l < 256 ^ l.length := by
  induction l using revRec with
  | h0 => simp [be]
  | h1 l b ih =>
    rw [be_snoc, List.length_append, List.length_singleton, Nat.pow_succ]
    have := b.toNat_lt
    omega
theorem be_inj (l : List UInt8) : ∀ l' : List UInt8, l.length = l'.length → be l = be l' → l = l' := by
  induction l using revRec with
  | h0 => intro l' h _; exact (List.eq_nil_of_length_eq_zero h.symm).symm
  | h1 l b ih =>
    intro l' h e
    rcases List.eq_nil_or_concat l' with rfl | ⟨m, c, rfl⟩
    · simp at h
    · rw [List.concat_eq_append] at h e ⊢
      rw [be_snoc, be_snoc] at e
      have hb := b.toNat_lt
      have hc := c.toNat_lt
      have h1 : be l = be m := by omega
      have h2 : b.toNat = c.toNat := by omega
      rw [ih m (by simpa using h) h1, UInt8.toNat_inj.1 h2]
theorem blk_length (s : List UInt8) (k : Nat) : (blk s k).length = 8 := by
  have := List.length_take_le 8 (s.drop (8 * k))
  simp only [blk, List.length_append, List.length_replicate]
  omega
theorem blk_lt (s : List UInt8) (k : Nat) : be (blk s k) < M := by
  have := be_lt (blk s k)
  rw [blk_length] at this
  exact this
theorem st0_lt {n : Nat} (h : n < M) : st0 n < M := xor_lt (by decide) h
theorem st_lt {s : List UInt8} (h : s.length < M) : ∀ k, st s k < M
  | 0 => st0_lt h
  | k + 1 => mix_lt _
theorem xor_inj_left {a b c : Nat} (h : a ^^^ b = a ^^^ c) : b = c := by
  have := congrArg (fun x => a ^^^ x) h
  simpa [← Nat.xor_assoc] using this
theorem xor_inj_right {a b c : Nat} (h : a ^^^ c = b ^^^ c) : a = b := by
  rw [Nat.xor_comm a, Nat.xor_comm b] at h
  exact xor_inj_left h
theorem st_agree {s t : List UInt8} (hl : s.length = t.length) : ∀ k, (∀ j, j < k → blk s j = blk t j) → st s k = st t k
  | 0, _ => by simp [st, hl]
  | k + 1, h => by simp [st, st_agree hl k fun j hj => h j (by omega), h k (by omega)]
/-- Two texts of one length that part in one block alone: two digests. -/
theorem sum_part {s t : List UInt8} (hl : s.length = t.length) (hm : s.length < M) (k : Nat) (hk : k ≤ s.length / 8) (hsame : ∀ j, j ≠ k → blk s j = blk t j) (hne : blk s k ≠ blk t k) : sum s ≠ sum t := by
  have hm' : t.length < M := hl ▸ hm
  have h1 : st s (k + 1) ≠ st t (k + 1) := by
    intro h
    simp only [st] at h
    have e := mix_inj (xor_lt (st_lt hm k) (blk_lt s k)) (xor_lt (st_lt hm' k) (blk_lt t k)) h
    rw [st_agree hl k fun j hj => hsame j (by omega)] at e
    exact hne (be_inj _ _ (by rw [blk_length, blk_length]) (xor_inj_left e))
  have h2 : ∀ j, st s (k + 1 + j) ≠ st t (k + 1 + j) := by
    intro j
    induction j with
    | zero => exact h1
    | succ j ih =>
      intro h
      rw [show k + 1 + (j + 1) = (k + 1 + j) + 1 from rfl] at h
      simp only [st] at h
      have e := mix_inj (xor_lt (st_lt hm _) (blk_lt s _)) (xor_lt (st_lt hm' _) (blk_lt t _)) h
      rw [hsame (k + 1 + j) (by omega)] at e
      exact ih (xor_inj_right e)
  intro h
  unfold sum at h
  have e := hex_inj 16 (hash s) (hash t) (st_lt hm _) (st_lt hm' _) h
  unfold hash at e
  rw [← hl] at e
  have := h2 (s.length / 8 - k)
  rw [show k + 1 + (s.length / 8 - k) = s.length / 8 + 1 by omega] at this
  exact this e
/-- One block of 8 bytes exchanged. -/
theorem sum_swap (A B B' C : List UInt8) (hA : A.length % 8 = 0) (hB : B.length = 8) (hB' : B'.length = 8) (hne : B ≠ B') (hm : (A ++ (B ++ C)).length < M) : sum (A ++ (B ++ C)) ≠ sum (A ++ (B' ++ C)) := by
  have hblk : ∀ (D : List UInt8) (j : Nat), D.length = 8 → blk (A ++ (D ++ C)) j = if 8 * j + 8 ≤ A.length then blk A j else if 8 * j = A.length then D else blk C (j - A.length / 8 - 1) := by
    intro D j hD
    by_cases h1 : 8 * j + 8 ≤ A.length
    · rw [if_pos h1]
      unfold blk
      rw [List.drop_append_of_le_length (by omega), List.take_append_of_le_length (by simp; omega)]
    · rw [if_neg h1]
      by_cases h2 : 8 * j = A.length
      · rw [if_pos h2]
        unfold blk
        have e : (A ++ (D ++ C)).drop (8 * j) = D ++ C := by rw [h2, List.drop_left]
        rw [e, List.take_append_of_le_length (by omega), List.take_of_length_le (by omega), hD]
        simp
      · rw [if_neg h2]
        unfold blk
        have e : (A ++ (D ++ C)).drop (8 * j) = C.drop (8 * (j - A.length / 8 - 1)) := by
          rw [List.drop_append, List.drop_of_length_le (by omega), List.nil_append, List.drop_append, List.drop_of_length_le (by omega), List.nil_append]
          congr 1
          omega
        rw [e]
  refine sum_part (by simp [hB, hB']) hm (A.length / 8) (by simp; omega) (fun j hj => ?_) ?_
  · rw [hblk B j hB, hblk B' j hB']
    by_cases h1 : 8 * j + 8 ≤ A.length
    · rw [if_pos h1, if_pos h1]
    · rw [if_neg h1, if_neg h1, if_neg (by omega), if_neg (by omega)]
  · rw [hblk B _ hB, hblk B' _ hB', if_neg (by omega), if_pos (by omega), if_neg (by omega), if_pos (by omega)]
    exact hne
end Hs
end Go.Proofs.YthhkadeiplbdkaaDoor
