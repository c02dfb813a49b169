/- The disk as plain data: what its functions compute. -/
import Derived.Test.YthhkadeiplbdkaaDoorBase
import Derived.Lib.Strings
namespace Go.Proofs.YthhkadeiplbdkaaDoor
open Go.RowKit

/-- A disk: the sectors' stable bytes, the pending writes, whether it is off, the alarm. -/
structure Dk where
  st : List (List UInt8)
  q : List (Nat × ByteArray)
  off : Bool
  al : Option (Int × Int × Int)

namespace Dk

def zeroSec : List UInt8 := List.replicate 64 0
def new (n : Nat) : Dk := { st := List.replicate n zeroSec, q := [], off := false, al := none }
/-- The first bytes of a sector are replaced. -/
def over (bs old : List UInt8) : List UInt8 := bs ++ old.drop bs.length
def put (st : List (List UInt8)) (i : Nat) (bs : List UInt8) : List (List UInt8) := st.set i (over bs (st.getD i []))
def settle (st : List (List UInt8)) (q : List (Nat × ByteArray)) : List (List UInt8) := q.foldl (fun s p => put s p.1 p.2.data.toList) st
def clamp (x : Int) (n : Nat) : Nat := min x.toNat n
def failSt (D : Dk) (wr by_ : Int) : List (List UInt8) :=
  match D.q[clamp wr D.q.length]? with
  | some p => put (settle D.st (D.q.take (clamp wr D.q.length))) p.1 (p.2.data.toList.take (clamp by_ 64))
  | none => settle D.st (D.q.take (clamp wr D.q.length))
def fail (D : Dk) (wr by_ : Int) : Dk := if D.off then D else { st := D.failSt wr by_, q := [], off := true, al := none }
def count (D : Dk) : Dk × Int :=
  match D.al with
  | none => (D, 0)
  | some (a, b, c) => if 0 < a then ({ D with al := some (a - 1, b, c) }, 0) else (D.fail b c, 28)
def valid (D : Dk) (i : Int) : Bool := decide (0 ≤ i) && decide (i < (D.st.length : Int))
def write (D : Dk) (i : Int) (s : ByteArray) : Dk × Int :=
  if D.off then (D, 28)
  else if D.valid i then
    if s.size = 64 then ({ D with q := D.q ++ [(i.toNat, s)] } : Dk).count else (D, 1)
  else (D, 1)
def str (l : List UInt8) : ByteArray := ⟨l.toArray⟩
/-- The text of the last pending write, or else the stable bytes. -/
def cur (D : Dk) (i : Nat) : ByteArray :=
  match D.q.reverse.find? (fun p => p.1 == i) with
  | some p => p.2
  | none => str (D.st.getD i [])
def read (D : Dk) (i : Int) : ByteArray × Int :=
  if D.off then (str [], 28) else if D.valid i then (D.cur i.toNat, 0) else (str [], 1)
def sync (D : Dk) : Dk × Int :=
  if D.off then (D, 28)
  else if D.count.2 = 0 then ({ D.count.1 with st := settle D.count.1.st D.count.1.q, q := [] }, 0) else D.count
def arm (D : Dk) (a b c : Int) : Dk := if D.off then D else if 0 ≤ a then { D with al := some (a, b, c) } else { D with al := none }
def start (D : Dk) : Dk := { D with off := false, al := none }
def flip (bs : List UInt8) (j : Nat) (m : Int) : List UInt8 := bs.set j (bs.getD j 0 ^^^ UInt8.ofNat m.toNat)
def rotOk (D : Dk) (i j m : Int) : Bool := D.valid i && decide (0 ≤ j) && decide (j < 64) && decide (0 < m) && decide (m < 256)
def rot (D : Dk) (i j m : Int) : Dk := if D.rotOk i j m then { D with st := D.st.set i.toNat (flip (D.st.getD i.toNat []) j.toNat m) } else D
def raw (D : Dk) : ByteArray := str D.st.flatten

def i64 (x : Int) : Prop := -9223372036854775808 ≤ x ∧ x ≤ 9223372036854775807
/-- What holds of every disk. -/
structure Inv (D : Dk) : Prop where
  lo : 1 ≤ D.st.length
  hi : D.st.length ≤ 4000
  sec : ∀ s ∈ D.st, s.length = 64
  pend : ∀ p ∈ D.q, p.1 < D.st.length ∧ p.2.size = 64
  alarm : ∀ a b c, D.al = some (a, b, c) → 0 ≤ a ∧ i64 a ∧ i64 b ∧ i64 c
  quiet : D.off = true → D.q = [] ∧ D.al = none

theorem over_length {bs old : List UInt8} (h : bs.length ≤ old.length) : (over bs old).length = old.length := by
  unfold over; rw [List.length_append, List.length_drop]; omega
theorem getD_len {st : List (List UInt8)} (h : ∀ s ∈ st, s.length = 64) {i : Nat} (hi : i < st.length) : (st.getD i []).length = 64 := by
  rw [List.getD_eq_getElem?_getD, List.getElem?_eq_getElem hi]; exact h _ (List.getElem_mem hi)
theorem put_length (st : List (List UInt8)) (i : Nat) (bs : List UInt8) : (put st i bs).length = st.length := by simp [put]
theorem put_sec {st : List (List UInt8)} (h : ∀ s ∈ st, s.length = 64) {i : Nat} (hi : i < st.length) {bs : List UInt8} (hb : bs.length ≤ 64) : ∀ s ∈ put st i bs, s.length = 64 := by
  intro s hs
  rcases List.mem_or_eq_of_mem_set hs with hs | rfl
  · exact h s hs
  · rw [over_length (by rw [getD_len h hi]; exact hb), getD_len h hi]
theorem settle_length (q : List (Nat × ByteArray)) : ∀ st, (settle st q).length = st.length := by
  induction q with
  | nil => intro st; rfl
  | cons p q ih => intro st; show (settle (put st p.1 p.2.data.toList) q).length = _; rw [ih, put_length]
theorem data_len (s : ByteArray) : s.data.toList.length = s.size := Array.length_toList
theorem settle_sec (q : List (Nat × ByteArray)) : ∀ st, (∀ s ∈ st, s.length = 64) → (∀ p ∈ q, p.1 < st.length ∧ p.2.size = 64) → ∀ s ∈ settle st q, s.length = 64 := by
  induction q with
  | nil => intro st h _; exact h
  | cons p q ih =>
    intro st h hq
    have hp := hq p (by simp)
    refine ih (put st p.1 p.2.data.toList) (put_sec h hp.1 (by rw [data_len]; omega)) (fun x hx => ?_)
    rw [put_length]; exact hq x (by simp [hx])

theorem put_nil (st : List (List UInt8)) (i : Nat) : put st i [] = st := by
  unfold put over
  rw [List.nil_append, List.length_nil, List.drop_zero]
  apply List.ext_getElem? fun j => ?_
  rw [List.getElem?_set]
  split
  · rename_i e; subst e
    split
    · rename_i h; rw [List.getD_eq_getElem?_getD, List.getElem?_eq_getElem h]; rfl
    · rename_i h; rw [List.getElem?_eq_none (by omega)]
  · rfl
theorem settle_snoc (st : List (List UInt8)) (q : List (Nat × ByteArray)) (p : Nat × ByteArray) : settle st (q ++ [p]) = put (settle st q) p.1 p.2.data.toList := by simp [settle, List.foldl_append]
theorem failSt_length (D : Dk) (a b : Int) : (D.failSt a b).length = D.st.length := by
  unfold failSt; split <;> simp [put_length, settle_length]
theorem mem_of_take {α : Type} {l : List α} {n : Nat} {x : α} (h : x ∈ l.take n) : x ∈ l := List.mem_of_mem_take h
theorem failSt_sec {D : Dk} (h : D.Inv) (a b : Int) : ∀ s ∈ D.failSt a b, s.length = 64 := by
  have h1 : ∀ s ∈ settle D.st (D.q.take (clamp a D.q.length)), s.length = 64 := settle_sec _ _ h.sec fun p hp => h.pend p (mem_of_take hp)
  unfold failSt
  split
  · rename_i p hp
    refine put_sec h1 ?_ ?_
    · rw [settle_length]; exact (h.pend p (List.mem_of_getElem? hp)).1
    · rw [List.length_take, data_len]; unfold clamp; omega
  · exact h1
theorem fail_inv {D : Dk} (h : D.Inv) (a b : Int) : (D.fail a b).Inv := by
  unfold fail
  split
  · exact h
  · exact ⟨by simp [failSt_length, h.lo], by simp [failSt_length, h.hi], failSt_sec h a b, by simp, by simp, by simp⟩
theorem count_inv {D : Dk} (h : D.Inv) : D.count.1.Inv := by
  unfold count
  split
  · exact h
  · rename_i a b c hal
    split
    · rename_i ha
      refine ⟨h.lo, h.hi, h.sec, h.pend, ?_, fun ho => ?_⟩
      · intro x y z hx
        simp only [Option.some.injEq, Prod.mk.injEq] at hx
        obtain ⟨rfl, rfl, rfl⟩ := hx
        have := h.alarm a b c hal
        unfold i64 at *
        omega
      · have := (h.quiet ho).2; rw [hal] at this; cases this
    · exact fail_inv h b c
theorem write_inv {D : Dk} (h : D.Inv) (i : Int) (s : ByteArray) : (D.write i s).1.Inv := by
  unfold write
  split
  · exact h
  · rename_i hoff
    split
    · rename_i hv
      split
      · rename_i hs
        refine count_inv ⟨h.lo, h.hi, h.sec, ?_, h.alarm, fun ho => absurd ho hoff⟩
        intro p hp
        rcases List.mem_append.1 hp with hp | hp
        · exact h.pend p hp
        · obtain rfl : p = (i.toNat, s) := by simpa using hp
          simp only [valid, Bool.and_eq_true, decide_eq_true_eq] at hv
          exact ⟨by show i.toNat < D.st.length; omega, hs⟩
      · exact h
    · exact h
theorem count_off (D : Dk) (h : D.off = false) (h0 : D.count.2 = 0) : D.count.1.off = false ∧ D.count.1.st = D.st ∧ D.count.1.q = D.q := by
  unfold count at *
  split
  · exact ⟨h, rfl, rfl⟩
  · rename_i a b c hal
    split
    · exact ⟨h, rfl, rfl⟩
    · rename_i ha
      simp [hal, ha] at h0
theorem sync_inv {D : Dk} (h : D.Inv) : D.sync.1.Inv := by
  unfold sync
  split
  · exact h
  · rename_i hoff
    split
    · rename_i h0
      have hc := count_inv h
      have ho := count_off D (by simpa using hoff) h0
      exact ⟨by simpa [settle_length] using hc.lo, by simpa [settle_length] using hc.hi, settle_sec _ _ hc.sec hc.pend, by simp, hc.alarm, fun h' => absurd h' (by simp [ho.1])⟩
    · exact count_inv h
theorem start_inv {D : Dk} (h : D.Inv) : D.start.Inv := ⟨h.lo, h.hi, h.sec, h.pend, by simp [start], by simp [start]⟩
theorem arm_inv {D : Dk} (h : D.Inv) (a b c : Int) (ha : i64 a) (hb : i64 b) (hc : i64 c) : (D.arm a b c).Inv := by
  unfold arm
  split
  · exact h
  · rename_i hoff
    split
    · rename_i h0
      refine ⟨h.lo, h.hi, h.sec, h.pend, ?_, fun ho => absurd ho hoff⟩
      intro x y z hx
      simp only [Option.some.injEq, Prod.mk.injEq] at hx
      obtain ⟨rfl, rfl, rfl⟩ := hx
      exact ⟨h0, ha, hb, hc⟩
    · exact ⟨h.lo, h.hi, h.sec, h.pend, by simp, fun ho => absurd ho hoff⟩
theorem str_size (l : List UInt8) : (str l).size = l.length := by simp [str, ByteArray.size]
theorem str_data (s : ByteArray) : str s.data.toList = s := by cases s; rfl
theorem flip_length (bs : List UInt8) (j : Nat) (m : Int) : (flip bs j m).length = bs.length := by simp [flip]
theorem rot_inv {D : Dk} (h : D.Inv) (i j m : Int) : (D.rot i j m).Inv := by
  unfold rot
  split
  · rename_i hr
    have hi : i.toNat < D.st.length := by
      simp only [rotOk, valid, Bool.and_eq_true, decide_eq_true_eq] at hr
      omega
    refine ⟨by simpa using h.lo, by simpa using h.hi, ?_, by simpa using h.pend, h.alarm, h.quiet⟩
    intro s hs
    rcases List.mem_or_eq_of_mem_set hs with hs | rfl
    · exact h.sec s hs
    · rw [flip_length, getD_len h.sec hi]
  · exact h
theorem new_inv (n : Nat) (h1 : 1 ≤ n) (h2 : n ≤ 4000) : (new n).Inv := by
  refine ⟨by simpa [new] using h1, by simpa [new] using h2, ?_, by simp [new], by simp [new], by simp [new]⟩
  intro s hs
  simp only [new, List.mem_replicate] at hs
  rw [hs.2]; rfl
theorem flat_length {st : List (List UInt8)} (h : ∀ s ∈ st, s.length = 64) : st.flatten.length = 64 * st.length := by
  induction st with
  | nil => rfl
  | cons a st ih =>
    rw [List.flatten_cons, List.length_append, ih (fun s hs => h s (by simp [hs])), h a (by simp), List.length_cons]; omega
theorem flat_split {st : List (List UInt8)} (h : ∀ s ∈ st, s.length = 64) {i : Nat} (hi : i < st.length) :
    ∃ A C, st.flatten = A ++ (st.getD i [] ++ C) ∧ A.length = 64 * i ∧ (∀ x, (st.set i x).flatten = A ++ (x ++ C)) := by
  refine ⟨(st.take i).flatten, (st.drop (i + 1)).flatten, ?_, ?_, fun x => ?_⟩
  · have e : st = st.take i ++ (st.getD i [] :: st.drop (i + 1)) := by
      rw [List.getD_eq_getElem?_getD, List.getElem?_eq_getElem hi, Option.getD_some, ← List.drop_eq_getElem_cons hi, List.take_append_drop]
    have := congrArg List.flatten e
    rw [List.flatten_append, List.flatten_cons] at this
    exact this
  · rw [flat_length (fun s hs => h s (List.mem_of_mem_take hs)), List.length_take]; omega
  · rw [List.set_eq_take_append_cons_drop, if_pos hi, List.flatten_append, List.flatten_cons]
theorem flat_put {st : List (List UInt8)} (h : ∀ s ∈ st, s.length = 64) {i : Nat} (hi : i < st.length) {bs : List UInt8} (hb : bs.length ≤ 64) :
    (put st i bs).flatten = st.flatten.take (i * 64) ++ bs ++ st.flatten.drop (i * 64 + bs.length) := by
  obtain ⟨A, C, e1, e2, e3⟩ := flat_split h hi
  have hl := getD_len h hi
  unfold put over
  have d1 : (A ++ (st.getD i [] ++ C)).take (i * 64) = A := by
    rw [List.take_append_of_le_length (by omega), List.take_of_length_le (by omega)]
  have d2 : (A ++ (st.getD i [] ++ C)).drop (i * 64 + bs.length) = (st.getD i []).drop bs.length ++ C := by
    rw [List.drop_append, List.drop_of_length_le (by omega), List.nil_append, show i * 64 + bs.length - A.length = bs.length by omega, List.drop_append_of_le_length (by omega)]
  rw [e3, e1, d1, d2, List.append_assoc, List.append_assoc]
theorem flat_sec {st : List (List UInt8)} (h : ∀ s ∈ st, s.length = 64) {i : Nat} (hi : i < st.length) (j : Nat) (hj : j < 64) : st.flatten.getD (i * 64 + j) 0 = (st.getD i []).getD j 0 := by
  obtain ⟨A, C, e1, e2, e3⟩ := flat_split h hi
  have hl := getD_len h hi
  rw [e1, List.getD_eq_getElem?_getD, List.getElem?_append_right (by omega), show i * 64 + j - A.length = j by omega, List.getElem?_append_left (by omega), List.getD_eq_getElem?_getD (l := st.getD i [])]
theorem flat_flip {st : List (List UInt8)} (h : ∀ s ∈ st, s.length = 64) {i : Nat} (hi : i < st.length) (j : Nat) (hj : j < 64) (x : UInt8) : (st.set i ((st.getD i []).set j x)).flatten = st.flatten.set (i * 64 + j) x := by
  obtain ⟨A, C, e1, e2, e3⟩ := flat_split h hi
  have hl := getD_len h hi
  rw [e3, e1, List.set_append_right _ _ (by omega), show i * 64 + j - A.length = j by omega, List.set_append_left _ _ (by omega)]
theorem new_flat (n : Nat) : (new n).st.flatten = List.replicate (64 * n) 0 := by
  show (List.replicate n zeroSec).flatten = _
  unfold zeroSec
  rw [List.flatten_replicate_replicate, Nat.mul_comm]
end Dk

theorem byteCells_at (l : List UInt8) (i : Nat) (h : i < l.length) : (Lib.byteCells l).toArray[i]? = some (.int .u8 ((l.getD i 0).toNat : Int)) := by
  simp [Lib.byteCells, List.getElem?_eq_getElem h, List.getD_eq_getElem?_getD]
theorem str_beq (s t : ByteArray) : (s.toList == t.toList) = decide (s = t) := by
  rw [ByteArray.toList_eq, ByteArray.toList_eq]
  by_cases h : s = t
  · subst h; simp
  · rw [decide_eq_false h, beq_eq_false_iff_ne]
    intro e
    apply h
    apply ByteArray.ext
    exact Array.toList_inj.1 e
theorem str_ne {s t : ByteArray} (h : ¬ s = t) : (s.toList == t.toList) = false := by rw [str_beq, decide_eq_false h]
/-- string(b) of bytes that lie in a row. -/
theorem convert_bytes {P : Program} (w : World) (src dst e : TypeId) (hs : P.underlying src = some (.slice e)) (he : P.underlying e = some (.int .u8)) (hd : P.underlying dst = some .string) (b off len cap : Nat)
    (xs : List UInt8) (hlen : xs.length = len) (hc : ∀ i, i < len → w.cell? ⟨b, off + i, none⟩ = some (.int .u8 ((xs.getD i 0).toNat : Int))) :
    (convert src dst (.slice (some ⟨b, off, none⟩) len cap)).run P w = .ok (.string (Dk.str xs)) w := by
  have h := run_convert_bytes_arg (P := P) w src e hs he b off len cap (xs.map fun c => (c.toNat : Int)) (by simpa using hlen) (fun i hi => by
    rw [hc i hi]
    simp [List.getD_eq_getElem?_getD, List.getElem?_eq_getElem (hlen ▸ hi)]) dst hd
  rw [h]
  congr 1
  congr 1
  unfold strOfNums Dk.str
  congr 2
  rw [List.map_map]
  conv => rhs; rw [← List.map_id xs]
  congr 1
  funext c
  simp

end Go.Proofs.YthhkadeiplbdkaaDoor
