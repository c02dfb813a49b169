/- The library's variables as the calls find them, and the library's contracts in this proof's own words. -/
import Derived.Test.YthhkadeiplbdkaaDoorDigW2
import Derived.Test.YthhkadeiplbdkaaDoorShelf
import Derived.WalkSmall
set_option linter.unusedVariables false
set_option linter.unusedSimpArgs false
namespace Go.Proofs.YthhkadeiplbdkaaDoor
open Go.RowKit

theorem bthen {B : Nat} {w w1 w2 : World} (h : Below B w w1) (hB : B ≤ w1.heap.size) (k : Below w1.heap.size w1 w2) : Below B w w2 := h.trans (k.mono hB)
/-- How many package-level variables there are. -/
noncomputable def nG : Nat := Tryd.prog.globals.size
theorem g_pow : 3 < nG := of_decide_eq_true (by kernel_rfl)
theorem g_db : 5 < nG := of_decide_eq_true (by kernel_rfl)
theorem g_ml : 2 < nG := of_decide_eq_true (by kernel_rfl)
theorem g_es : 0 < nG := of_decide_eq_true (by kernel_rfl)
theorem g_er : 1 < nG := of_decide_eq_true (by kernel_rfl)
theorem gn_pow : Tryd.prog.globalNamed "internal/strconv.uint64pow10" = some 3 := by kernel_rfl
theorem gn_es : Tryd.prog.globalNamed "strconv.ErrSyntax" = some 0 := by kernel_rfl
theorem gn_er : Tryd.prog.globalNamed "strconv.ErrRange" = some 1 := by kernel_rfl

structure Env (w : World) : Prop where
  pow : Lib.TabIs Tryd.prog w "internal/strconv.uint64pow10" .u64 Lib.pow10Tab
  db : w.cell? ⟨5, 15, none⟩ = some (.int .u8 4)
  mlen : ∃ m, w.cell? ⟨2, 0, none⟩ = some (.int .i64 m)
  esyn : ∃ tp p, w.var? Tryd.prog "strconv.ErrSyntax" = some #[.iface tp p]
  erng : ∃ tp p, w.var? Tryd.prog "strconv.ErrRange" = some #[.iface tp p]
  size : nG ≤ w.heap.size
theorem Env.below {B : Nat} {w w' : World} (h : Env w) (hb : Below B w w') (hB : nG ≤ B) : Env w' := by
  refine ⟨var?_below hb gn_pow (Nat.lt_of_lt_of_le g_pow hB) h.pow, (hb.cell (p := ⟨5, 15, none⟩) (Nat.lt_of_lt_of_le g_db hB)).trans h.db, ?_, ?_, ?_, Nat.le_trans h.size hb.size⟩
  · obtain ⟨m, hm⟩ := h.mlen
    exact ⟨m, (hb.cell (p := ⟨2, 0, none⟩) (Nat.lt_of_lt_of_le g_ml hB)).trans hm⟩
  · obtain ⟨tp, p, hm⟩ := h.esyn
    exact ⟨tp, p, var?_below hb gn_es (Nat.lt_of_lt_of_le g_es hB) hm⟩
  · obtain ⟨tp, p, hm⟩ := h.erng
    exact ⟨tp, p, var?_below hb gn_er (Nat.lt_of_lt_of_le g_er hB) hm⟩
theorem Env.new {w w' : World} (h : Env w) (hb : Below w.heap.size w w') : Env w' := h.below hb h.size
theorem Env.touch {w w' : World} {S : Nat → Prop} (h : Env w) (ht : Touch S w w') (hS : ∀ k, S k → nG ≤ k) : Env w' := h.below (ht.below h.size hS) (Nat.le_refl _)

theorem grow_below (w : World) (k : Nat) (os : Array Obj) : Below w.heap.size w (Go.Sort.grow (w.drewN k) os) := by
  refine ⟨rfl, rfl, rfl, ?_, fun i hi => ?_⟩
  · show w.heap.size ≤ (w.heap ++ os).size
    rw [Array.size_append]; omega
  · show (w.heap ++ os)[i]? = w.heap[i]?
    rw [Array.getElem?_append_left hi]
theorem itoa_any (w : World) (hE : Env w) (n : Int) (h0 : -9223372036854775808 ≤ n) (h1 : n ≤ 9223372036854775807) :
    Calls Tryd.prog 56 #[.int .i64 n] w fun e w' => e = .returned (.string ⟨(Lib.itoa n).toArray⟩) ∧ Below w.heap.size w w' := by
  refine (Tryd.strconv_Itoa n h0 h1 w hE.pow).mono ?_
  rintro e w' ⟨rfl, k, os, rfl⟩
  exact ⟨rfl, grow_below w k os⟩
theorem repeat_any (w : World) (s : ByteArray) (c : Nat) (hc : c ≤ 1000000) (hs : s.size ≤ 1000000) :
    Calls Tryd.prog 57 #[.string s, .int .i64 c] w fun e w' => e = .returned (.string ⟨(Lib.repeatL s.data.toList c).toArray⟩) ∧ Below w.heap.size w w' :=
  Tryd.strings_Repeat s c w (by omega) (by
    have := Nat.mul_le_mul hs hc
    omega)
theorem cut_any (w : World) (hE : Env w) (s sep : ByteArray) (hs : s.size < 4294967281) :
    Calls Tryd.prog 55 #[.string s, .string sep] w fun e w' => e = .returned (.tuple #[.string ⟨(Lib.cut s.data.toList sep.data.toList).1.toArray⟩, .string ⟨(Lib.cut s.data.toList sep.data.toList).2.1.toArray⟩, .bool (Lib.cut s.data.toList sep.data.toList).2.2]) ∧ Below w.heap.size w w' := by
  obtain ⟨m, hm⟩ := hE.mlen
  refine (Tryd.strings_Cut s sep m w hs hm).mono ?_
  rintro e w' ⟨rfl, n, rfl⟩
  exact ⟨rfl, below_drewN (Below.refl _ _) n⟩
/-- How Atoi ends: the number, and whether there is no error. -/
def atoiV (l : List UInt8) : Int × Bool :=
  match Lib.atoiAll l with
  | .ok v => (v, true)
  | .«syntax» => (0, false)
  | .range => (Lib.atoiSat l, false)
def AtoiPost (w : World) (l : List UInt8) (e : Ending) (w' : World) : Prop :=
  ∃ ev, e = .returned (.tuple #[.int .i64 (atoiV l).1, ev]) ∧ ((atoiV l).2 = true ∧ ev = .nilIface ∨ (atoiV l).2 = false ∧ ∃ t p, ev = .iface t p) ∧ Below w.heap.size w w'
theorem bytesWorld_below (w : World) (t : ByteArray) : Below w.heap.size w (Lib.bytesWorld w 5 t) :=
  ⟨rfl, rfl, rfl, by rw [Lib.bytesWorld_size]; omega, fun i hi => Lib.bytesWorld_at_old w _ t i hi⟩
theorem atoi_any (w : World) (hE : Env w) (s : ByteArray) (hs : s.size ≤ 281474976710656) :
    Calls Tryd.prog 29 #[.string s] w (AtoiPost w s.data.toList) := by
  match h : Lib.atoiAll s.data.toList with
  | .ok v =>
    refine (Tryd.strconv_Atoi_ok s (by omega) v h w).mono ?_
    rintro e w' ⟨rfl, hw⟩
    have e1 : atoiV s.data.toList = (v, true) := by unfold atoiV; rw [h]
    refine ⟨_, by rw [e1], .inl ⟨by rw [e1], rfl⟩, ?_⟩
    rcases hw with rfl | ⟨t, rfl⟩
    · exact Below.refl _ _
    · exact bytesWorld_below w t
  | .«syntax» =>
    obtain ⟨tp, p, hv⟩ := hE.esyn
    refine (Tryd.strconv_Atoi_syntax_var s hs h tp p w hv).mono ?_
    rintro e w' ⟨N, rfl, _, _, hb⟩
    have e1 : atoiV s.data.toList = (0, false) := by unfold atoiV; rw [h]
    exact ⟨_, by rw [e1], .inr ⟨by rw [e1], _, _, rfl⟩, hb⟩
  | .range =>
    obtain ⟨tp, p, hv⟩ := hE.erng
    refine (Tryd.strconv_Atoi_range_var s hs h tp p w hv).mono ?_
    rintro e w' ⟨N, rfl, _, _, hb⟩
    have e1 : atoiV s.data.toList = (Lib.atoiSat s.data.toList, false) := by unfold atoiV; rw [h]
    exact ⟨_, by rw [e1], .inr ⟨by rw [e1], _, _, rfl⟩, hb⟩
end Go.Proofs.YthhkadeiplbdkaaDoor
