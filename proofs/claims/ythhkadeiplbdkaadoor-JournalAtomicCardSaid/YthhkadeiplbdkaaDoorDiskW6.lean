/- Walks of the disk's functions, part 6: Rot, Read. -/
import Derived.Test.YthhkadeiplbdkaaDoorDiskW5
set_option linter.unusedVariables false
set_option linter.unusedSimpArgs false
namespace Go.Proofs.YthhkadeiplbdkaaDoor
open Go.RowKit

theorem u8_xor (c : UInt8) (m : Int) (h0 : 0 ≤ m) (h1 : m < 256) : bits .xor .u8 (c.toNat : Int) m = ((c ^^^ UInt8.ofNat m.toNat).toNat : Int) := by
  obtain ⟨n, rfl⟩ := Int.eq_ofNat_of_zero_le h0
  have hn : n < 256 := by omega
  have hc := c.toNat_lt
  have e1 : (BitVec.ofInt 8 (c.toNat : Int)).toNat = c.toNat := by rw [BitVec.ofInt_natCast, BitVec.toNat_ofNat]; exact Nat.mod_eq_of_lt (by omega)
  have e2 : (BitVec.ofInt 8 (n : Int)).toNat = n := by rw [BitVec.ofInt_natCast, BitVec.toNat_ofNat]; exact Nat.mod_eq_of_lt (by omega)
  show IntKind.u8.wrap ((BitVec.ofInt 8 (c.toNat : Int) ^^^ BitVec.ofInt 8 (n : Int)).toNat : Int) = _
  rw [BitVec.toNat_xor, e1, e2, UInt8.toNat_xor, Int.toNat_natCast, UInt8.toNat_ofNat_of_lt' (by simpa using hn)]
  have hx : c.toNat ^^^ n < 2 ^ 8 := Nat.xor_lt_two_pow (by omega) (by omega)
  exact wraps_u8 _ (Int.natCast_nonneg _) (by exact_mod_cast hx)

set_option maxRecDepth 100000 in
set_option maxHeartbeats 400000 in
theorem rot_nil (w : World) (i j m : Int) :
    Calls Tryd.prog 17 #[.pointer none, .int .i64 i, .int .i64 j, .int .i64 m] w fun e w' => e = .returned (.tuple #[]) ∧ Below w.heap.size w w' := by
  have HP := Lib.hid (place_nil w i)
  go_enter Tryd.func17, Tryd.ntmps17
  go_wp2_with fail
  refine HP.out.mono ?_
  rintro e w1 ⟨rfl, hb⟩
  have HB := Lib.hid hb
  clear hb
  go_wp2
  go_end0
  exact ⟨rfl, HB.out.alloc HB.out.size _⟩

set_option maxRecDepth 100000 in
set_option maxHeartbeats 400000 in
theorem rot_place (w : World) (S : Nat → Prop) (db : Nat) (D : Dk) (i j m : Int) (hD : DiskAt w S db D) (hv : D.valid i = false) :
    Calls Tryd.prog 17 #[.pointer (some ⟨db, 0, none⟩), .int .i64 i, .int .i64 j, .int .i64 m] w (DPost S w db (D.rot i j m) (.tuple #[])) := by
  have HP := Lib.hid (place_no w S db D i hD hv)
  have HE := Lib.hid (show D.rot i j m = D by unfold Dk.rot Dk.rotOk; rw [hv]; rfl)
  have HD := Lib.hid hD
  clear hD hv
  go_enter Tryd.func17, Tryd.ntmps17
  go_wp2_with fail
  refine HP.out.mono ?_
  rintro e w1 ⟨rfl, hb⟩
  have HB := Lib.hid hb
  clear hb
  go_wp2
  go_end0
  rw [HE.out]
  exact DPost.of (HD.out.below (HB.out.alloc HB.out.size _)) (Touch.of_new (HB.out.alloc HB.out.size _))

set_option maxRecDepth 100000 in
set_option maxHeartbeats 400000 in
theorem rot_out1 (w : World) (S : Nat → Prop) (db : Nat) (D : Dk) (i j m : Int) (hD : DiskAt w S db D) (hv : D.valid i = true) (h1 : j < 0) :
    Calls Tryd.prog 17 #[.pointer (some ⟨db, 0, none⟩), .int .i64 i, .int .i64 j, .int .i64 m] w (DPost S w db (D.rot i j m) (.tuple #[])) := by
  have HP := Lib.hid (place_yes w S db D i hD hv)
  have HE := Lib.hid (show D.rot i j m = D by
    unfold Dk.rot
    rw [if_neg]
    simp only [Dk.rotOk, Bool.and_eq_true, decide_eq_true_eq]
    omega)
  have HD := Lib.hid hD
  clear hD hv
  go_enter Tryd.func17, Tryd.ntmps17
  go_wp2_with fail
  refine HP.out.mono ?_
  rintro e w1 ⟨rfl, hb⟩
  have HB := Lib.hid hb
  clear hb
  go_wp2
  go_end0
  rw [HE.out]
  exact DPost.of (HD.out.below (HB.out.alloc HB.out.size _)) (Touch.of_new (HB.out.alloc HB.out.size _))

set_option maxRecDepth 100000 in
set_option maxHeartbeats 400000 in
theorem rot_out2 (w : World) (S : Nat → Prop) (db : Nat) (D : Dk) (i j m : Int) (hD : DiskAt w S db D) (hv : D.valid i = true) (h1 : 0 ≤ j) (h2 : 64 ≤ j) :
    Calls Tryd.prog 17 #[.pointer (some ⟨db, 0, none⟩), .int .i64 i, .int .i64 j, .int .i64 m] w (DPost S w db (D.rot i j m) (.tuple #[])) := by
  have HP := Lib.hid (place_yes w S db D i hD hv)
  have HE := Lib.hid (show D.rot i j m = D by
    unfold Dk.rot
    rw [if_neg]
    simp only [Dk.rotOk, Bool.and_eq_true, decide_eq_true_eq]
    omega)
  have HD := Lib.hid hD
  clear hD hv
  go_enter Tryd.func17, Tryd.ntmps17
  go_wp2_with fail
  refine HP.out.mono ?_
  rintro e w1 ⟨rfl, hb⟩
  have HB := Lib.hid hb
  clear hb
  go_wp2
  go_end0
  rw [HE.out]
  exact DPost.of (HD.out.below (HB.out.alloc HB.out.size _)) (Touch.of_new (HB.out.alloc HB.out.size _))

set_option maxRecDepth 100000 in
set_option maxHeartbeats 400000 in
theorem rot_out3 (w : World) (S : Nat → Prop) (db : Nat) (D : Dk) (i j m : Int) (hD : DiskAt w S db D) (hv : D.valid i = true) (h1 : 0 ≤ j) (h2 : j < 64) (h3 : m ≤ 0) :
    Calls Tryd.prog 17 #[.pointer (some ⟨db, 0, none⟩), .int .i64 i, .int .i64 j, .int .i64 m] w (DPost S w db (D.rot i j m) (.tuple #[])) := by
  have HP := Lib.hid (place_yes w S db D i hD hv)
  have HE := Lib.hid (show D.rot i j m = D by
    unfold Dk.rot
    rw [if_neg]
    simp only [Dk.rotOk, Bool.and_eq_true, decide_eq_true_eq]
    omega)
  have HD := Lib.hid hD
  clear hD hv
  go_enter Tryd.func17, Tryd.ntmps17
  go_wp2_with fail
  refine HP.out.mono ?_
  rintro e w1 ⟨rfl, hb⟩
  have HB := Lib.hid hb
  clear hb
  go_wp2
  go_end0
  rw [HE.out]
  exact DPost.of (HD.out.below (HB.out.alloc HB.out.size _)) (Touch.of_new (HB.out.alloc HB.out.size _))

set_option maxRecDepth 100000 in
set_option maxHeartbeats 400000 in
theorem rot_out4 (w : World) (S : Nat → Prop) (db : Nat) (D : Dk) (i j m : Int) (hD : DiskAt w S db D) (hv : D.valid i = true) (h1 : 0 ≤ j) (h2 : j < 64) (h3 : 0 < m) (h4 : 256 ≤ m) :
    Calls Tryd.prog 17 #[.pointer (some ⟨db, 0, none⟩), .int .i64 i, .int .i64 j, .int .i64 m] w (DPost S w db (D.rot i j m) (.tuple #[])) := by
  have HP := Lib.hid (place_yes w S db D i hD hv)
  have HE := Lib.hid (show D.rot i j m = D by
    unfold Dk.rot
    rw [if_neg]
    simp only [Dk.rotOk, Bool.and_eq_true, decide_eq_true_eq]
    omega)
  have HD := Lib.hid hD
  clear hD hv
  go_enter Tryd.func17, Tryd.ntmps17
  go_wp2_with fail
  refine HP.out.mono ?_
  rintro e w1 ⟨rfl, hb⟩
  have HB := Lib.hid hb
  clear hb
  go_wp2
  go_end0
  rw [HE.out]
  exact DPost.of (HD.out.below (HB.out.alloc HB.out.size _)) (Touch.of_new (HB.out.alloc HB.out.size _))

set_option maxRecDepth 100000 in
set_option maxHeartbeats 400000 in
theorem rot_yes (w : World) (S : Nat → Prop) (db : Nat) (D : Dk) (i j m : Int) (hD : DiskAt w S db D) (hv : D.valid i = true) (h1 : 0 ≤ j) (h2 : j < 64) (h3 : 0 < m) (h4 : m < 256) :
    Calls Tryd.prog 17 #[.pointer (some ⟨db, 0, none⟩), .int .i64 i, .int .i64 j, .int .i64 m] w (DPost S w db (D.rot i j m) (.tuple #[])) := by
  have HP := Lib.hid (place_yes w S db D i hD hv)
  have HD := Lib.hid hD
  obtain ⟨sb, qv, ap, h⟩ := hD
  have hv' := hv
  simp only [Dk.valid, Bool.and_eq_true, decide_eq_true_eq] at hv'
  have hhi := h.inv.hi
  have HV := Lib.hid hv
  obtain ⟨N, hN⟩ : ∃ N, N = 64 * D.st.length := ⟨_, rfl⟩
  have HN := Lib.hid hN
  have hi0 : 0 ≤ i := hv'.1
  have hi1 : i ≤ 4000 := by omega
  have hlt : i * 64 + j < (N : Int) := by omega
  have hN2 : (N : Int) ≤ 256000 := by omega
  clear hv hv' hN hhi
  go_enter Tryd.func17, Tryd.ntmps17
  go_wp2_with fail
  refine HP.out.mono ?_
  rintro e w1 ⟨rfl, hb⟩
  have HB := Lib.hid hb
  have hl := h.below hb
  have d0 := hl.main.cell 0
  have d1 := hl.main.cell 1
  have d2 := hl.main.cell 2
  have d3 := hl.main.cell 3
  have df0 := hl.main.frozen 0
  have df1 := hl.main.frozen 1
  have df2 := hl.main.frozen 2
  have df3 := hl.main.frozen 3
  have dlt := hl.main.lt
  rw [← HN.out] at d0
  have HL := Lib.hid hl
  have hc := hl.stab.cell (i * 64 + j).toNat
  rw [byteCells_at _ _ (by rw [Dk.flat_length hl.inv.sec]; have := HN.out; omega)] at hc
  obtain ⟨x, hx⟩ : ∃ x : Int, x = ((D.st.flatten.getD (i * 64 + j).toNat 0).toNat : Int) := ⟨_, rfl⟩
  rw [← hx] at hc
  have HX := Lib.hid hx
  have hx0 : 0 ≤ x := by omega
  have hx1 : x < 256 := by have := (D.st.flatten.getD (i * 64 + j).toNat 0).toNat_lt; omega
  have hf := hl.stab.frozen (i * 64 + j).toNat
  clear hx
  have hsb := hl.stab.lt
  clear hb hl h
  go_wp2
  go_region
  go_end0
  have hl := HL.out
  have hv := HV.out
  have hN := HN.out
  have hin : i.toNat < D.st.length := by omega
  have hbit : bits .xor .u8 x m = ((D.st.flatten.getD (i * 64 + j).toNat 0 ^^^ UInt8.ofNat m.toNat).toNat : Int) := by
    rw [HX.out]; exact u8_xor _ m (by omega) h4
  rw [hbit]
  have hidx : (i * 64 + j).toNat = i.toNat * 64 + j.toNat := by omega
  have e : D.rot i j m = { D with st := D.st.set i.toNat (Dk.flip (D.st.getD i.toNat []) j.toNat m) } := by
    unfold Dk.rot
    rw [if_pos]
    simp only [Dk.rotOk, Bool.and_eq_true, decide_eq_true_eq]
    exact ⟨⟨⟨⟨hv, h1⟩, h2⟩, h3⟩, h4⟩
  have t : Touch (fun k => k = sb) w1 (w1.setCell ⟨sb, (i * 64 + j).toNat, none⟩ (.int .u8 ((D.st.flatten.getD (i * 64 + j).toNat 0 ^^^ UInt8.ofNat m.toNat).toNat : Int))) := (Touch.refl (fun k => k = sb) w1).setCell (p := ⟨sb, (i * 64 + j).toNat, none⟩) (.inr rfl) _
  have hst := hl.stored (w' := w1.setCell ⟨sb, (i * 64 + j).toNat, none⟩ (.int .u8 ((D.st.flatten.getD (i * 64 + j).toNat 0 ^^^ UInt8.ofNat m.toNat).toNat : Int))) (D.st.set i.toNat (Dk.flip (D.st.getD i.toNat []) j.toNat m)) (by simp)
    (by have := (Dk.rot_inv hl.inv i j m).sec; rw [e] at this; exact this) t (by
      have h1 := hl.stab.set_ (i * 64 + j).toNat (.int .u8 ((D.st.flatten.getD (i * 64 + j).toNat 0 ^^^ UInt8.ofNat m.toNat).toNat : Int))
      unfold Dk.flip
      rw [Dk.flat_flip hl.inv.sec hin j.toNat (by omega), ← Dk.flat_sec hl.inv.sec hin j.toNat (by omega), ← hidx]
      have e2 : ∀ (l : List UInt8) (k : Nat) (c : UInt8), (Lib.byteCells (l.set k c)).toArray = (Lib.byteCells l).toArray.setIfInBounds k (.int .u8 (c.toNat : Int)) := by
        intro l k c
        simp [Lib.byteCells, List.map_set]
      rw [e2]
      exact h1)
  rw [e]
  refine DPost.of ⟨sb, qv, ap, (hst.below ((Below.refl _ _).alloc (Nat.le_refl _) _)).below (Below.refl _ _).drew⟩ ?_
  exact (((Touch.of_new (S := S) HB.out).trans (t.mono (T := S) fun k _ e => by rw [e]; exact hl.ssb) fun _ _ => id).alloc _).drew

theorem rot_any (w : World) (S : Nat → Prop) (db : Nat) (D : Dk) (i j m : Int) (hD : DiskAt w S db D) :
    Calls Tryd.prog 17 #[.pointer (some ⟨db, 0, none⟩), .int .i64 i, .int .i64 j, .int .i64 m] w (DPost S w db (D.rot i j m) (.tuple #[])) := by
  by_cases hv : D.valid i = true
  · by_cases h1 : j < 0
    · exact rot_out1 w S db D i j m hD hv h1
    by_cases h2 : 64 ≤ j
    · exact rot_out2 w S db D i j m hD hv (by omega) h2
    by_cases h3 : m ≤ 0
    · exact rot_out3 w S db D i j m hD hv (by omega) (by omega) h3
    by_cases h4 : 256 ≤ m
    · exact rot_out4 w S db D i j m hD hv (by omega) (by omega) (by omega) h4
    · exact rot_yes w S db D i j m hD hv (by omega) (by omega) (by omega) (by omega)
  · exact rot_place w S db D i j m hD (by simpa using hv)
end Go.Proofs.YthhkadeiplbdkaaDoor
