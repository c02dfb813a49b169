/- Walks of the reference's functions, part 9: Rot. -/
import Derived.Test.YthcjlohdfcdloaaRefW8
import Derived.IntWalk
set_option linter.unusedVariables false
set_option linter.unusedSimpArgs false
namespace Go.Proofs.Ythcjlohdfcdloaa
open Go.RowKit

theorem Dk.rot_no {D : Dk} {i j m : Int} (h : ¬ (0 ≤ i ∧ i < (D.st.length : Int) ∧ 0 ≤ j ∧ j < 64 ∧ 0 < m ∧ m < 256)) : D.rot i j m = D := by
  unfold Dk.rot
  rw [if_neg]
  simp only [Dk.rotOk, Dk.valid, Bool.and_eq_true, decide_eq_true_eq]
  omega

set_option maxHeartbeats 400000 in
theorem rrot_out1 (w : World) (S : Nat → Prop) (db : Nat) (D : Dk) (i j m : Int) (hD : RefAt w S db D) (h1 : i < 0) :
    Calls Try.prog 38 #[.pointer (some ⟨db, 0, none⟩), .int .i64 i, .int .i64 j, .int .i64 m] w (RPost S w db (D.rot i j m) (.tuple #[])) := by
  rw [Dk.rot_no (D := D) (i := i) (j := j) (m := m) (by omega)]
  have HD := Lib.hid hD
  obtain ⟨sv, qv, am, x, y, z, h⟩ := hD
  have hhi := h.inv.hi
  have hlo := h.inv.lo
  obtain ⟨g, c, rfl, _, hg⟩ := h.stab.form (by omega)
  have hc0 := h.main.cell 0
  have hlt := h.main.lt
  clear h
  generalize D.st.length = N at *
  go_enter Try.func38, Try.ntmps38
  go_wp2
  refine bodyPost_ret (results_none rfl _ _ _) rfl ?_
  exact .of HD.out (Touch.refl _ _)

set_option maxHeartbeats 400000 in
theorem rrot_out2 (w : World) (S : Nat → Prop) (db : Nat) (D : Dk) (i j m : Int) (hD : RefAt w S db D) (h0 : 0 ≤ i) (h1 : (D.st.length : Int) ≤ i) :
    Calls Try.prog 38 #[.pointer (some ⟨db, 0, none⟩), .int .i64 i, .int .i64 j, .int .i64 m] w (RPost S w db (D.rot i j m) (.tuple #[])) := by
  rw [Dk.rot_no (D := D) (i := i) (j := j) (m := m) (by omega)]
  have HD := Lib.hid hD
  obtain ⟨sv, qv, am, x, y, z, h⟩ := hD
  have hhi := h.inv.hi
  have hlo := h.inv.lo
  obtain ⟨g, c, rfl, _, hg⟩ := h.stab.form (by omega)
  have hc0 := h.main.cell 0
  have hlt := h.main.lt
  clear h
  generalize D.st.length = N at *
  go_enter Try.func38, Try.ntmps38
  go_wp2
  refine bodyPost_ret (results_none rfl _ _ _) rfl ?_
  exact .of HD.out (Touch.refl _ _)

set_option maxHeartbeats 400000 in
theorem rrot_out3 (w : World) (S : Nat → Prop) (db : Nat) (D : Dk) (i j m : Int) (hD : RefAt w S db D) (h0 : 0 ≤ i) (h9 : i < (D.st.length : Int)) (h1 : j < 0) :
    Calls Try.prog 38 #[.pointer (some ⟨db, 0, none⟩), .int .i64 i, .int .i64 j, .int .i64 m] w (RPost S w db (D.rot i j m) (.tuple #[])) := by
  rw [Dk.rot_no (D := D) (i := i) (j := j) (m := m) (by omega)]
  have HD := Lib.hid hD
  obtain ⟨sv, qv, am, x, y, z, h⟩ := hD
  have hhi := h.inv.hi
  have hlo := h.inv.lo
  obtain ⟨g, c, rfl, _, hg⟩ := h.stab.form (by omega)
  have hc0 := h.main.cell 0
  have hlt := h.main.lt
  clear h
  generalize D.st.length = N at *
  go_enter Try.func38, Try.ntmps38
  go_wp2
  refine bodyPost_ret (results_none rfl _ _ _) rfl ?_
  exact .of HD.out (Touch.refl _ _)

set_option maxHeartbeats 400000 in
theorem rrot_out4 (w : World) (S : Nat → Prop) (db : Nat) (D : Dk) (i j m : Int) (hD : RefAt w S db D) (h0 : 0 ≤ i) (h9 : i < (D.st.length : Int)) (h1 : 0 ≤ j) (h2 : 64 ≤ j) :
    Calls Try.prog 38 #[.pointer (some ⟨db, 0, none⟩), .int .i64 i, .int .i64 j, .int .i64 m] w (RPost S w db (D.rot i j m) (.tuple #[])) := by
  rw [Dk.rot_no (D := D) (i := i) (j := j) (m := m) (by omega)]
  have HD := Lib.hid hD
  obtain ⟨sv, qv, am, x, y, z, h⟩ := hD
  have hhi := h.inv.hi
  have hlo := h.inv.lo
  obtain ⟨g, c, rfl, _, hg⟩ := h.stab.form (by omega)
  have hc0 := h.main.cell 0
  have hlt := h.main.lt
  clear h
  generalize D.st.length = N at *
  go_enter Try.func38, Try.ntmps38
  go_wp2
  refine bodyPost_ret (results_none rfl _ _ _) rfl ?_
  exact .of HD.out (Touch.refl _ _)

set_option maxHeartbeats 400000 in
theorem rrot_out5 (w : World) (S : Nat → Prop) (db : Nat) (D : Dk) (i j m : Int) (hD : RefAt w S db D) (h0 : 0 ≤ i) (h9 : i < (D.st.length : Int)) (h1 : 0 ≤ j) (h2 : j < 64) (h3 : m < 1) :
    Calls Try.prog 38 #[.pointer (some ⟨db, 0, none⟩), .int .i64 i, .int .i64 j, .int .i64 m] w (RPost S w db (D.rot i j m) (.tuple #[])) := by
  rw [Dk.rot_no (D := D) (i := i) (j := j) (m := m) (by omega)]
  have HD := Lib.hid hD
  obtain ⟨sv, qv, am, x, y, z, h⟩ := hD
  have hhi := h.inv.hi
  have hlo := h.inv.lo
  obtain ⟨g, c, rfl, _, hg⟩ := h.stab.form (by omega)
  have hc0 := h.main.cell 0
  have hlt := h.main.lt
  clear h
  generalize D.st.length = N at *
  go_enter Try.func38, Try.ntmps38
  go_wp2
  refine bodyPost_ret (results_none rfl _ _ _) rfl ?_
  exact .of HD.out (Touch.refl _ _)

set_option maxHeartbeats 400000 in
theorem rrot_out6 (w : World) (S : Nat → Prop) (db : Nat) (D : Dk) (i j m : Int) (hD : RefAt w S db D) (h0 : 0 ≤ i) (h9 : i < (D.st.length : Int)) (h1 : 0 ≤ j) (h2 : j < 64) (h3 : 0 < m) (h4 : 255 < m) :
    Calls Try.prog 38 #[.pointer (some ⟨db, 0, none⟩), .int .i64 i, .int .i64 j, .int .i64 m] w (RPost S w db (D.rot i j m) (.tuple #[])) := by
  rw [Dk.rot_no (D := D) (i := i) (j := j) (m := m) (by omega)]
  have HD := Lib.hid hD
  obtain ⟨sv, qv, am, x, y, z, h⟩ := hD
  have hhi := h.inv.hi
  have hlo := h.inv.lo
  obtain ⟨g, c, rfl, _, hg⟩ := h.stab.form (by omega)
  have hc0 := h.main.cell 0
  have hlt := h.main.lt
  clear h
  generalize D.st.length = N at *
  go_enter Try.func38, Try.ntmps38
  go_wp2
  refine bodyPost_ret (results_none rfl _ _ _) rfl ?_
  exact .of HD.out (Touch.refl _ _)

theorem RefL.stored {w : World} {S : Nat → Prop} {db g c : Nat} {qv : Value} {am : Bool} {x y z : Int} {D : Dk} (h : RefL w S db (.slice (some ⟨g, 0, none⟩) D.st.length c) qv am x y z D) (i : Nat) (l : List UInt8) (hl : l.length = 64) :
    RefAt (w.setCell ⟨g, i, none⟩ (.string (Dk.str l))) S db { D with st := D.st.set i l } ∧ Touch S w (w.setCell ⟨g, i, none⟩ (.string (Dk.str l))) := by
  have n1 := own_blk_ne h.stab h.main (by decide)
  have n2 := own_own_ne h.stab h.queue (by decide)
  have t : Touch (fun k => (Value.slice (some ⟨g, 0, none⟩) D.st.length c).ownBlock = some k) w (w.setCell ⟨g, i, none⟩ (.string (Dk.str l))) := (Touch.refl (fun k => (Value.slice (some ⟨g, 0, none⟩) D.st.length c).ownBlock = some k) w).setCell (p := ⟨g, i, none⟩) (.inr rfl) _
  refine ⟨⟨_, qv, am, x, y, z, t.blk h.main n1, ?_, t.own h.queue fun k hk e => n2 k e hk, h.alarm, h.fits, h.sdb, h.sst, h.sq, ?_⟩, t.mono fun k _ e => h.sst k e⟩
  · have hs := (h.stab.stored i (.string (Dk.str l))).1
    have e : stV { D with st := D.st.set i l } = (stV D).set i (.string (Dk.str l)) := by simp [stV, strV, List.map_set]
    rw [e]
    simp only [List.length_set]
    exact hs
  · refine ⟨by simpa using h.inv.lo, by simpa using h.inv.hi, fun s hs => ?_, by simpa using h.inv.pend, h.inv.alarm, h.inv.quiet⟩
    rcases List.mem_or_eq_of_mem_set hs with hs | rfl
    · exact h.inv.sec s hs
    · exact hl

theorem Dk.flip_str (l : List UInt8) (j : Nat) (c : UInt8) (hj : j < l.length) : Dk.str (l.set j c) = (Dk.str l).extract 0 j ++ (⟨#[c]⟩ ++ (Dk.str l).extract (j + 1) (Dk.str l).size) := by
  rw [Dk.str_size]
  apply ByteArray.ext
  apply Array.ext'
  simp [Dk.str, List.set_eq_take_append_cons_drop, hj]
  rw [List.take_of_length_le (by simp)]

set_option maxHeartbeats 400000 in
theorem rrot_yes (w : World) (S : Nat → Prop) (db : Nat) (D : Dk) (i j : Nat) (m : Int) (hD : RefAt w S db D) (hi : i < D.st.length) (h2 : j < 64) (h3 : 0 < m) (h4 : m < 256) :
    Calls Try.prog 38 #[.pointer (some ⟨db, 0, none⟩), .int .i64 (i : Int), .int .i64 (j : Int), .int .i64 m] w (RPost S w db (D.rot i j m) (.tuple #[])) := by
  have e : D.rot i j m = { D with st := D.st.set i (Dk.flip (D.st.getD i []) j m) } := by
    unfold Dk.rot
    rw [if_pos]
    · rfl
    · simp only [Dk.rotOk, Dk.valid, Bool.and_eq_true, decide_eq_true_eq]
      omega
  have hI := Dk.rot_inv hD.inv i j m
  rw [e] at hI ⊢
  have HI := Lib.hid hI
  obtain ⟨sv, qv, am, x, y, z, h⟩ := hD
  have hhi := h.inv.hi
  obtain ⟨sg, sc, rfl, _, hsg⟩ := h.stab.form (by omega)
  have hc0 := h.main.cell 0
  have hdb := h.main.lt
  have c8 := h.stab.cellAt i (by omega)
  have f8 := h.stab.frozenAt i
  have h64 := Dk.getD_len h.inv.sec hi
  rw [show (stV D)[i]? = some (.string (Dk.str (D.st.getD i []))) by simp [stV, strV, List.getD_eq_getElem?_getD, List.getElem?_eq_getElem hi]] at c8
  have hfl := Dk.flip_str (D.st.getD i []) j ((D.st.getD i []).getD j 0 ^^^ UInt8.ofNat m.toNat) (by omega)
  have hx := u8_xor ((D.st.getD i []).getD j 0) m (by omega) h4
  have hss : (Dk.str (D.st.getD i [])).size = 64 := by rw [Dk.str_size, h64]
  have HSS := Lib.hid hss
  have hs1 : j < (Dk.str (D.st.getD i [])).size := by rw [hss]; exact h2
  have hs2 : (Dk.str (D.st.getD i [])).size ≤ 64 := by omega
  have hgt : (Dk.str (D.st.getD i []))[j]'hs1 = (D.st.getD i []).getD j 0 := by
    simp only [Dk.str]
    show (D.st.getD i []).toArray[j]'_ = _
    rw [List.getD_eq_getElem?_getD (l := D.st.getD i []), List.getElem?_eq_getElem (by omega)]
    simp
  have HGT := Lib.hid hgt
  have HX := Lib.hid hx
  have HFL := Lib.hid hfl
  have H := Lib.hid h
  obtain ⟨N, hN⟩ : ∃ N, N = D.st.length := ⟨_, rfl⟩
  have hi2 : (i : Int) < (N : Int) := by omega
  rw [← hN] at hc0 hi hhi
  have HN := Lib.hid hN
  have hj0 : (0 : Int) ≤ (j : Int) := by omega
  obtain ⟨old, hold⟩ : ∃ old, Dk.str (D.st.getD i []) = old := ⟨_, rfl⟩
  have hsx : old.size = 64 := by rw [← hold]; exact hss
  have hs1' : j < old.size := by omega
  have hgt' : old[j]'hs1' = (D.st.getD i []).getD j 0 := by subst hold; exact hgt
  obtain ⟨c, hc⟩ : ∃ c, (D.st.getD i []).getD j 0 = c := ⟨_, rfl⟩
  rw [hc] at hgt' hx hfl
  rw [hold] at c8 hfl
  rw [← hgt'] at hx
  have hx1 := hx
  clear HGT HX HFL HSS
  have HX := Lib.hid hx
  have HFL := Lib.hid hfl
  have HC := Lib.hid hc
  have HG := Lib.hid hgt'
  have HOLD := Lib.hid hold
  have hsz2 : old.size ≤ 64 := by omega
  have hsz3 : (j : Int) + 1 ≤ (old.size : Int) := by omega
  have hsz4 : (j : Int) < (old.size : Int) := by omega
  have q1 : j ≤ old.size := by omega
  have q2 : j + 1 ≤ old.size := by omega
  clear hs1 hs2 hgt
  clear hss hx hfl h hI e h64 hN hc hgt' hx1 hold hsx
  go_enter Try.func38, Try.ntmps38
  go_wp2_with fail
  rw [HX.out, HG.out]
  have hnb := Blk.new w 5 #[.int .u8 ((c ^^^ UInt8.ofNat m.toNat).toNat : Int)]
  have hbl : Below w.heap.size w (w.alloc (.cells #[.int .u8 ((c ^^^ UInt8.ofNat m.toNat).toNat : Int)] 5)) := (Below.refl _ _).alloc (Nat.le_refl _) _
  have d0 := (hbl.cell (p := ⟨db, 0, none⟩) hdb).trans hc0
  have dlt := Nat.lt_of_lt_of_le hdb hbl.size
  have d8 := (hbl.cell (p := ⟨sg, i, none⟩) hsg).trans c8
  have e8 := (hbl.frozen (p := ⟨sg, i, none⟩) hsg).trans f8
  have slt := Nat.lt_of_lt_of_le hsg hbl.size
  have hcv := convert_bytes (P := Try.prog) (w.alloc (.cells #[.int .u8 ((c ^^^ UInt8.ofNat m.toNat).toNat : Int)] 5)).drew 56 9 5 Try.underlying56 Try.underlying5 Try.underlying9 w.heap.size 0 1 1 [c ^^^ UInt8.ofNat m.toNat] rfl (fun k hk => by
    obtain rfl : k = 0 := by omega
    exact hnb.cell 0)
  have HBL := Lib.hid hbl
  have hn1 : (Dk.str [c ^^^ UInt8.ofNat m.toNat]).size = 1 := rfl
  have hn2 : (Dk.str [c ^^^ UInt8.ofNat m.toNat]).size ≤ 1 := by omega
  have HN1 := Lib.hid (show Dk.str [c ^^^ UInt8.ofNat m.toNat] = ⟨#[c ^^^ UInt8.ofNat m.toNat]⟩ from rfl)
  generalize Dk.str [c ^^^ UInt8.ofNat m.toNat] = one at hcv hn1 hn2 HN1
  generalize w.alloc (.cells #[.int .u8 ((c ^^^ UInt8.ofNat m.toNat).toNat : Int)] 5) = w2 at d0 dlt d8 e8 slt hcv HBL ⊢
  generalize w.heap.size = pb at hcv ⊢
  clear hnb hbl hc0 hdb c8 f8 hsg hn1
  have wj0 : IntKind.i64.wrap ((j : Int) + 1) = (j : Int) + 1 := IntWalk.i64_in _ (by omega)
  have wj1 : (0 : Int) ≤ (j : Int) + 1 := by omega
  have wj2 : ((j : Int) + 1).toNat = j + 1 := by omega
  go_still_tail 17, (by kernel_rfl)
  refine wpStill_step (fun K hK => ?_)
  go_simp
  rw [if_neg (by omega)]
  refine ⟨rfl, hK _ ?_⟩
  clear hK K
  repeat still_step
  refine wpStill_step (fun K hK => ?_)
  go_simp
  rw [if_neg (by omega)]
  refine ⟨rfl, hK _ ?_⟩
  clear hK K
  repeat still_step
  refine wpStill_nil ?_
  change wpList _ _ _ _ _ w2.drew
  go_wp2_with fail
  go_end0
  have hb := HBL.out
  have hN := HN.out
  subst hN
  have e1 : old.extract 0 j ++ one ++ old.extract (j + 1) old.size = Dk.str ((D.st.getD i []).set j (c ^^^ UInt8.ofNat m.toNat)) := by
    rw [HFL.out, HN1.out, ByteArray.append_assoc]
  rw [e1]
  have e2 : Dk.flip (D.st.getD i []) j m = (D.st.getD i []).set j (c ^^^ UInt8.ofNat m.toNat) := by
    unfold Dk.flip; rw [HC.out]
  rw [e2]
  have hs := (H.out.below hb).stored i ((D.st.getD i []).set j (c ^^^ UInt8.ofNat m.toNat)) (by rw [List.length_set]; exact Dk.getD_len H.out.inv.sec hi)
  have hd := hs.1.below ((Below.refl _ _).drew)
  exact .of hd ((Touch.of_new hb).trans (hs.2.drew) fun _ _ => id)

theorem rrot_any (w : World) (S : Nat → Prop) (db : Nat) (D : Dk) (i j m : Int) (hD : RefAt w S db D) :
    Calls Try.prog 38 #[.pointer (some ⟨db, 0, none⟩), .int .i64 i, .int .i64 j, .int .i64 m] w (RPost S w db (D.rot i j m) (.tuple #[])) := by
  by_cases h1 : i < 0
  · exact rrot_out1 w S db D i j m hD h1
  by_cases h2 : (D.st.length : Int) ≤ i
  · exact rrot_out2 w S db D i j m hD (by omega) h2
  by_cases h3 : j < 0
  · exact rrot_out3 w S db D i j m hD (by omega) (by omega) h3
  by_cases h4 : 64 ≤ j
  · exact rrot_out4 w S db D i j m hD (by omega) (by omega) (by omega) h4
  by_cases h5 : m < 1
  · exact rrot_out5 w S db D i j m hD (by omega) (by omega) (by omega) (by omega) h5
  by_cases h6 : 255 < m
  · exact rrot_out6 w S db D i j m hD (by omega) (by omega) (by omega) (by omega) (by omega) h6
  obtain ⟨a, rfl⟩ := Int.eq_ofNat_of_zero_le (show 0 ≤ i by omega)
  obtain ⟨b, rfl⟩ := Int.eq_ofNat_of_zero_le (show 0 ≤ j by omega)
  exact rrot_yes w S db D a b m hD (by omega) (by omega) (by omega) (by omega)
end Go.Proofs.Ythcjlohdfcdloaa
