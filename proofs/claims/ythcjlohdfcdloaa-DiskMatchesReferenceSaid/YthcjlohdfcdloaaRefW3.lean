/- Walks of the reference's functions, part 3: Fail. -/
import Derived.Test.YthcjlohdfcdloaaRefW2
set_option linter.unusedVariables false
set_option linter.unusedSimpArgs false
namespace Go.Proofs.Ythcjlohdfcdloaa
open Go.RowKit

theorem Dk.str_size (l : List UInt8) : (Dk.str l).size = l.length := by simp [Dk.str, ByteArray.size]
theorem Dk.over_str (s : ByteArray) (l : List UInt8) (k : Nat) (hs : s.size = 64) (hl : l.length = 64) (hk : k ≤ 64) : Dk.str (Dk.over (s.data.toList.take k) l) = s.extract 0 k ++ (Dk.str l).extract k (Dk.str l).size := by
  have h1 : s.data.toList.length = 64 := by rw [Dk.data_len, hs]
  have h2 : (Dk.str l).size = 64 := by simp [Dk.str, ByteArray.size, hl]
  rw [h2]
  apply ByteArray.ext
  apply Array.ext'
  simp [Dk.over, Dk.str, h1, Nat.min_eq_left hk, List.drop_take]
  rw [List.take_of_length_le (by simp; omega)]

set_option maxHeartbeats 400000 in
theorem rfail_off (w : World) (S : Nat → Prop) (db : Nat) (D : Dk) (a b : Int) (hD : RefAt w S db D) (ho : D.off = true) :
    Calls Try.prog 35 #[.pointer (some ⟨db, 0, none⟩), .int .i64 a, .int .i64 b] w (RPost S w db (D.fail a b) (.tuple #[])) := by
  have e : D.fail a b = D := by unfold Dk.fail; rw [if_pos ho]
  rw [e]
  have HA := Lib.hid hD
  obtain ⟨sv, qv, am, x, y, z, h⟩ := hD
  have c2 := h.main.cell 2
  have clt := h.main.lt
  rw [ho] at c2
  clear h e ho
  go_enter Try.func35, Try.ntmps35
  go_wp2
  refine bodyPost_ret (results_none rfl _ _ _) rfl ?_
  exact .of HA.out (Touch.refl _ _)

theorem RefL.failed {S : Nat → Prop} {w : World} {db : Nat} {sv qv : Value} {am : Bool} {x y z : Int} {D : Dk} (h : RefL w S db sv qv am x y z D) :
    RefAt (((w.setCell ⟨db, 1, none⟩ (.slice none 0 0)).setCell ⟨db, 2, none⟩ (.bool false)).setCell ⟨db, 3, none⟩ (.bool false)) S db { st := D.st, q := [], off := true, al := none } ∧
      Touch S w (((w.setCell ⟨db, 1, none⟩ (.slice none 0 0)).setCell ⟨db, 2, none⟩ (.bool false)).setCell ⟨db, 3, none⟩ (.bool false)) := by
  have t2 : Touch (fun k => k = db) w (((w.setCell ⟨db, 1, none⟩ (.slice none 0 0)).setCell ⟨db, 2, none⟩ (.bool false)).setCell ⟨db, 3, none⟩ (.bool false)) := (((Touch.refl (fun k => k = db) w).setCell (p := ⟨db, 1, none⟩) (.inr rfl) _).setCell (p := ⟨db, 2, none⟩) (.inr rfl) _).setCell (p := ⟨db, 3, none⟩) (.inr rfl) _
  have hr := h.rows t2
  refine ⟨⟨sv, .slice none 0 0, false, x, y, z, ?_, hr.1, World.ownsRow_nil _ _ _ _, rfl, h.fits, h.sdb, h.sst, by simp [Value.ownBlock], ⟨h.inv.lo, h.inv.hi, h.inv.sec, by simp, by simp, by simp⟩⟩, ?_⟩
  · exact ((h.main.set_ 1 _).set_ 2 _).set_ 3 _
  · exact (((Touch.refl _ _).setCell (.inr h.sdb) _).setCell (.inr h.sdb) _).setCell (.inr h.sdb) _

set_option maxHeartbeats 400000 in
theorem rfail_on (w : World) (S : Nat → Prop) (db : Nat) (D : Dk) (a b : Int) (hD : RefAt w S db D) (ho : D.off = false) (hq : D.q.length ≤ 1000000) :
    Calls Try.prog 35 #[.pointer (some ⟨db, 0, none⟩), .int .i64 a, .int .i64 b] w (RPost S w db (D.fail a b) (.tuple #[])) := by
  obtain ⟨sv, qv, am, x, y, z, h⟩ := hD
  obtain ⟨A, L, c, rfl, hL, hLc, hcm⟩ := h.queue_slice
  have hc1 := h.main.cell 1
  have hc2 := h.main.cell 2
  have hdb := h.main.lt
  rw [ho] at hc2
  have H := Lib.hid h
  have HL := Lib.hid hL
  have hL' : L ≤ 1000000 := by omega
  clear h hL hq
  unfold maxLen at hcm
  obtain ⟨a1, ha1⟩ : ∃ a1 : Int, (if (L : Int) < a then (L : Int) else a) = a1 := ⟨_, rfl⟩
  obtain ⟨n, hn⟩ : ∃ n : Nat, (if 0 < a1 then a1 else 0) = (n : Int) := ⟨Dk.clamp a L, by unfold Dk.clamp; subst ha1; split <;> split at * <;> omega⟩
  have hnc : n = Dk.clamp a L := by unfold Dk.clamp; split at ha1 <;> split at hn <;> omega
  have hnL : n ≤ L := by unfold Dk.clamp at hnc; omega
  have HNC := Lib.hid hnc
  clear hnc
  go_enter Try.func35, Try.ntmps35
  go_wp2_with fail
  refine (rsettle_any w S db sv _ am x y z D n H.out (by have := HL.out; omega) (by have := HL.out; omega)).mono ?_
  rintro e w1 ⟨rfl, hL1, ht1⟩
  have H1 := Lib.hid hL1
  have HT1 := Lib.hid ht1
  have hm := hL1.main
  simp only [ho] at hm
  have d0 := hm.cell 0
  have d1 := hm.cell 1
  have d2 := hm.cell 2
  have d3 := hm.cell 3
  have d4 := hm.cell 4
  have d5 := hm.cell 5
  have d6 := hm.cell 6
  have df0 := hm.frozen 0
  have df1 := hm.frozen 1
  have df2 := hm.frozen 2
  have df3 := hm.frozen 3
  have df4 := hm.frozen 4
  have df5 := hm.frozen 5
  have df6 := hm.frozen 6
  have dlt := hm.lt
  clear hL1 ht1 hm
  by_cases hlt : n < L
  · obtain ⟨g, c', hq, hg, hc'⟩ := H1.out.queue_form (by show 0 < D.q.length; have := HL.out; omega)
    injection hq with hA hm hcc
    subst hA
    have hl := H1.out
    have hkq : n < D.q.length := by have := HL.out; omega
    have hpi := hl.inv.pend D.q[n] (List.getElem_mem hkq)
    have c0 : w1.cell? ⟨g, n * 2, none⟩ = some (.int .i64 (D.q[n].1 : Int)) := hl.queue_cell (k := n) hkq 0 (by omega)
    have c1 : w1.cell? ⟨g, n * 2 + 1, none⟩ = some (.string D.q[n].2) := hl.queue_cell (k := n) hkq 1 (by omega)
    have hget : D.q[n]? = some D.q[n] := List.getElem?_eq_getElem hkq
    generalize D.q[n] = pp at c0 c1 hpi hget
    obtain ⟨pi, ps⟩ := pp
    simp only at c0 c1 hpi
    obtain ⟨b1, hb1⟩ : ∃ b1 : Int, (if (64 : Int) < b then (64 : Int) else b) = b1 := ⟨_, rfl⟩
    obtain ⟨k, hk⟩ : ∃ k : Nat, (if 0 < b1 then b1 else 0) = (k : Int) := ⟨Dk.clamp b 64, by unfold Dk.clamp; subst hb1; split <;> split at * <;> omega⟩
    have hkc : k = Dk.clamp b 64 := by unfold Dk.clamp; split at hb1 <;> split at hk <;> omega
    have hk64 : k ≤ 64 := by unfold Dk.clamp at hkc; omega
    have HPI := Lib.hid hpi
    have HK := Lib.hid hkc
    have HG := Lib.hid hget
    have HO := Lib.hid ho
    clear hn ha1 hl hkq hkc hget hm hcc ho
    by_cases hk0 : 0 < k
    · obtain rfl : b1 = (k : Int) := by split at hk <;> omega
      have hk1 : (0 : Int) < (k : Int) := by omega
      clear hk
      have hst : ∀ s ∈ Dk.settle D.st (D.q.take n), s.length = 64 := H1.out.inv.sec
      have hil : pi < (Dk.settle D.st (D.q.take n)).length := hpi.1
      have h64 := Dk.getD_len hst hil
      obtain ⟨sg, sc, hsv, _, hsg⟩ := H1.out.stab.form (show 0 < (Dk.settle D.st (D.q.take n)).length by omega)
      subst hsv
      have d8 := H1.out.stab.cellAt pi (by show pi < (Dk.settle D.st (D.q.take n)).length * 1; omega)
      rw [show (stV { D with st := Dk.settle D.st (D.q.take n) })[pi]? = some (.string (Dk.str ((Dk.settle D.st (D.q.take n)).getD pi []))) by
        simp [stV, strV, List.getD_eq_getElem?_getD, List.getElem?_eq_getElem hil]] at d8
      have hov := Dk.over_str ps _ k hpi.2 h64 hk64
      have hset := rset_any ((w1.alloc (.cells #[.int .i64 (pi : Int), .string ps] 72)).drew) S db _ _ am x y z _ pi _ ((H1.out.below ((Below.refl _ _).alloc (Nat.le_refl _) (.cells #[.int .i64 (pi : Int), .string ps] 72))).below ((Below.refl _ _).drew)) hil (show (Dk.over (ps.data.toList.take k) ((Dk.settle D.st (D.q.take n)).getD pi [])).length = 64 by
        rw [Dk.over_length (by rw [h64, List.length_take]; omega), h64])
      rw [hov] at hset
      have HC := Lib.hid hset
      have e : D.fail a b = { st := (Dk.settle D.st (D.q.take n)).set pi (Dk.over (ps.data.toList.take k) ((Dk.settle D.st (D.q.take n)).getD pi [])), q := [], off := true, al := none } := by
        have h1 := HNC.out; have h2 := HL.out; have h3 := HK.out
        unfold Dk.fail Dk.failSt
        rw [HO.out, ← h2, ← h1, HG.out, ← h3]
        simp [Dk.put]
      have HE := Lib.hid e
      have hos : (Dk.str ((Dk.settle D.st (D.q.take n)).getD pi [])).size = 64 := by rw [Dk.str_size, h64]
      have o1 : (k : Int) ≤ ((Dk.str ((Dk.settle D.st (D.q.take n)).getD pi [])).size : Int) := by omega
      have o2 : (k : Int) ≤ (ps.size : Int) := by have := hpi.2; omega
      have o3 : ps.size ≤ 64 := by have := hpi.2; omega
      have o4 : (Dk.str ((Dk.settle D.st (D.q.take n)).getD pi [])).size ≤ 64 := by omega
      have o5 : (pi : Int) < ((Dk.settle D.st (D.q.take n)).length : Int) := by omega
      generalize Dk.str ((Dk.settle D.st (D.q.take n)).getD pi []) = old at d8 HC o1 o4
      have o7 : (0 : Int) ≤ (k : Int) := by omega
      have o9 : k ≤ ps.size := by omega
      have o10 : k ≤ old.size := by omega
      have o8 : (0 : Int) ≤ (pi : Int) := by omega
      have o6 : ¬ (9223372036854775807 < min k ps.size + (old.size - k)) := by omega
      clear hc1 hc2 e hst hil h64 hov hset hos hpi
      go_wp2_with fail
      have hbp := Blk.new w1 72 #[.int .i64 (pi : Int), .string ps]
      have hbl : Below w1.heap.size w1 (w1.alloc (.cells #[.int .i64 (pi : Int), .string ps] 72)) := (Below.refl _ _).alloc (Nat.le_refl _) _
      have p0 := hbp.cell 0
      have p1 := hbp.cell 1
      have plt := hbp.lt
      have q0 := (hbl.cell (p := ⟨db, 0, none⟩) dlt).trans d0
      have qlt := Nat.lt_of_lt_of_le dlt hbl.size
      have q8 := (hbl.cell (p := ⟨sg, pi, none⟩) hsg).trans d8
      have HBL := Lib.hid hbl
      generalize w1.alloc (.cells #[.int .i64 (pi : Int), .string ps] 72) = w2 at p0 p1 plt q0 qlt q8 HC HBL ⊢
      generalize w1.heap.size = pb at p0 p1 plt ⊢
      clear hbp hbl d0 d1 d2 d3 d4 d5 d6 d8
      go_still_tail 18, (by kernel_rfl)
      refine wpStill_step (fun K hK => ?_)
      go_simp
      rw [if_neg (by omega)]
      refine ⟨rfl, hK _ ?_⟩
      clear hK K
      refine wpStill_nil ?_
      change wpList _ _ _ _ _ w2.drew
      go_wp2_with fail
      refine HC.out.mono ?_
      rintro e w3 ⟨rfl, hL2, ht2⟩
      have HL2 := Lib.hid hL2
      have HT2 := Lib.hid ht2
      have hm := hL2.main
      simp only [HO.out] at hm
      have f0 := hm.cell 0
      have f1 := hm.cell 1
      have f2 := hm.cell 2
      have f3 := hm.cell 3
      have f4 := hm.cell 4
      have f5 := hm.cell 5
      have f6 := hm.cell 6
      have ff0 := hm.frozen 0
      have ff1 := hm.frozen 1
      have ff2 := hm.frozen 2
      have ff3 := hm.frozen 3
      have ff4 := hm.frozen 4
      have ff5 := hm.frozen 5
      have ff6 := hm.frozen 6
      have flt := hm.lt
      clear hL2 ht2 hm HC
      go_wp2
      go_end0
      have hf := HL2.out.failed
      rw [HE.out]
      refine ⟨rfl, hf.1.mono fun _ => .inl, ?_⟩
      exact ((HT1.out.mono fun k _ e => H1.out.sst k e).trans (((Touch.of_new (S := S) HBL.out).drew).trans (HT2.out.mono fun k _ e => H1.out.sst k e) fun _ _ => id) fun _ _ => id).trans hf.2 fun _ _ => id
    · have e : D.fail a b = { st := Dk.settle D.st (D.q.take n), q := [], off := true, al := none } := by
        have h1 := HNC.out; have h2 := HL.out; have h3 := HK.out
        unfold Dk.fail Dk.failSt
        rw [HO.out, ← h2, ← h1, HG.out, ← h3, show k = 0 by omega]
        have hz := Dk.put_nil (Dk.settle D.st (D.q.take n)) pi
        simp [hz]
      have HE := Lib.hid e
      have hb1' : b1 ≤ 0 := by split at hk <;> omega
      clear hk hc1 hc2 e hk64 hpi
      go_wp2
      go_end0
      have hf := H1.out.failed
      rw [HE.out]
      refine ⟨rfl, (hf.1.below ((Below.refl _ _).alloc (Nat.le_refl _) _)).mono fun _ => .inl, ?_⟩
      exact ((HT1.out.mono fun k _ e => H1.out.sst k e).trans hf.2 fun _ _ => id).alloc _
  · clear hn ha1
    go_wp2
    go_end0
    have hf := H1.out.failed
    have e : D.fail a b = { st := Dk.settle D.st (D.q.take n), q := [], off := true, al := none } := by
      have h1 := HNC.out; have h2 := HL.out
      unfold Dk.fail Dk.failSt
      rw [ho, ← h2, ← h1, List.getElem?_eq_none (by omega)]
      rfl
    rw [e]
    exact ⟨rfl, hf.1.mono fun _ => .inl, (HT1.out.mono fun k _ e => H1.out.sst k e).trans hf.2 fun _ _ => id⟩
theorem rfail_any (w : World) (S : Nat → Prop) (db : Nat) (D : Dk) (a b : Int) (hD : RefAt w S db D) (hq : D.q.length ≤ 1000000) :
    Calls Try.prog 35 #[.pointer (some ⟨db, 0, none⟩), .int .i64 a, .int .i64 b] w (RPost S w db (D.fail a b) (.tuple #[])) := by
  by_cases ho : D.off = true
  · exact rfail_off w S db D a b hD ho
  · exact rfail_on w S db D a b hD (by simpa using ho) hq
end Go.Proofs.Ythcjlohdfcdloaa
