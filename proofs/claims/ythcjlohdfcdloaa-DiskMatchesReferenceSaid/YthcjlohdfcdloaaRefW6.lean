/- Walks of the reference's functions, part 6: Write. -/
import Derived.Test.YthcjlohdfcdloaaRefW5
set_option linter.unusedVariables false
set_option linter.unusedSimpArgs false
namespace Go.Proofs.Ythcjlohdfcdloaa
open Go.RowKit

set_option maxHeartbeats 400000 in
theorem rwrite_off (w : World) (S : Nat → Prop) (db : Nat) (D : Dk) (i : Int) (s : ByteArray) (hD : RefAt w S db D) (ho : D.off = true) :
    Calls Try.prog 33 #[.pointer (some ⟨db, 0, none⟩), .int .i64 i, .string s] w (RPost S w db (D.write i s).1 (.int .i64 (D.write i s).2)) := by
  have e : D.write i s = (D, 28) := by unfold Dk.write; rw [ho]; rfl
  rw [e]
  have HD := Lib.hid hD
  obtain ⟨sv, qv, am, x, y, z, h⟩ := hD
  have hc2 := h.main.cell 2
  have hlt := h.main.lt
  rw [ho] at hc2
  clear h ho e
  go_enter Try.func33, Try.ntmps33
  go_wp2
  go_ret
  exact .of HD.out (Touch.refl _ _)

set_option maxHeartbeats 400000 in
theorem rwrite_no (w : World) (S : Nat → Prop) (db : Nat) (D : Dk) (i : Int) (s : ByteArray) (hD : RefAt w S db D) (ho : D.off = false) (hm : s.size ≤ 9223372036854775807) (hv : ¬ (D.valid i = true ∧ s.size = 64)) :
    Calls Try.prog 33 #[.pointer (some ⟨db, 0, none⟩), .int .i64 i, .string s] w (RPost S w db (D.write i s).1 (.int .i64 (D.write i s).2)) := by
  have e : D.write i s = (D, 1) := by
    unfold Dk.write; rw [ho]
    by_cases h1 : D.valid i = true
    · have h2 : ¬ s.size = 64 := fun h => hv ⟨h1, h⟩
      simp [h1, h2]
    · simp [h1]
  rw [e]
  have HD := Lib.hid hD
  obtain ⟨sv, qv, am, x, y, z, h⟩ := hD
  have hhi := h.inv.hi
  have hlo := h.inv.lo
  obtain ⟨g, c, rfl, _, hg⟩ := h.stab.form (by omega)
  have hc2 := h.main.cell 2
  have hc0 := h.main.cell 0
  have hlt := h.main.lt
  rw [ho] at hc2
  obtain ⟨N, hN⟩ : ∃ N, N = D.st.length := ⟨_, rfl⟩
  rw [← hN] at hc0 hhi hlo
  by_cases h0 : i < 0
  · clear h e hv ho hN
    go_enter Try.func33, Try.ntmps33
    go_wp2
    go_ret
    exact .of HD.out (Touch.refl _ _)
  · by_cases h1 : (N : Int) ≤ i
    · clear h e hv ho hN
      go_enter Try.func33, Try.ntmps33
      go_wp2
      go_ret
      exact .of HD.out (Touch.refl _ _)
    · have hs : ¬ s.size = 64 := fun hs => hv ⟨by simp only [Dk.valid, Bool.and_eq_true, decide_eq_true_eq]; omega, hs⟩
      have hs2 : ((s.size : Int) != 64) = true := by simp; omega
      clear h e hv ho hN hs
      go_enter Try.func33, Try.ntmps33
      go_wp2
      go_ret
      exact .of HD.out (Touch.refl _ _)

theorem RefL.grown_main {S : Nat → Prop} {w w2 : World} {db : Nat} {sv qv : Value} {am : Bool} {x y z : Int} {D : Dk} (h : RefL w S db sv qv am x y z D) (hg : w.grownBy w2 qv.ownBlock) :
    Blk w2 db 63 #[sv, qv, .bool (!D.off), .bool am, .int .i64 x, .int .i64 y, .int .i64 z] := by
  have t : Touch (fun k => qv.ownBlock = some k) w w2 := (Touch.refl _ _).grown hg fun k hk => .inr hk
  exact t.blk h.main (own_blk_ne h.queue h.main (by decide))

theorem RefL.appended {S : Nat → Prop} {w w2 : World} {db : Nat} {sv qv : Value} {am : Bool} {x y z : Int} {D : Dk} (h : RefL w S db sv qv am x y z D) (i : Nat) (s : ByteArray) (hi : i < D.st.length) (hs : s.size = 64) (ho : D.off = false) {g cap : Nat}
    (hown : w2.ownsRow 0 72 2 (.slice (some ⟨g, 0, none⟩) (D.q.length + 1) cap) (D.q.length + 1) (refV D.q ++ refCells (i, s)))
    (hg : w.grownBy w2 qv.ownBlock) (hat : qv.ownBlock = some g ∨ g = w.heap.size) :
    RefAt (w2.setCell ⟨db, 1, none⟩ (.slice (some ⟨g, 0, none⟩) (D.q.length + 1) cap)) (fun k => S k ∨ k = g) db { D with q := D.q ++ [(i, s)] } ∧
      Touch S w (w2.setCell ⟨db, 1, none⟩ (.slice (some ⟨g, 0, none⟩) (D.q.length + 1) cap)) := by
  have t : Touch (fun k => qv.ownBlock = some k) w w2 := (Touch.refl _ _).grown hg fun k hk => .inr hk
  have n1 := own_blk_ne h.queue h.main (by decide)
  have n2 := own_own_ne h.queue h.stab (by decide)
  have m2 := t.blk h.main n1
  have s2 := t.own h.stab fun k hk e => n2 k e hk
  have hgdb : g ≠ db := by
    rintro rfl
    have := own_blk_ne hown m2 (by decide)
    exact this rfl
  have t2 : Touch (fun k => k = db) w2 (w2.setCell ⟨db, 1, none⟩ (.slice (some ⟨g, 0, none⟩) (D.q.length + 1) cap)) := (Touch.refl (fun k => k = db) w2).setCell (p := ⟨db, 1, none⟩) (.inr rfl) _
  refine ⟨⟨sv, .slice (some ⟨g, 0, none⟩) (D.q.length + 1) cap, am, x, y, z, ?_, ?_, ?_, h.alarm, h.fits, .inl h.sdb, fun k hk => .inl (h.sst k hk), ?_, ?_⟩, ?_⟩
  · exact m2.set_ 1 _
  · have n3 := own_blk_ne h.stab h.main (by decide)
    exact t2.own s2 fun k hk e => n3 (by rw [hk, e])
  · have e : (refV (D.q ++ [(i, s)])) = refV D.q ++ refCells (i, s) := by rw [refV_append]; simp [refV]
    show World.ownsRow _ _ _ _ _ (D.q ++ [(i, s)]).length _
    rw [e, List.length_append]
    exact t2.own hown fun k hk e => by
      simp only [Value.ownBlock, Option.some.injEq] at hk
      exact hgdb (hk.trans e)
  · intro k hk
    simp only [Value.ownBlock, Option.some.injEq] at hk
    exact .inr hk.symm
  · refine ⟨h.inv.lo, h.inv.hi, h.inv.sec, ?_, h.inv.alarm, fun ho' => absurd ho' (by simp [ho])⟩
    intro p hp
    rcases List.mem_append.1 hp with hp | hp
    · exact h.inv.pend p hp
    · obtain rfl : p = (i, s) := by simpa using hp
      exact ⟨hi, hs⟩
  · exact (t.mono fun k _ hk => h.sq k hk).setCell (.inr h.sdb) _

theorem info_rpend : (Try.prog.info? 72).map (fun i => (i.zero, i.size, i.bytes)) = some (some (.agg #[.int .i64 0, .string ⟨#[]⟩]), 2, 24) := by kernel_rfl

set_option maxHeartbeats 400000 in
theorem rwrite_yes (w : World) (S : Nat → Prop) (db : Nat) (D : Dk) (i : Nat) (s : ByteArray) (hD : RefAt w S db D) (ho : D.off = false) (hi : i < D.st.length) (hs : s.size = 64) (hq : D.q.length < 1000000) :
    Calls Try.prog 33 #[.pointer (some ⟨db, 0, none⟩), .int .i64 (i : Int), .string s] w (RPost S w db (D.write i s).1 (.int .i64 (D.write i s).2)) := by
  have e : D.write i s = ({ D with q := D.q ++ [(i, s)] } : Dk).count := by
    unfold Dk.write
    rw [ho, show D.valid (i : Int) = true by simp only [Dk.valid, Bool.and_eq_true, decide_eq_true_eq]; omega, if_pos hs]
    rfl
  rw [e]
  have hs' : ((s.size : Int) == 64) = true := by simp; omega
  have hs2 : ((s.size : Int) != 64) = false := by simp; omega
  obtain ⟨i0, hi0, hz0, hz1, hz2⟩ := info_parts info_rpend
  have HI := Lib.hid hi0
  have HZ0 := Lib.hid hz0
  have HZ1 := Lib.hid hz1
  have HZ2 := Lib.hid hz2
  obtain ⟨sv, qv, am, x, y, z, h⟩ := hD
  have hhi := h.inv.hi
  obtain ⟨sg, sc, rfl, _, hsg⟩ := h.stab.form (by omega)
  have hm := h.main
  rw [ho] at hm
  have c0 := hm.cell 0
  have c1 := hm.cell 1
  have c2 := hm.cell 2
  have c3 := hm.cell 3
  have c4 := hm.cell 4
  have c5 := hm.cell 5
  have c6 := hm.cell 6
  have cf0 := hm.frozen 0
  have cf1 := hm.frozen 1
  have cf2 := hm.frozen 2
  have cf3 := hm.frozen 3
  have cf4 := hm.frozen 4
  have cf5 := hm.frozen 5
  have cf6 := hm.frozen 6
  have clt := hm.lt
  have hb1 : Below w.heap.size w (w.alloc (.cells #[.int .i64 (i : Int), .string s] 72)) := (Below.refl _ _).alloc (Nat.le_refl _) _
  have H := Lib.hid (h.below hb1)
  have HNEW := Lib.hid (World.news_of_block (w := w.alloc (.cells #[.int .i64 (i : Int), .string s] 72)) (B := w.heap.size) (cs := #[.int .i64 (i : Int), .string s]) (t := 72) (fr := (0, 0)) (heap_alloc_new w _))
  have HHI := Lib.hid hi
  have HO := Lib.hid ho
  have HS := Lib.hid hs
  have HB1 := Lib.hid hb1
  obtain ⟨N, hN⟩ : ∃ N, N = D.st.length := ⟨_, rfl⟩
  rw [← hN] at c0 hi hhi
  have hi2 : (i : Int) < (N : Int) := by omega
  clear hN h hm e hb1 hs ho hi0 hz0 hz1 hz2
  go_enter Try.func33, Try.ntmps33
  go_wp2_with (at_builtin; refine wpList_append_lies _ rfl (.tmp 34) (.tmp 38) _ rfl 0 72 i0 _ 2 24 Try.underlying61 HI.out HZ0.out HZ1.out HZ2.out rfl (by omega) qv D.q.length (refV D.q) rfl H.out.queue ⟨w.heap.size, 0, none⟩ 1 1 _ rfl rfl HNEW.out (by intro u hu; simp at hu; rcases hu with rfl | rfl <;> rfl) (by omega) (by simp only [maxLen]; omega) (by omega) (Nat.zero_le _) _ rfl ?_; intro g cap w2 hown hgrow hat hlt; have hm2 := H.out.grown_main hgrow; have e1 := hm2.cell 1; have ef1 := hm2.frozen 1; have elt := hm2.lt; have HOWN := Lib.hid hown; have HGR := Lib.hid hgrow; have HAT := Lib.hid hat; have HLT := Lib.hid hlt; clear hm2 hown hgrow hat hlt)
  have hap := H.out.appended i s HHI.out HS.out HO.out HOWN.out HGR.out HAT.out
  have HAP := Lib.hid hap.1
  have HTO := Lib.hid hap.2
  clear hap
  go_wp2_with fail
  refine (rcount_any _ _ db _ HAP.out (by simp; omega)).mono ?_
  rintro e w3 ⟨rfl, hd3, ht3⟩
  go_wp2
  go_ret
  have t1 := (Touch.of_new (S := S) HB1.out).trans HTO.out fun _ _ => id
  have hgg : S g ∨ w.heap.size ≤ g := by
    rcases HAT.out with e | e
    · exact .inl (H.out.sq g e)
    · right; rw [e]; simp
  have t2 : Touch S w w3 := t1.trans ht3 fun k hk hs => by
    rcases hs with hs | rfl
    · exact hs
    · rcases hgg with h | h
      · exact h
      · omega
  refine ⟨rfl, hd3.mono fun k hk => ?_, t2⟩
  have h3 := ht3.size
  have h4 := HLT.out
  have h5 := t1.size
  simp at h3 h5
  rcases hk with (hk | rfl) | hk
  · exact .inl hk
  · rcases hgg with h | h
    · exact .inl h
    · exact .inr ⟨h, by omega⟩
  · have h6 := hk.1
    simp at h6
    exact .inr ⟨by omega, hk.2⟩

theorem rwrite_any (w : World) (S : Nat → Prop) (db : Nat) (D : Dk) (i : Int) (s : ByteArray) (hD : RefAt w S db D) (hm : s.size ≤ 9223372036854775807) (hq : D.q.length < 1000000) :
    Calls Try.prog 33 #[.pointer (some ⟨db, 0, none⟩), .int .i64 i, .string s] w (RPost S w db (D.write i s).1 (.int .i64 (D.write i s).2)) := by
  by_cases ho : D.off = true
  · exact rwrite_off w S db D i s hD ho
  · simp only [Bool.not_eq_true] at ho
    by_cases hv : D.valid i = true ∧ s.size = 64
    · have h1 := hv.1
      simp only [Dk.valid, Bool.and_eq_true, decide_eq_true_eq] at h1
      obtain ⟨j, rfl⟩ := Int.eq_ofNat_of_zero_le h1.1
      exact rwrite_yes w S db D j s hD ho (by omega) hv.2 hq
    · exact rwrite_no w S db D i s hD ho hm hv
end Go.Proofs.Ythcjlohdfcdloaa
