/- Walks of the disk's functions, part 4: count, Write. -/
import Derived.Test.YthhkadeiplbdkaaDoorDiskW3
set_option linter.unusedVariables false
set_option linter.unusedSimpArgs false
namespace Go.Proofs.YthhkadeiplbdkaaDoor
open Go.RowKit

def CountPost (S : Nat → Prop) (w : World) (db : Nat) (D : Dk) (e : Ending) (w' : World) : Prop :=
  e = .returned (.int .i64 D.count.2) ∧ DiskAt w' S db D.count.1 ∧ Touch S w w'

set_option maxRecDepth 100000 in
set_option maxHeartbeats 400000 in
theorem count_none (w : World) (S : Nat → Prop) (db : Nat) (D : Dk) (hD : DiskAt w S db D) (hal : D.al = none) :
    Calls Tryd.prog 49 #[.pointer (some ⟨db, 0, none⟩)] w (CountPost S w db D) := by
  have HD := Lib.hid hD
  obtain ⟨sb, qv, ap, h⟩ := hD
  have ha := h.alarm
  rw [hal] at ha
  obtain rfl : ap = none := ha
  have e : D.count = (D, 0) := by unfold Dk.count; rw [hal]
  have HE := Lib.hid e
  have d0 := h.main.cell 0
  have d1 := h.main.cell 1
  have d2 := h.main.cell 2
  have d3 := h.main.cell 3
  have df0 := h.main.frozen 0
  have df1 := h.main.frozen 1
  have df2 := h.main.frozen 2
  have df3 := h.main.frozen 3
  have dlt := h.main.lt
  clear h hal e
  go_enter Tryd.func49, Tryd.ntmps49
  go_wp2
  go_ret
  unfold CountPost
  rw [HE.out]
  exact ⟨rfl, HD.out, Touch.refl _ _⟩

theorem DiskL.counted {S : Nat → Prop} {w : World} {db sb ab : Nat} {qv : Value} {D : Dk} {a b c : Int} (h : DiskL w S db sb qv (some ⟨ab, 0, none⟩) D) (hal : D.al = some (a, b, c)) (h0 : 0 < a) :
    DiskAt (w.setCell ⟨ab, 0, none⟩ (.int .i64 (a - 1))) S db { D with al := some (a - 1, b, c) } ∧ Touch S w (w.setCell ⟨ab, 0, none⟩ (.int .i64 (a - 1))) := by
  have hA := h.alarm
  rw [hal] at hA
  obtain ⟨ab', e, hb, hs⟩ := hA
  injection e with e
  injection e with e
  subst e
  have n1 := h.main.ne_ hb (by decide)
  have n2 := h.stab.ne_ hb (by decide)
  have n3 := own_blk_ne h.queue hb (by decide)
  have t : Touch (fun k => k = ab) w (w.setCell ⟨ab, 0, none⟩ (.int .i64 (a - 1))) := (Touch.refl (fun k => k = ab) w).setCell (p := ⟨ab, 0, none⟩) (.inr rfl) _
  refine ⟨⟨sb, qv, some ⟨ab, 0, none⟩, ?_, ?_, ?_, ?_, h.sdb, h.ssb, h.sq, ?_⟩, t.mono fun k _ e => by rw [e]; exact hs⟩
  · exact h.main.far (p := ⟨ab, 0, none⟩) n1 _
  · exact h.stab.far (p := ⟨ab, 0, none⟩) n2 _
  · exact t.own h.queue fun k hk e => n3 (by rw [hk, e])
  · exact ⟨ab, rfl, hb.set_ 0 _, hs⟩
  · have := Dk.count_inv h.inv
    unfold Dk.count at this
    rw [hal] at this
    simp only [h0, if_true] at this
    exact this

set_option maxRecDepth 100000 in
set_option maxHeartbeats 400000 in
theorem count_more (w : World) (S : Nat → Prop) (db : Nat) (D : Dk) (hD : DiskAt w S db D) (a b c : Int) (hal : D.al = some (a, b, c)) (h0 : 0 < a) :
    Calls Tryd.prog 49 #[.pointer (some ⟨db, 0, none⟩)] w (CountPost S w db D) := by
  obtain ⟨sb, qv, ap, h⟩ := hD
  have ha := h.alarm
  rw [hal] at ha
  obtain ⟨ab, rfl, hb, hs⟩ := ha
  have e : D.count = ({ D with al := some (a - 1, b, c) }, 0) := by unfold Dk.count; rw [hal]; simp only [h0, if_true]
  have HE := Lib.hid e
  have HF := Lib.hid (h.counted hal h0)
  have hi := (h.inv.alarm a b c hal).2.1.2
  have d0 := h.main.cell 0
  have d1 := h.main.cell 1
  have d2 := h.main.cell 2
  have d3 := h.main.cell 3
  have df0 := h.main.frozen 0
  have df1 := h.main.frozen 1
  have df2 := h.main.frozen 2
  have df3 := h.main.frozen 3
  have dlt := h.main.lt
  have a0 := hb.cell 0
  have a1 := hb.cell 1
  have a2 := hb.cell 2
  have af0 := hb.frozen 0
  have af1 := hb.frozen 1
  have af2 := hb.frozen 2
  have alt := hb.lt
  clear h hal e hb
  go_enter Tryd.func49, Tryd.ntmps49
  go_wp2
  go_ret
  unfold CountPost
  rw [HE.out]
  exact ⟨rfl, HF.out⟩

set_option maxRecDepth 100000 in
set_option maxHeartbeats 400000 in
theorem count_off (w : World) (S : Nat → Prop) (db : Nat) (D : Dk) (hD : DiskAt w S db D) (ho : D.off = false) (hq : D.q.length ≤ 1000000) (a b c : Int) (hal : D.al = some (a, b, c)) (h0 : ¬ 0 < a) :
    Calls Tryd.prog 49 #[.pointer (some ⟨db, 0, none⟩)] w (CountPost S w db D) := by
  have HF := Lib.hid (fail_on w.drew S db D b c (hD.below ((Below.refl _ _).drew)) ho hq)
  obtain ⟨sb, qv, ap, h⟩ := hD
  have ha := h.alarm
  rw [hal] at ha
  obtain ⟨ab, rfl, hb, hs⟩ := ha
  have e : D.count = (D.fail b c, 28) := by unfold Dk.count; rw [hal]; simp only [h0, if_false]
  have HE := Lib.hid e
  have d0 := h.main.cell 0
  have d1 := h.main.cell 1
  have d2 := h.main.cell 2
  have d3 := h.main.cell 3
  have df0 := h.main.frozen 0
  have df1 := h.main.frozen 1
  have df2 := h.main.frozen 2
  have df3 := h.main.frozen 3
  have dlt := h.main.lt
  have a0 := hb.cell 0
  have a1 := hb.cell 1
  have a2 := hb.cell 2
  have af0 := hb.frozen 0
  have af1 := hb.frozen 1
  have af2 := hb.frozen 2
  have alt := hb.lt
  clear h hal e hb ho hq
  go_enter Tryd.func49, Tryd.ntmps49
  go_wp2_with fail
  go_still_tail 15, (by kernel_rfl)
  change wpList _ _ _ _ _ w.drew
  go_wp2_with fail
  refine HF.out.mono ?_
  rintro e w1 ⟨rfl, hd1, ht1⟩
  go_wp2
  go_ret
  unfold CountPost
  rw [HE.out]
  exact ⟨rfl, hd1, (Touch.refl _ _).drew.trans ht1 fun _ _ => id⟩

theorem count_any (w : World) (S : Nat → Prop) (db : Nat) (D : Dk) (hD : DiskAt w S db D) (ho : D.off = false) (hq : D.q.length ≤ 1000000) :
    Calls Tryd.prog 49 #[.pointer (some ⟨db, 0, none⟩)] w (CountPost S w db D) := by
  match hal : D.al with
  | none => exact count_none w S db D hD hal
  | some (a, b, c) =>
    by_cases h0 : 0 < a
    · exact count_more w S db D hD a b c hal h0
    · exact count_off w S db D hD ho hq a b c hal h0

theorem DiskL.grown_main {S : Nat → Prop} {w w2 : World} {db sb : Nat} {qv : Value} {ap : Option Addr} {D : Dk} (h : DiskL w S db sb qv ap D) (hg : w.grownBy w2 qv.ownBlock) :
    Blk w2 db 55 #[.slice (some ⟨sb, 0, none⟩) (64 * D.st.length) (64 * D.st.length), qv, .bool D.off, .pointer ap] := by
  have t : Touch (fun k => qv.ownBlock = some k) w w2 := (Touch.refl _ _).grown hg fun k hk => .inr hk
  exact t.blk h.main (own_blk_ne h.queue h.main (by decide))

theorem DiskL.appended {S : Nat → Prop} {w w2 : World} {db sb : Nat} {qv : Value} {ap : Option Addr} {D : Dk} (h : DiskL w S db sb qv ap D) (i : Nat) (s : ByteArray) (hi : i < D.st.length) (hs : s.size = 64) (ho : D.off = false) {g cap : Nat}
    (hown : w2.ownsRow 0 60 3 (.slice (some ⟨g, 0, none⟩) (D.q.length + 1) cap) (D.q.length + 1) (pendV D.q ++ pendCells (i, s)))
    (hg : w.grownBy w2 qv.ownBlock) (hat : qv.ownBlock = some g ∨ g = w.heap.size) :
    DiskAt (w2.setCell ⟨db, 1, none⟩ (.slice (some ⟨g, 0, none⟩) (D.q.length + 1) cap)) (fun k => S k ∨ k = g) db { D with q := D.q ++ [(i, s)] } ∧
      Touch S w (w2.setCell ⟨db, 1, none⟩ (.slice (some ⟨g, 0, none⟩) (D.q.length + 1) cap)) := by
  have t : Touch (fun k => qv.ownBlock = some k) w w2 := (Touch.refl _ _).grown hg fun k hk => .inr hk
  have n1 := own_blk_ne h.queue h.main (by decide)
  have n2 := own_blk_ne h.queue h.stab (by decide)
  have n3 := h.main.ne_ h.stab (by decide)
  have m2 := t.blk h.main n1
  have s2 := t.blk h.stab n2
  have hgdb : g ≠ db := by
    rintro rfl
    have := own_blk_ne hown m2 (by decide)
    exact this rfl
  refine ⟨⟨sb, .slice (some ⟨g, 0, none⟩) (D.q.length + 1) cap, ap, ?_, ?_, ?_, ?_, .inl h.sdb, .inl h.ssb, ?_, ?_⟩, ?_⟩
  · exact m2.set_ 1 _
  · exact s2.far (p := ⟨db, 1, none⟩) n3.symm _
  · have e : (pendV (D.q ++ [(i, s)])) = pendV D.q ++ pendCells (i, s) := by rw [pendV_append]; simp [pendV]
    have t2 : Touch (fun k => k = db) w2 (w2.setCell ⟨db, 1, none⟩ (.slice (some ⟨g, 0, none⟩) (D.q.length + 1) cap)) := (Touch.refl (fun k => k = db) w2).setCell (p := ⟨db, 1, none⟩) (.inr rfl) _
    show World.ownsRow _ _ _ _ _ (D.q ++ [(i, s)]).length _
    rw [e, List.length_append]
    exact t2.own hown fun k hk e => by
      simp only [Value.ownBlock, Option.some.injEq] at hk
      exact hgdb (hk.trans e)
  · have ha := h.alarm
    match hal : D.al, ha with
    | none, ha => exact ha
    | some (a, b, c), ⟨ab, e, hb, hs⟩ =>
      have n4 := own_blk_ne h.queue hb (by decide)
      have n5 := h.main.ne_ hb (by decide)
      exact ⟨ab, e, (t.blk hb n4).far (p := ⟨db, 1, none⟩) n5.symm _, .inl hs⟩
  · intro k hk
    simp only [Value.ownBlock, Option.some.injEq] at hk
    exact .inr hk.symm
  · refine ⟨h.inv.lo, h.inv.hi, h.inv.sec, ?_, h.inv.alarm, fun ho' => absurd ho' (by simp [ho])⟩
    intro p hp
    rcases List.mem_append.1 hp with hp | hp
    · exact h.inv.pend p hp
    · obtain rfl : p = (i, s) := by simpa using hp
      exact ⟨hi, hs⟩
  · exact (t.mono fun k _ hk => h.sq k hk).setCell (.inr h.sdb) _

set_option maxRecDepth 100000 in
set_option maxHeartbeats 400000 in
theorem write_nil (w : World) (i : Int) (s : ByteArray) :
    Calls Tryd.prog 21 #[.pointer none, .int .i64 i, .string s] w fun e w' => e = .returned (.int .i64 1) ∧ Below w.heap.size w w' := by
  have HP := Lib.hid (at_nil w i)
  go_enter Tryd.func21, Tryd.ntmps21
  go_wp2_with fail
  refine HP.out.mono ?_
  rintro e w1 ⟨rfl, hb⟩
  have HB := Lib.hid hb
  clear hb
  go_wp2
  go_ret
  exact ⟨rfl, HB.out.alloc HB.out.size _⟩

set_option maxRecDepth 100000 in
set_option maxHeartbeats 400000 in
theorem write_off (w : World) (S : Nat → Prop) (db : Nat) (D : Dk) (i : Int) (s : ByteArray) (hD : DiskAt w S db D) (ho : D.off = true) :
    Calls Tryd.prog 21 #[.pointer (some ⟨db, 0, none⟩), .int .i64 i, .string s] w (DPost S w db (D.write i s).1 (.int .i64 (D.write i s).2)) := by
  have HP := Lib.hid (at_off w S db D i hD ho)
  have HD := Lib.hid hD
  have HE := Lib.hid (show D.write i s = (D, 28) by unfold Dk.write; rw [ho]; rfl)
  clear hD ho
  go_enter Tryd.func21, Tryd.ntmps21
  go_wp2_with fail
  refine HP.out.mono ?_
  rintro e w1 ⟨rfl, hb⟩
  have HB := Lib.hid hb
  clear hb
  go_wp2
  go_ret
  rw [HE.out]
  exact DPost.of (HD.out.below (HB.out.alloc HB.out.size _)) (Touch.of_new (HB.out.alloc HB.out.size _))

set_option maxRecDepth 100000 in
set_option maxHeartbeats 400000 in
theorem write_no (w : World) (S : Nat → Prop) (db : Nat) (D : Dk) (i : Int) (s : ByteArray) (hD : DiskAt w S db D) (ho : D.off = false) (hv : D.valid i = false) :
    Calls Tryd.prog 21 #[.pointer (some ⟨db, 0, none⟩), .int .i64 i, .string s] w (DPost S w db (D.write i s).1 (.int .i64 (D.write i s).2)) := by
  have HP := Lib.hid (at_no w S db D i hD ho hv)
  have HD := Lib.hid hD
  have HE := Lib.hid (show D.write i s = (D, 1) by unfold Dk.write; rw [ho, hv]; rfl)
  clear hD ho hv
  go_enter Tryd.func21, Tryd.ntmps21
  go_wp2_with fail
  refine HP.out.mono ?_
  rintro e w1 ⟨rfl, hb⟩
  have HB := Lib.hid hb
  clear hb
  go_wp2
  go_ret
  rw [HE.out]
  exact DPost.of (HD.out.below (HB.out.alloc HB.out.size _)) (Touch.of_new (HB.out.alloc HB.out.size _))

set_option maxRecDepth 100000 in
set_option maxHeartbeats 400000 in
theorem write_size (w : World) (S : Nat → Prop) (db : Nat) (D : Dk) (i : Int) (s : ByteArray) (hD : DiskAt w S db D) (ho : D.off = false) (hv : D.valid i = true) (hs : s.size ≠ 64) (hm : s.size ≤ 9223372036854775807) :
    Calls Tryd.prog 21 #[.pointer (some ⟨db, 0, none⟩), .int .i64 i, .string s] w (DPost S w db (D.write i s).1 (.int .i64 (D.write i s).2)) := by
  have HP := Lib.hid (at_yes w S db D i hD ho hv)
  have HD := Lib.hid hD
  have HE := Lib.hid (show D.write i s = (D, 1) by unfold Dk.write; rw [ho, hv, if_neg hs]; rfl)
  have hs' : ((s.size : Int) == 64) = false := by simp; omega
  have hs2 : ((s.size : Int) != 64) = true := by simp; omega
  clear hD ho hv hs
  go_enter Tryd.func21, Tryd.ntmps21
  go_wp2_with fail
  refine HP.out.mono ?_
  rintro e w1 ⟨rfl, hb⟩
  have HB := Lib.hid hb
  clear hb
  go_wp2
  go_ret
  rw [HE.out]
  exact DPost.of (HD.out.below (HB.out.alloc HB.out.size _)) (Touch.of_new (HB.out.alloc HB.out.size _))

theorem info_pend : (Tryd.prog.info? 60).map (fun i => (i.zero, i.size, i.bytes)) = some (some (.agg #[.int .i64 0, .int .i64 0, .string ⟨#[]⟩]), 3, 32) := by kernel_rfl

set_option maxRecDepth 100000 in
set_option maxHeartbeats 400000 in
theorem write_yes (w : World) (S : Nat → Prop) (db : Nat) (D : Dk) (i : Int) (s : ByteArray) (hD : DiskAt w S db D) (ho : D.off = false) (hv : D.valid i = true) (hs : s.size = 64) (hq : D.q.length < 1000000) :
    Calls Tryd.prog 21 #[.pointer (some ⟨db, 0, none⟩), .int .i64 i, .string s] w (DPost S w db (D.write i s).1 (.int .i64 (D.write i s).2)) := by
  have HP := Lib.hid (at_yes w S db D i hD ho hv)
  have HD := Lib.hid hD
  have HE := Lib.hid (show D.write i s = ({ D with q := D.q ++ [(i.toNat, s)] } : Dk).count by unfold Dk.write; rw [ho, hv, if_pos hs]; rfl)
  have hs' : ((s.size : Int) == 64) = true := by simp; omega
  have hs2 : ((s.size : Int) != 64) = false := by simp; omega
  obtain ⟨i0, hi0, hz0, hz1, hz2⟩ := info_parts info_pend
  have HI := Lib.hid hi0
  have HZ0 := Lib.hid hz0
  have HZ1 := Lib.hid hz1
  have HZ2 := Lib.hid hz2
  clear hD hi0 hz0 hz1 hz2
  obtain ⟨sb, qv, ap, h⟩ := HD.out
  have HV := Lib.hid hv
  simp only [Dk.valid, Bool.and_eq_true, decide_eq_true_eq] at hv
  have hi : ((i.toNat : Nat) : Int) = i := by omega
  have hin : i.toNat < D.st.length := by omega
  have HI2 := Lib.hid hin
  have HI3 := Lib.hid hi
  have HO := Lib.hid ho
  have HS := Lib.hid hs
  clear ho hv hi hin hs
  go_enter Tryd.func21, Tryd.ntmps21
  go_wp2_with fail
  refine HP.out.mono ?_
  rintro e w1 ⟨rfl, hb⟩
  have HB := Lib.hid hb
  have h1 := h.below hb
  have d0 := h1.main.cell 0
  have d1 := h1.main.cell 1
  have d2 := h1.main.cell 2
  have d3 := h1.main.cell 3
  have df0 := h1.main.frozen 0
  have df1 := h1.main.frozen 1
  have df2 := h1.main.frozen 2
  have df3 := h1.main.frozen 3
  have dlt := h1.main.lt
  have H1 := Lib.hid h1
  have h1lt := hb.size
  have hA := (h1.below ((Below.refl _ _).alloc (Nat.le_refl _) (.cells #[.int .i64 (i * 64), .int .i64 ((i + 1) * 64)] 58)))
  have hB := (hA.below ((Below.refl _ _).alloc (Nat.le_refl _) (.cells #[.int .i64 (i * 64), .int .i64 ((i + 1) * 64), .string s] 60)))
  have HL := Lib.hid (hB.below ((Below.refl _ _).drew))
  have HNEW := Lib.hid (World.news_of_block (w := ((w1.alloc (.cells #[.int .i64 (i * 64), .int .i64 ((i + 1) * 64)] 58)).alloc (.cells #[.int .i64 (i * 64), .int .i64 ((i + 1) * 64), .string s] 60)).drew) (B := w1.heap.size + 1) (cs := #[.int .i64 (i * 64), .int .i64 ((i + 1) * 64), .string s]) (t := 60) (fr := (0, 0))
    (by have := heap_alloc_new (w1.alloc (.cells #[.int .i64 (i * 64), .int .i64 ((i + 1) * 64)] 58)) (.cells #[.int .i64 (i * 64), .int .i64 ((i + 1) * 64), .string s] 60)
        rw [show (w1.alloc (.cells #[.int .i64 (i * 64), .int .i64 ((i + 1) * 64)] 58)).heap.size = w1.heap.size + 1 by simp] at this
        exact this))
  clear hb h h1 hA hB
  go_wp2_with fail
  go_region_law (refine step_append_lies _ rfl (.tmp 25) (.tmp 29) _ rfl 0 60 i0 _ 3 32 Tryd.underlying52 HI.out HZ0.out HZ1.out HZ2.out rfl (by omega) qv D.q.length (pendV D.q) (by simp [Act.eval, Act.put]) HL.out.queue ⟨w1.heap.size + 1, 0, none⟩ 1 1 _ (by simp [Act.eval, Act.put]) (by simp) HNEW.out (by intro u hu; simp at hu; rcases hu with rfl | rfl | rfl <;> rfl) (by omega) (by simp only [maxLen]; omega) (by omega) (Nat.zero_le _) _ rfl ?_; intro g cap w2 hown hgrow hat hlt; have hm2 := HL.out.grown_main hgrow; have e1 := hm2.cell 1; have ef1 := hm2.frozen 1; have elt := hm2.lt; have HOWN := Lib.hid hown; have HGR := Lib.hid hgrow; have HAT := Lib.hid hat; have HLT := Lib.hid hlt; clear hm2 hown hgrow hat hlt)
  all_goals
    have hap := HL.out.appended i.toNat s HI2.out HS.out HO.out (by rw [show pendCells (i.toNat, s) = [.int .i64 (i * 64), .int .i64 ((i + 1) * 64), .string s] by simp only [pendCells, HI3.out]]; exact HOWN.out) HGR.out HAT.out
    have HAP := Lib.hid hap.1
    have HTO := Lib.hid hap.2
    clear hap
    go_wp2_with fail
    refine (count_any _ _ db _ HAP.out HO.out (by simp; omega)).mono ?_
    rintro e w3 ⟨rfl, hd3, ht3⟩
    go_wp2
    go_ret
    rw [HE.out]
    have t1 := ((((Touch.of_new (S := S) HB.out).alloc _).alloc _).drew).trans HTO.out fun _ _ => id
    have hw1 := HB.out.size
    have hgg : S g ∨ w.heap.size ≤ g := by
      rcases HAT.out with e | e
      · exact .inl (H1.out.sq g e)
      · right
        rw [e]
        simp
        omega
    have t2 : Touch S w w3 := t1.trans ht3 fun k hk hs => by
      rcases hs with hs | rfl
      · exact hs
      · rcases hgg with h | h
        · exact h
        · omega
    refine ⟨rfl, hd3.mono fun k hk => ?_, t2⟩
    rcases hk with hk | rfl
    · exact .inl hk
    · rcases hgg with h | h
      · exact .inl h
      · have h3 := ht3.size
        have h4 := HLT.out
        simp at h3
        exact .inr ⟨h, by omega⟩
end Go.Proofs.YthhkadeiplbdkaaDoor
