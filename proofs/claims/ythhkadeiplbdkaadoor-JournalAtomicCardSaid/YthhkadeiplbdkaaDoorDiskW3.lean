/- Walks of the disk's functions, part 3: Fail. -/
import Derived.Test.YthhkadeiplbdkaaDoorDiskW2
set_option linter.unusedVariables false
set_option linter.unusedSimpArgs false
namespace Go.Proofs.YthhkadeiplbdkaaDoor
open Go.RowKit

def FailPost (S : Nat → Prop) (w : World) (db : Nat) (D : Dk) (e : Ending) (w' : World) : Prop :=
  e = .returned (.tuple #[]) ∧ DiskAt w' S db D ∧ Touch S w w'

set_option maxRecDepth 100000 in
set_option maxHeartbeats 400000 in
theorem fail_nil (w : World) (a b : Int) :
    Calls Tryd.prog 13 #[.pointer none, .int .i64 a, .int .i64 b] w fun e w' => e = .returned (.tuple #[]) ∧ w = w' := by
  go_enter Tryd.func13, Tryd.ntmps13
  go_wp2
  refine bodyPost_ret (results_none rfl _ _ _) rfl ?_
  exact ⟨rfl, rfl⟩

set_option maxRecDepth 100000 in
set_option maxHeartbeats 400000 in
theorem fail_off (w : World) (S : Nat → Prop) (db : Nat) (D : Dk) (a b : Int) (hD : DiskAt w S db D) (ho : D.off = true) :
    Calls Tryd.prog 13 #[.pointer (some ⟨db, 0, none⟩), .int .i64 a, .int .i64 b] w fun e w' => e = .returned (.tuple #[]) ∧ w = w' := by
  obtain ⟨sb, qv, ap, h⟩ := hD
  have hc2 := h.main.cell 2
  have hdb := h.main.lt
  rw [ho] at hc2
  clear h ho
  go_enter Tryd.func13, Tryd.ntmps13
  go_wp2
  refine bodyPost_ret (results_none rfl _ _ _) rfl ?_
  exact ⟨rfl, rfl⟩

theorem DiskL.failed {S : Nat → Prop} {w : World} {db sb : Nat} {qv : Value} {ap : Option Addr} {D : Dk} (h : DiskL w S db sb qv ap D) :
    DiskAt (((w.setCell ⟨db, 1, none⟩ (.slice none 0 0)).setCell ⟨db, 2, none⟩ (.bool true)).setCell ⟨db, 3, none⟩ (.pointer none)) S db { st := D.st, q := [], off := true, al := none } ∧
      Touch S w (((w.setCell ⟨db, 1, none⟩ (.slice none 0 0)).setCell ⟨db, 2, none⟩ (.bool true)).setCell ⟨db, 3, none⟩ (.pointer none)) := by
  have n1 := h.main.ne_ h.stab (by decide)
  refine ⟨⟨sb, .slice none 0 0, none, ?_, ?_, World.ownsRow_nil _ _ _ _, rfl, h.sdb, h.ssb, by simp [Value.ownBlock], ⟨h.inv.lo, h.inv.hi, h.inv.sec, by simp, by simp, by simp⟩⟩, ?_⟩
  · exact ((h.main.set_ 1 _).set_ 2 _).set_ 3 _
  · exact ((h.stab.far (p := ⟨db, 1, none⟩) (fun e => n1 e.symm) _).far (p := ⟨db, 2, none⟩) (fun e => n1 e.symm) _).far (p := ⟨db, 3, none⟩) (fun e => n1 e.symm) _
  · exact (((Touch.refl _ _).setCell (.inr h.sdb) _).setCell (.inr h.sdb) _).setCell (.inr h.sdb) _

set_option maxRecDepth 100000 in
set_option maxHeartbeats 400000 in
theorem fail_on (w : World) (S : Nat → Prop) (db : Nat) (D : Dk) (a b : Int) (hD : DiskAt w S db D) (ho : D.off = false) (hq : D.q.length ≤ 1000000) :
    Calls Tryd.prog 13 #[.pointer (some ⟨db, 0, none⟩), .int .i64 a, .int .i64 b] w (FailPost S w db (D.fail a b)) := by
  obtain ⟨sb, qv, ap, h⟩ := hD
  obtain ⟨A, L, c, rfl, hL, hLc, hcm⟩ := h.queue_slice
  have hc1 := h.main.cell 1
  have hc2 := h.main.cell 2
  have hdb := h.main.lt
  rw [ho] at hc2
  have H := Lib.hid h
  have HL := Lib.hid hL
  have hL' : L ≤ 1000000 := by omega
  clear h hL hq
  unfold maxLen at hcm
  obtain ⟨a1, ha1⟩ : ∃ a1 : Int, (if a < 0 then 0 else a) = a1 := ⟨_, rfl⟩
  obtain ⟨n, hn⟩ : ∃ n : Nat, (if (L : Int) < a1 then (L : Int) else a1) = (n : Int) := ⟨Dk.clamp a L, by unfold Dk.clamp; subst ha1; split <;> split <;> omega⟩
  have hnc : n = Dk.clamp a L := by unfold Dk.clamp; split at ha1 <;> split at hn <;> omega
  have hnL : n ≤ L := by unfold Dk.clamp at hnc; omega
  have HNC := Lib.hid hnc
  clear hnc
  go_enter Tryd.func13, Tryd.ntmps13
  go_wp2_with fail
  refine (settle_any w S db sb A L c ap D n H.out (by have := HL.out; omega) (by have := HL.out; omega)).mono ?_
  rintro e w1 ⟨rfl, hL1, ht1⟩
  have H1 := Lib.hid hL1
  have HT1 := Lib.hid ht1
  have d0 := hL1.main.cell 0
  have d1 := hL1.main.cell 1
  have d2 := hL1.main.cell 2
  have d3 := hL1.main.cell 3
  have df0 := hL1.main.frozen 0
  have df1 := hL1.main.frozen 1
  have df2 := hL1.main.frozen 2
  have df3 := hL1.main.frozen 3
  have dlt := hL1.main.lt
  clear hL1 ht1
  by_cases hlt : n < L
  · obtain ⟨g, c', hq, hg, hc'⟩ := H1.out.queue_form (by show 0 < D.q.length; have := HL.out; omega)
    injection hq with hA hm hcc
    subst hA
    have hl := H1.out
    have hkq : n < D.q.length := by have := HL.out; omega
    have hpi := hl.inv.pend D.q[n] (List.getElem_mem hkq)
    have c0 : w1.cell? ⟨g, n * 3, none⟩ = some (.int .i64 ((D.q[n].1 : Int) * 64)) := hl.queue_cell (k := n) hkq 0 (by omega)
    have c1 : w1.cell? ⟨g, n * 3 + 1, none⟩ = some (.int .i64 (((D.q[n].1 : Int) + 1) * 64)) := hl.queue_cell (k := n) hkq 1 (by omega)
    have c2 : w1.cell? ⟨g, n * 3 + 2, none⟩ = some (.string D.q[n].2) := hl.queue_cell (k := n) hkq 2 (by omega)
    have hget : D.q[n]? = some D.q[n] := List.getElem?_eq_getElem hkq
    generalize D.q[n] = pp at c0 c1 c2 hpi hget
    obtain ⟨pi, ps⟩ := pp
    obtain ⟨x, hx⟩ : ∃ x : Int, x = (pi : Int) * 64 := ⟨_, rfl⟩
    obtain ⟨y, hy⟩ : ∃ y : Int, y = ((pi : Int) + 1) * 64 := ⟨_, rfl⟩
    simp only at c0 c1 c2
    rw [← hx] at c0
    rw [← hy] at c1
    obtain ⟨b1, hb1⟩ : ∃ b1 : Int, (if b < 0 then 0 else b) = b1 := ⟨_, rfl⟩
    obtain ⟨k, hk⟩ : ∃ k : Nat, (if (64 : Int) < b1 then (64 : Int) else b1) = (k : Int) := ⟨Dk.clamp b 64, by unfold Dk.clamp; subst hb1; split <;> split <;> omega⟩
    have hkc : k = Dk.clamp b 64 := by unfold Dk.clamp; split at hb1 <;> split at hk <;> omega
    have hk64 : k ≤ 64 := by unfold Dk.clamp at hkc; omega
    have hps : ps.size = 64 := hpi.2
    have HPI := Lib.hid hpi.1
    have HX := Lib.hid hx
    have HY := Lib.hid hy
    have HK := Lib.hid hkc
    have HG := Lib.hid hget
    clear hn ha1 hl hkq hpi hx hy hkc hget hm hcc
    by_cases hk0 : 0 < k
    · have hb0 : 0 ≤ b := by split at hb1 <;> split at hk <;> omega
      have hk' : (if (64 : Int) < b then (64 : Int) else b) = (k : Int) := by
        rw [if_neg (by omega)] at hb1; rw [hb1]; exact hk
      have HC := Lib.hid (set_any ((w1.alloc (.cells #[.int .i64 x, .int .i64 y, .string ps] 60)).drew) S db sb _ ap _ pi (ps.extract 0 k) ((H1.out.below ((Below.refl _ _).alloc (Nat.le_refl _) _)).below ((Below.refl _ _).drew)) HPI.out (by simp; omega) x y HX.out HY.out)
      have e : D.fail a b = { st := Dk.put (Dk.settle D.st (D.q.take n)) pi (ps.extract 0 k).data.toList, q := [], off := true, al := none } := by
        have h1 := HNC.out; have h2 := HL.out; have h3 := HK.out
        unfold Dk.fail Dk.failSt
        rw [ho, ← h2, ← h1, HG.out, ← h3]
        simp [ByteArray.data_extract, List.extract_eq_take_drop]
      have HE := Lib.hid e
      clear hb1 hk hc1 hc2 e
      go_wp2_with fail
      go_region_with (go_at_call 26; refine HC.out.mono ?_; rintro e w2 ⟨rfl, hL2, ht2⟩; have HL2 := Lib.hid hL2; have HT2 := Lib.hid ht2; have e1 := hL2.main.cell 1; have e2 := hL2.main.cell 2; have e3 := hL2.main.cell 3; have ef1 := hL2.main.frozen 1; have ef2 := hL2.main.frozen 2; have ef3 := hL2.main.frozen 3; clear hL2 ht2)
      all_goals
        go_wp2
        go_end0
        have hf := HL2.out.failed
        rw [HE.out]
        refine ⟨rfl, hf.1, ?_⟩
        exact (((((HT1.out.mono fun k _ e => by rw [e]; exact H1.out.ssb).alloc _).drew).trans HT2.out fun k _ e => by rw [e]; exact H1.out.ssb)).trans hf.2 fun _ _ => id
    · have e : D.fail a b = { st := Dk.settle D.st (D.q.take n), q := [], off := true, al := none } := by
        have h1 := HNC.out; have h2 := HL.out; have h3 := HK.out
        unfold Dk.fail Dk.failSt
        rw [ho, ← h2, ← h1, HG.out, ← h3, show k = 0 by omega]
        have hz := Dk.put_nil (Dk.settle D.st (D.q.take n)) pi
        simp [hz]
      have HE := Lib.hid e
      have hb1' : b1 ≤ 0 := by split at hk <;> omega
      clear hk hc1 hc2 e hk64
      go_wp2
      go_end0
      have hf := H1.out.failed
      rw [HE.out]
      refine ⟨rfl, hf.1.below ((Below.refl _ _).alloc (Nat.le_refl _) _), ?_⟩
      exact ((HT1.out.mono fun k _ e => by rw [e]; exact H1.out.ssb).trans hf.2 fun _ _ => id).alloc _
  · clear hn ha1
    go_wp2
    go_end0
    have hf := H1.out.failed
    have e : D.fail a b = { st := Dk.settle D.st (D.q.take n), q := [], off := true, al := none } := by
      have h1 := HNC.out; have h2 := HL.out
      unfold Dk.fail Dk.failSt
      rw [ho, ← h2, ← h1, List.getElem?_eq_none (by omega)]
      rfl
    rw [e]
    exact ⟨rfl, hf.1, (HT1.out.mono fun k _ e => by rw [e]; exact H1.out.ssb).trans hf.2 fun _ _ => id⟩
end Go.Proofs.YthhkadeiplbdkaaDoor
