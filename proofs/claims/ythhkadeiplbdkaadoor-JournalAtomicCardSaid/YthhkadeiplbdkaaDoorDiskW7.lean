/- Walks of the disk's functions, part 7: Read. -/
import Derived.Test.YthhkadeiplbdkaaDoorDiskW6
set_option linter.unusedVariables false
set_option linter.unusedSimpArgs false
namespace Go.Proofs.YthhkadeiplbdkaaDoor
open Go.RowKit

theorem Dk.cur_hit (D : Dk) (i k : Nat) (hk : k < D.q.length) (h : D.q[k].1 = i) (hn : ∀ j (hj : j < D.q.length), k < j → D.q[j].1 ≠ i) : D.cur i = D.q[k].2 := by
  have e : D.q.reverse.find? (fun p => p.1 == i) = some D.q[k] := by
    have s : D.q = D.q.take k ++ (D.q[k] :: D.q.drop (k + 1)) := by rw [← List.drop_eq_getElem_cons hk, List.take_append_drop]
    have hC : (D.q.drop (k + 1)).reverse.find? (fun p => p.1 == i) = none := by
      rw [List.find?_eq_none]
      intro p hp
      rw [List.mem_reverse] at hp
      obtain ⟨j, hj, rfl⟩ := List.getElem_of_mem hp
      rw [List.length_drop] at hj
      rw [List.getElem_drop]
      simpa using hn (k + 1 + j) (by omega) (by omega)
    conv => lhs; rw [s]
    rw [List.reverse_append, List.reverse_cons, List.find?_append, List.find?_append, hC]
    simp [h]
  unfold Dk.cur
  rw [e]
theorem Dk.cur_miss (D : Dk) (i : Nat) (hn : ∀ j (hj : j < D.q.length), D.q[j].1 ≠ i) : D.cur i = Dk.str (D.st.getD i []) := by
  have e : D.q.reverse.find? (fun p => p.1 == i) = none := by
    rw [List.find?_eq_none]
    intro p hp
    rw [List.mem_reverse] at hp
    obtain ⟨j, hj, rfl⟩ := List.getElem_of_mem hp
    simpa using hn j hj
  unfold Dk.cur
  rw [e]

theorem Dk.cur_at (D : Dk) (i k : Nat) (s : ByteArray) (h : D.q[k]? = some (i, s)) (hn : ∀ j (hj : j < D.q.length), k + 1 ≤ j → D.q[j].1 ≠ i) : D.cur i = s := by
  obtain ⟨hk, e⟩ := List.getElem?_eq_some_iff.1 h
  rw [D.cur_hit i k hk (by rw [e]) (fun j hj hlt => hn j hj hlt), e]

def ReadPost (w : World) (D : Dk) (i : Int) (e : Ending) (w' : World) : Prop :=
  e = .returned (.tuple #[.string (D.read i).1, .int .i64 (D.read i).2]) ∧ Below w.heap.size w w'

set_option maxRecDepth 100000 in
set_option maxHeartbeats 400000 in
theorem read_nil (w : World) (i : Int) :
    Calls Tryd.prog 27 #[.pointer none, .int .i64 i] w fun e w' => e = .returned (.tuple #[.string (Dk.str []), .int .i64 1]) ∧ Below w.heap.size w w' := by
  have HP := Lib.hid (at_nil w i)
  go_enter Tryd.func27, Tryd.ntmps27
  go_wp2_with fail
  refine HP.out.mono ?_
  rintro e w1 ⟨rfl, hb⟩
  have HB := Lib.hid hb
  clear hb
  go_wp2
  go_ret2
  exact ⟨rfl, HB.out.alloc HB.out.size _⟩

set_option maxRecDepth 100000 in
set_option maxHeartbeats 400000 in
theorem read_off (w : World) (S : Nat → Prop) (db : Nat) (D : Dk) (i : Int) (hD : DiskAt w S db D) (ho : D.off = true) :
    Calls Tryd.prog 27 #[.pointer (some ⟨db, 0, none⟩), .int .i64 i] w (ReadPost w D i) := by
  have HP := Lib.hid (at_off w S db D i hD ho)
  have HE := Lib.hid (show D.read i = (Dk.str [], 28) by unfold Dk.read; rw [ho]; rfl)
  clear hD ho
  go_enter Tryd.func27, Tryd.ntmps27
  go_wp2_with fail
  refine HP.out.mono ?_
  rintro e w1 ⟨rfl, hb⟩
  have HB := Lib.hid hb
  clear hb
  go_wp2
  go_ret2
  unfold ReadPost
  rw [HE.out]
  exact ⟨rfl, HB.out.alloc HB.out.size _⟩

set_option maxRecDepth 100000 in
set_option maxHeartbeats 400000 in
theorem read_no (w : World) (S : Nat → Prop) (db : Nat) (D : Dk) (i : Int) (hD : DiskAt w S db D) (ho : D.off = false) (hv : D.valid i = false) :
    Calls Tryd.prog 27 #[.pointer (some ⟨db, 0, none⟩), .int .i64 i] w (ReadPost w D i) := by
  have HP := Lib.hid (at_no w S db D i hD ho hv)
  have HE := Lib.hid (show D.read i = (Dk.str [], 1) by unfold Dk.read; rw [ho, hv]; rfl)
  clear hD ho hv
  go_enter Tryd.func27, Tryd.ntmps27
  go_wp2_with fail
  refine HP.out.mono ?_
  rintro e w1 ⟨rfl, hb⟩
  have HB := Lib.hid hb
  clear hb
  go_wp2
  go_ret2
  unfold ReadPost
  rw [HE.out]
  exact ⟨rfl, HB.out.alloc HB.out.size _⟩

/-- What holds at the head of each round. -/
def ReadRel (S : Nat → Prop) (w : World) (db sb : Nat) (qv : Value) (ap : Option Addr) (D : Dk) (sp : Nat) (x y : Int) (i k : Nat) (wr : World) : Prop :=
  DiskL wr S db sb qv ap D ∧ Below w.heap.size w wr ∧ Blk wr sp 58 #[.int .i64 x, .int .i64 y] ∧ ∀ j (hj : j < D.q.length), k ≤ j → D.q[j].1 ≠ i
theorem ReadRel.drewN {S : Nat → Prop} {w : World} {db sb : Nat} {qv : Value} {ap : Option Addr} {D : Dk} {sp : Nat} {x y : Int} {i k : Nat} {wr : World} (h : ReadRel S w db sb qv ap D sp x y i k wr) (n : Nat) : ReadRel S w db sb qv ap D sp x y i k (wr.drewN n) :=
  have b : Below wr.heap.size wr (wr.drewN n) := ⟨rfl, rfl, rfl, Nat.le_refl _, fun _ _ => rfl⟩
  ⟨h.1.below b, h.2.1.trans (b.mono h.2.1.size), h.2.2.1.drewN n, h.2.2.2⟩

set_option maxHeartbeats 1000000 in
theorem read_yes (w : World) (S : Nat → Prop) (db : Nat) (D : Dk) (i : Int) (hD : DiskAt w S db D) (ho : D.off = false) (hv : D.valid i = true) (hq : D.q.length ≤ 1000000) :
    Calls Tryd.prog 27 #[.pointer (some ⟨db, 0, none⟩), .int .i64 i] w (ReadPost w D i) := by
  have HP := Lib.hid (at_yes w S db D i hD ho hv)
  have HE := Lib.hid (show D.read i = (D.cur i.toNat, 0) by unfold Dk.read; rw [ho, hv]; rfl)
  obtain ⟨sb, qv, ap, h⟩ := hD
  have hhi := h.inv.hi
  have H0 := Lib.hid h
  simp only [Dk.valid, Bool.and_eq_true, decide_eq_true_eq] at hv
  obtain ⟨n, rfl⟩ := Int.eq_ofNat_of_zero_le hv.1
  have hn : n < D.st.length := by omega
  simp only [Int.toNat_natCast] at HE
  obtain ⟨x, hx⟩ : ∃ x : Int, x = (n : Int) * 64 := ⟨_, rfl⟩
  obtain ⟨y, hy⟩ : ∃ y : Int, y = ((n : Int) + 1) * 64 := ⟨_, rfl⟩
  rw [← hx, ← hy] at HP
  have hx0 : 0 ≤ x := by omega
  have hxy : x ≤ y := by omega
  have hy2 : y ≤ 256000 := by omega
  have HX := Lib.hid hx
  have HY := Lib.hid hy
  have HN := Lib.hid hn
  clear hv ho hx hy hn h
  go_enter Tryd.func27, Tryd.ntmps27
  go_wp2_with fail
  refine HP.out.mono ?_
  rintro e w1 ⟨rfl, hb⟩
  have HB := Lib.hid hb
  have hl := H0.out.below hb
  obtain ⟨A, L, c, rfl, hL, hLc, hcm⟩ := hl.queue_slice
  have hL' : L ≤ 1000000 := by omega
  have d0 := hl.main.cell 0
  have d1 := hl.main.cell 1
  have d2 := hl.main.cell 2
  have d3 := hl.main.cell 3
  have df0 := hl.main.frozen 0
  have df1 := hl.main.frozen 1
  have df2 := hl.main.frozen 2
  have df3 := hl.main.frozen 3
  have dlt := hl.main.lt
  have HL := Lib.hid hl
  have HLL := Lib.hid hL
  have hszw := hb.size
  unfold maxLen at hcm
  clear hb hl hL
  go_wp2_with fail
  go_loopw [8] (fun i wr => ∃ k : Nat, k ≤ L ∧ i = .int .i64 ((k : Int) - 1) ∧ ReadRel S w db sb (.slice A L c) ap D w1.heap.size x y n k wr) (fun i _ => (intOf i + 1).toNat)
  case atStart =>
    refine ⟨L, Nat.le_refl _, rfl, HL.out.below ((Below.refl _ _).alloc (Nat.le_refl _) _), HB.out.alloc HB.out.size _, Blk.new _ _ _, fun j hj hk => ?_⟩
    have := HLL.out
    omega
  case round =>
    obtain ⟨k, hk, rfl, hrel⟩ := hrel
    have HR := Lib.hid hrel
    have r0 := hrel.1.main.cell 0
    have r1 := hrel.1.main.cell 1
    have r2 := hrel.1.main.cell 2
    have r3 := hrel.1.main.cell 3
    have rf0 := hrel.1.main.frozen 0
    have rf1 := hrel.1.main.frozen 1
    have rf2 := hrel.1.main.frozen 2
    have rf3 := hrel.1.main.frozen 3
    have rlt := hrel.1.main.lt
    have s0 := hrel.2.2.1.cell 0
    have s1 := hrel.2.2.1.cell 1
    have sf0 := hrel.2.2.1.frozen 0
    have sf1 := hrel.2.2.1.frozen 1
    have slt := hrel.2.2.1.lt
    clear hrel d0 d1 d2 d3 df0 df1 df2 df3 dlt HP
    by_cases hk0 : 0 < k
    · obtain ⟨k, rfl⟩ : ∃ m, k = m + 1 := ⟨k - 1, by omega⟩
      obtain ⟨g, c', hqq, hg, hc⟩ := HR.out.1.queue_form (by have := HLL.out; omega)
      injection hqq with hA hm hcc
      subst hA
      have hl := HR.out.1
      have hkq : k < D.q.length := by have := HLL.out; omega
      have c0 : wr.cell? ⟨g, k * 3, none⟩ = some (.int .i64 ((D.q[k].1 : Int) * 64)) := hl.queue_cell (k := k) hkq 0 (by omega)
      have c2 : wr.cell? ⟨g, k * 3 + 2, none⟩ = some (.string D.q[k].2) := hl.queue_cell (k := k) hkq 2 (by omega)
      have hget : D.q[k]? = some D.q[k] := List.getElem?_eq_getElem hkq
      generalize D.q[k] = pp at c0 c2 hget
      obtain ⟨pi, t⟩ := pp
      obtain ⟨z, hz⟩ : ∃ z : Int, z = (pi : Int) * 64 := ⟨_, rfl⟩
      simp only at c0 c2
      rw [← hz] at c0
      have HZ := Lib.hid hz
      have HG := Lib.hid hget
      have hkL : k < L := by omega
      have e1 : ((k + 1 : Nat) : Int) - 1 = (k : Int) := by omega
      rw [e1]
      clear hl hkq hz hm hcc hc e1 hk hk0 hget
      by_cases heq : z = x
      · have hb : (z == x) = true := by simpa using heq
        have HEQ := Lib.hid heq
        clear heq
        go_wp2_with fail
        go_quiet (fail)
        go_wp2
        go_ret2
        unfold ReadPost
        have hpi : pi = n := by have h1 := HZ.out; have h2 := HEQ.out; have h3 := HX.out; omega
        rw [HE.out, D.cur_at n k t (by rw [← hpi]; exact HG.out) HR.out.2.2.2]
        exact ⟨rfl, (HR.out.drewN nq).2.1⟩
      · have hb : (z == x) = false := by simpa using heq
        have HEQ := Lib.hid heq
        clear heq
        go_wp2_with fail
        go_quiet (fail)
        go_wp2
        go_roundw
        case rel =>
          have h1 := HR.out.drewN nq
          refine ⟨k, by omega, rfl, h1.1, h1.2.1, h1.2.2.1, fun j hj hkj => ?_⟩
          by_cases e : j = k
          · subst e
            have hg := HG.out
            rw [List.getElem?_eq_getElem hj] at hg
            injection hg with hg
            rw [hg]
            intro e2
            have h2 := HZ.out; have h3 := HX.out
            exact HEQ.out (by rw [h2, h3]; simp only at e2; rw [e2])
          · exact h1.2.2.2 j hj (by omega)
        case measure => first | (simp [intOf]; done) | (simp [intOf]; omega)
    · obtain rfl : k = 0 := by omega
      have hN := HR.out.1.inv
      obtain ⟨N, hN⟩ : ∃ N, N = 64 * D.st.length := ⟨_, rfl⟩
      rw [← hN] at r0
      have hcur := D.cur_miss n (fun j hj => HR.out.2.2.2 j hj (Nat.zero_le _))
      have hin := HN.out
      have h1 : y ≤ (N : Int) := by have := HY.out; omega
      have h2 : ¬ (N = x.toNat) := by have := HX.out; omega
      have h3 : (N : Int) ≤ 256000 := by omega
      have hx' : x.toNat = n * 64 := by have := HX.out; omega
      have hyx : y.toNat - x.toNat = 64 := by have := HX.out; have := HY.out; omega
      have hlen : (D.st.getD n []).length = 64 := Dk.getD_len HR.out.1.inv.sec hin
      have hconv : ∀ nq, (convert 51 9 (.slice (some ⟨sb, x.toNat, none⟩) (y.toNat - x.toNat) (N - x.toNat))).run Tryd.prog (wr.drewN nq) = .ok (.string (D.cur n)) (wr.drewN nq) := by
        intro nq
        rw [hcur]
        refine convert_bytes (wr.drewN nq) _ _ _ Tryd.underlying51 Tryd.underlying5 Tryd.underlying9 sb x.toNat _ _ (D.st.getD n []) (by rw [hlen, hyx]) (fun i hi => ?_)
        have hl := (HR.out.drewN nq).1
        have := hl.stab.cell (x.toNat + i)
        rw [this, byteCells_at _ _ (by rw [Dk.flat_length hl.inv.sec]; omega), hx', Dk.flat_sec hl.inv.sec hin _ (by omega)]
      have hconv0 := hconv 0
      have HC := Lib.hid hcur
      have e1 : ((0 : Nat) : Int) - 1 = -1 := by omega
      rw [e1]
      clear hcur hin hx' hyx hlen hN e1
      go_wp2_with fail
      go_quiet (fail)
      go_wp2
      go_ret2
      unfold ReadPost
      rw [HE.out]
      exact ⟨rfl, (HR.out.drewN nq).2.1⟩

theorem read_any (w : World) (S : Nat → Prop) (db : Nat) (D : Dk) (i : Int) (hD : DiskAt w S db D) (hq : D.q.length ≤ 1000000) :
    Calls Tryd.prog 27 #[.pointer (some ⟨db, 0, none⟩), .int .i64 i] w (ReadPost w D i) := by
  by_cases ho : D.off = true
  · exact read_off w S db D i hD ho
  · simp only [Bool.not_eq_true] at ho
    by_cases hv : D.valid i = true
    · exact read_yes w S db D i hD ho hv hq
    · exact read_no w S db D i hD ho (by simpa using hv)
end Go.Proofs.YthhkadeiplbdkaaDoor
