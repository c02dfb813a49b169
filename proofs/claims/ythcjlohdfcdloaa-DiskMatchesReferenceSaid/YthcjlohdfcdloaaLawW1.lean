/- Walks of the laws' own helpers: fill, size, ok, contents, same. -/
import Derived.Test.YthcjlohdfcdloaaAc
set_option linter.unusedVariables false
set_option linter.unusedSimpArgs false
namespace Go.Proofs.Ythcjlohdfcdloaa
open Go.RowKit

theorem bthen {B : Nat} {w w1 w2 : World} (h : Below B w w1) (hB : B ≤ w1.heap.size) (k : Below w1.heap.size w1 w2) : Below B w w2 := h.trans (k.mono hB)

set_option maxHeartbeats 400000 in
theorem fill_any (w : World) (t : ByteArray) (ht : t.size ≤ 140737488351232) :
    Calls Try.prog 28 #[.string t] w fun e w' => e = .returned (.string (fillv t)) ∧ Below w.heap.size w w' := by
  have HC := Lib.hid (text_any w ⟨0, 0, 0, t, false, 0⟩ ht)
  unfold Ac.cells at HC
  simp only at HC
  go_enter Try.func28, Try.ntmps28
  go_wp2_with fail
  refine HC.out.mono ?_
  rintro e w' ⟨rfl, hb⟩
  go_wp2
  go_ret
  exact ⟨rfl, hb⟩

def sizeN (r : Int) : Nat := (1 + r % 12).toNat
theorem sizeN_lo (r : Int) (h : 0 ≤ r) : 1 ≤ sizeN r := by unfold sizeN; omega
theorem sizeN_hi (r : Int) (h : 0 ≤ r) : sizeN r ≤ 12 := by unfold sizeN; omega

set_option maxHeartbeats 400000 in
theorem size_any (w : World) (r : Int) (h0 : 0 ≤ r) (h1 : r ≤ 255) :
    Calls Try.prog 14 #[.int .u8 r] w fun e w' => e = .returned (.int .i64 ((sizeN r : Nat) : Int)) ∧ w = w' := by
  have e : ((sizeN r : Nat) : Int) = 1 + r % 12 := by unfold sizeN; omega
  rw [e]
  clear e
  go_enter Try.func14, Try.ntmps14
  go_wp2
  go_ret
  exact ⟨rfl, rfl⟩

/-- A slice of acts, as it came in. -/
structure ActsAt (w : World) (A : Option Addr) (n : Nat) (l : List Ac) : Prop where
  len : l.length = n
  max : n ≤ 9223372036854775807
  wf : ∀ a ∈ l, a.Wf
  at_ : 0 < n → ∃ b o, A = some ⟨b, o, none⟩ ∧ b < w.heap.size ∧ ∀ k (h : k < l.length) j, j < 6 → w.cell? ⟨b, o + k * 6 + j, none⟩ = l[k].cells[j]?
theorem ActsAt.below {w w' : World} {A : Option Addr} {n : Nat} {l : List Ac} (h : ActsAt w A n l) (hb : Below w.heap.size w w') : ActsAt w' A n l :=
  ⟨h.len, h.max, h.wf, fun hn => by
    obtain ⟨b, o, e, hlt, hc⟩ := h.at_ hn
    exact ⟨b, o, e, Nat.lt_of_lt_of_le hlt hb.size, fun k hk j hj => by rw [hb.cell (p := ⟨b, _, none⟩) hlt]; exact hc k hk j hj⟩⟩

def okA (l : List Ac) : Bool := l.all (fun a => decide (a.text.size ≤ 100)) && decide (l.length ≤ 60)

set_option maxHeartbeats 400000 in
theorem ok_any (w : World) (A : Option Addr) (n c : Nat) (l : List Ac) (hl : ActsAt w A n l) :
    Calls Try.prog 12 #[.slice A n c] w fun e w' => e = .returned (.bool (okA l)) ∧ w = w' := by
  have HL := Lib.hid hl
  have hm := hl.max
  obtain ⟨r, hr⟩ : ∃ r, okA l = r := ⟨_, rfl⟩
  rw [hr]
  have HR := Lib.hid hr
  clear hl hr
  go_enter Try.func12, Try.ntmps12
  go_wp2
  go_loop [3] (fun i => ∃ k : Nat, k ≤ n ∧ i = .int .i64 (k : Int) ∧ ∀ j (hj : j < l.length), j < k → l[j].text.size ≤ 100) (fun i => n - (intOf i).toNat)
  case atStart => exact ⟨0, Nat.zero_le _, rfl, fun j hj h => absurd h (by omega)⟩
  case round =>
    obtain ⟨k, hk, rfl, hrel⟩ := hrel
    have HX := Lib.hid hrel
    clear hrel
    by_cases hlt : k < n
    · obtain ⟨b, o, rfl, hbl, hc⟩ := HL.out.at_ (by omega)
      have hkl : k < l.length := by rw [HL.out.len]; exact hlt
      have c3 : w.cell? ⟨b, o + k * 6 + 3, none⟩ = some (.string l[k].text) := hc k hkl 3 (by omega)
      have hts : l[k].text.size ≤ 140737488351232 := (HL.out.wf _ (List.getElem_mem hkl)).2.2.2.1
      have hget : l[k]? = some l[k] := List.getElem?_eq_getElem hkl
      generalize l[k] = x at c3 hts hget
      obtain ⟨t, ht⟩ : ∃ t, t = x.text := ⟨_, rfl⟩
      rw [← ht] at c3 hts
      have HT := Lib.hid ht
      have HG := Lib.hid hget
      clear hc hkl ht hget hbl
      by_cases h100 : t.size ≤ 100
      · go_wp2
        go_round
        case rel =>
          refine ⟨k + 1, by omega, by go_num, fun j hj hjk => ?_⟩
          by_cases e : j = k
          · subst e
            have hg := HG.out
            rw [List.getElem?_eq_getElem hj] at hg
            injection hg with hg
            rw [hg, ← HT.out]; exact h100
          · exact HX.out j hj (by omega)
        case measure => simp [intOf]; omega
      · go_wp2
        go_ret
        refine ⟨?_, rfl⟩
        have : okA l = false := by
          unfold okA
          rw [Bool.and_eq_false_iff]
          left
          rw [List.all_eq_false]
          exact ⟨x, List.mem_of_getElem? HG.out, by rw [← HT.out]; simpa using h100⟩
        rw [← HR.out, this]; rfl
    · obtain rfl : k = n := by omega
      clear hlt hk
      go_wp2
      go_ret
      refine ⟨?_, rfl⟩
      rw [← HR.out]
      have h1 : okA l = decide (k ≤ 60) := by
        unfold okA
        rw [HL.out.len]
        have : l.all (fun a => decide (a.text.size ≤ 100)) = true := by
          rw [List.all_eq_true]
          intro a ha
          obtain ⟨j, hj, rfl⟩ := List.getElem_of_mem ha
          simpa using HX.out j hj (by rw [HL.out.len] at hj; exact hj)
        rw [this]; rfl
      rw [h1]
      show Ending.returned (.bool (decide ((k : Int) ≤ 60))) = _
      rw [show decide ((k : Int) ≤ 60) = decide (k ≤ 60) from by rw [decide_eq_decide]; omega]

def curs (D : Dk) : List ByteArray := (List.range D.st.length).map D.cur
theorem cur_size {D : Dk} (h : D.Inv) {i : Nat} (hi : i < D.st.length) : (D.cur i).size = 64 := by
  unfold Dk.cur
  split
  · rename_i p hp
    have := List.mem_of_find?_eq_some hp
    rw [List.mem_reverse] at this
    exact (h.pend p this).2
  · show (D.st.getD i []).toArray.size = 64
    simpa using Dk.getD_len h.sec hi
def strV (l : List ByteArray) : List Value := l.map .string

def ContPost (w : World) (D : Dk) (e : Ending) (w' : World) : Prop :=
  ∃ v, e = .returned (.tuple #[v, .bool true]) ∧ w'.ownsRow w.heap.size 9 1 v D.st.length (strV (curs D)) ∧ Below w.heap.size w w'
def ContRel (w : World) (D : Dk) (k : Nat) (v : Value) (wr : World) : Prop :=
  wr.ownsRow w.heap.size 9 1 v k (strV ((List.range k).map D.cur)) ∧ Below w.heap.size w wr

theorem info_str : (Try.prog.info? 9).map (fun i => (i.zero, i.size, i.bytes)) = some (some (.string ⟨#[]⟩), 1, 16) := by kernel_rfl

theorem read_on {D : Dk} (ho : D.off = false) {k : Nat} (hk : k < D.st.length) : D.read (k : Int) = (D.cur k, 0) := by
  unfold Dk.read
  rw [ho, if_neg (by simp), if_pos (by simp [Dk.valid]; omega)]
  rfl

set_option maxHeartbeats 400000 in
theorem contents_any (w : World) (S : Nat → Prop) (db : Nat) (D : Dk) (hD : DiskAt w S db D) (ho : D.off = false) (hq : D.q.length ≤ 1000000) (N : Nat) (hN : N = D.st.length) :
    Calls Try.prog 22 #[.pointer (some ⟨db, 0, none⟩), .int .i64 (N : Int)] w (ContPost w D) := by
  have HD := Lib.hid hD
  have HO := Lib.hid ho
  have HN := Lib.hid hN
  have hm := hD.inv.hi
  have hN4 : N ≤ 4000 := by omega
  obtain ⟨i0, hi0, hz0, hz1, hz2⟩ := info_parts info_str
  have HI := Lib.hid hi0
  have HZ0 := Lib.hid hz0
  have HZ1 := Lib.hid hz1
  have HZ2 := Lib.hid hz2
  clear hD ho hN hm hi0 hz0 hz1 hz2
  go_enter Try.func22, Try.ntmps22
  go_wp2
  go_loopw [6, 7] (fun v i wr => ∃ k : Nat, k ≤ N ∧ i = .int .i64 (k : Int) ∧ ContRel w D k v wr) (fun _ i _ => N - (intOf i).toNat)
  case atStart => exact ⟨0, Nat.zero_le _, rfl, World.ownsRow_nil _ _ _ _, Below.refl _ _⟩
  case round =>
    obtain ⟨k, hk, rfl, hrel⟩ := hrel
    have HR := Lib.hid hrel
    clear hrel
    by_cases hlt : k < N
    · have HC := Lib.hid (read_any wr S db D k (HD.out.below HR.out.2) hq)
      have HE := Lib.hid (read_on HO.out (show k < D.st.length by have := HN.out; omega))
      have hs := cur_size HD.out.inv (show k < D.st.length by have := HN.out; omega)
      obtain ⟨s, hs'⟩ : ∃ s, D.cur k = s := ⟨_, rfl⟩
      rw [hs'] at HE hs
      have HS := Lib.hid hs'
      have hb1 : ((s.size : Int) != 64) = false := by simp; omega
      have hb2 : ((s.size : Int) == 64) = true := by simp; omega
      have hs2 : s.size ≤ 64 := by omega
      clear hs'
      go_wp2_with fail
      refine HC.out.mono ?_
      rintro e w1 ⟨rfl, hb⟩
      rw [HE.out]
      have HB := Lib.hid hb
      have hown := HR.out.1.kept (World.grownBy.mk hb.os hb.tape hb.output hb.size (row := none) fun k hk _ => hb.block k hk) (by cases u6.ownBlock <;> simp)
      have HOWN := Lib.hid hown
      have hsz := Nat.le_trans HR.out.2.size hb.size
      clear hb hown
      go_wp2_with (at_builtin; refine wpList_append_own_at _ rfl (.tmp 28) (.tmp 30) _ rfl w.heap.size 9 i0 _ 1 16 Try.underlying39 HI.out HZ0.out HZ1.out HZ2.out rfl (by omega) u6 k _ rfl (HOWN.out.alloc _) ⟨w1.heap.size, 0, none⟩ 1 1 [.string s] rfl rfl (cell_one_new _ _ _) (by simp [Value.oneCell']) (by simp only [maxLen]; omega) (by omega) (by simp; omega) ?_; intro v1 w2 hown2 hg2 hnil2 hat2; have HOWN2 := Lib.hid hown2; have HG2 := Lib.hid hg2; clear hown2 hg2 hnil2 hat2)
      go_roundw
      case rel =>
        refine ⟨k + 1, by omega, by go_num, ?_, ?_⟩
        · have h := HOWN2.out
          rw [← HS.out] at h
          rw [List.range_succ]
          simpa [strV] using h
        · exact ((bthen HR.out.2 HR.out.2.size HB.out).alloc hsz _).grown HG2.out (by simp; omega) (fun j hj => (HR.out.1.lt j hj).1)
      case measure => simp [intOf]; omega
    · obtain rfl : k = N := by omega
      clear hlt hk
      go_wp2
      go_ret2
      have h1 := HR.out.1
      have h2 := HR.out.2
      rw [HN.out] at h1
      exact ⟨u6, rfl, h1, h2⟩

/-- The same, laid open: the row's block and its cells. -/
def ContRow (w : World) (D : Dk) (N : Nat) (e : Ending) (w' : World) : Prop :=
  ∃ g c, e = .returned (.tuple #[.slice (some ⟨g, 0, none⟩) N c, .bool true]) ∧ (w.heap.size ≤ g ∧ g < w'.heap.size) ∧ (∀ k, k < N → w'.cell? ⟨g, k, none⟩ = some (.string (D.cur k))) ∧ w'.ownsRow 0 9 1 (.slice (some ⟨g, 0, none⟩) N c) N (strV (curs D)) ∧ Below w.heap.size w w'
theorem contents_row (w : World) (S : Nat → Prop) (db : Nat) (D : Dk) (hD : DiskAt w S db D) (ho : D.off = false) (hq : D.q.length ≤ 1000000) (N : Nat) (hN : N = D.st.length) :
    Calls Try.prog 22 #[.pointer (some ⟨db, 0, none⟩), .int .i64 (N : Int)] w (ContRow w D N) := by
  refine (contents_any w S db D hD ho hq N hN).mono ?_
  rintro e w' ⟨v, rfl, hown, hb⟩
  have hlo := hD.inv.lo
  rw [← hN] at hown hlo
  obtain ⟨g, cap, rfl, hg, hlt⟩ := hown.form (by omega)
  refine ⟨g, cap, rfl, ⟨hg, hlt⟩, fun k hk => ?_, ⟨hown.1, ?_⟩, hb⟩
  · rw [hown.cellAt k (by omega)]
    simp [strV, curs, ← hN, hk]
  · rcases hown.2 with h | ⟨g, cap, cur, h1, h2, h3⟩
    · exact .inl h
    · exact .inr ⟨g, cap, cur, h1, Nat.zero_le _, h3⟩

/-- A list of strings in memory. -/
structure StrsAt (w : World) (v : Value) (xs : List ByteArray) : Prop where
  own : w.ownsRow 0 9 1 v xs.length (strV xs)
  wf : ∀ s ∈ xs, s.size ≤ 140737488351232
theorem StrsAt.form {w : World} {v : Value} {xs : List ByteArray} (h : StrsAt w v xs) : ∃ A c, v = .slice A xs.length c ∧ xs.length ≤ 9223372036854775807 ∧ (0 < xs.length → ∃ g, A = some ⟨g, 0, none⟩ ∧ g < w.heap.size) ∧
    ∀ g, A = some ⟨g, 0, none⟩ → ∀ k (hk : k < xs.length), w.cell? ⟨g, k, none⟩ = some (.string xs[k]) := by
  rcases h.own.2 with ⟨rfl, h0⟩ | ⟨g, cap, cur, rfl, _, hh, hc, hm, _⟩
  · refine ⟨none, 0, by rw [h0], by omega, fun hp => by omega, fun g e => by cases e⟩
  · refine ⟨_, cap, rfl, by simp only [maxLen] at hm; omega, fun _ => ⟨g, rfl, (Array.getElem?_eq_some_iff.1 hh).1⟩, fun g' e k hk => ?_⟩
    injection e with e
    injection e with e
    subst e
    rw [h.own.cellAt k (by omega)]
    simp [strV, hk]

set_option maxHeartbeats 400000 in
theorem same_any (w : World) (va vb : Value) (xs ys : List ByteArray) (ha : StrsAt w va xs) (hb : StrsAt w vb ys) :
    Calls Try.prog 27 #[va, vb] w fun e w' => e = .returned (.bool (decide (xs = ys))) ∧ Below w.heap.size w w' := by
  obtain ⟨A, c, rfl, hm, hpa, hca⟩ := ha.form
  obtain ⟨B, d, rfl, hm2, hpb, hcb⟩ := hb.form
  obtain ⟨r, hr⟩ : ∃ r, decide (xs = ys) = r := ⟨_, rfl⟩
  rw [hr]
  have HR := Lib.hid hr
  have HWA := Lib.hid ha.wf
  have HWB := Lib.hid hb.wf
  have HPA := Lib.hid hpa
  have HPB := Lib.hid hpb
  have HCA := Lib.hid hca
  have HCB := Lib.hid hcb
  obtain ⟨n, hn⟩ : ∃ n, n = xs.length := ⟨_, rfl⟩
  obtain ⟨m, hm'⟩ : ∃ m, m = ys.length := ⟨_, rfl⟩
  rw [← hn] at hm ⊢
  rw [← hm'] at hm2 ⊢
  have HN := Lib.hid hn
  have HM := Lib.hid hm'
  clear ha hb hpa hpb hca hcb hr hn hm'
  by_cases hnm : n = m
  · subst hnm
    have b1 : ((n : Int) != (n : Int)) = false := by simp
    go_enter Try.func27, Try.ntmps27
    go_wp2
    go_loopw [5] (fun i wr => ∃ k : Nat, k ≤ n ∧ i = .int .i64 (k : Int) ∧ Below w.heap.size w wr ∧ ∀ j (h1 : j < xs.length) (h2 : j < ys.length), j < k → xs[j] = ys[j]) (fun i _ => n - (intOf i).toNat)
    case atStart => exact ⟨0, Nat.zero_le _, rfl, Below.refl _ _, fun j _ _ h => absurd h (by omega)⟩
    case round =>
      obtain ⟨k, hk, rfl, hb, hx⟩ := hrel
      have HB := Lib.hid hb
      have HX := Lib.hid hx
      clear hb hx
      by_cases hlt : k < n
      · obtain ⟨g, rfl, hg⟩ := HPA.out (by have := HN.out; omega)
        obtain ⟨g', rfl, hg'⟩ := HPB.out (by have := HM.out; omega)
        have hkx : k < xs.length := by have := HN.out; omega
        have hky : k < ys.length := by have := HM.out; omega
        have c1 := (HB.out.cell (p := ⟨g, k, none⟩) hg).trans (HCA.out g rfl k hkx)
        have c2 := (HB.out.cell (p := ⟨g', k, none⟩) hg').trans (HCB.out g' rfl k hky)
        have gx : xs[k]? = some xs[k] := List.getElem?_eq_getElem hkx
        have gy : ys[k]? = some ys[k] := List.getElem?_eq_getElem hky
        have GX := Lib.hid gx
        have GY := Lib.hid gy
        generalize xs[k] = s at c1 GX
        generalize ys[k] = t at c2 GY
        clear gx gy hkx hky
        by_cases hst : s = t
        · subst hst
          go_wp2_with fail
          go_quiet (fail)
          go_wp2
          go_roundw
          case rel =>
            refine ⟨k + 1, by omega, by go_num, HB.out.trans ⟨rfl, rfl, rfl, Nat.le_refl _, fun _ _ => rfl⟩, fun j h1 h2 hj => ?_⟩
            by_cases e : j = k
            · subst e
              have e1 := GX.out
              have e2 := GY.out
              rw [List.getElem?_eq_getElem h1] at e1
              rw [List.getElem?_eq_getElem h2] at e2
              injection e1 with e1
              injection e2 with e2
              rw [e1, e2]
            · exact HX.out j h1 h2 (by omega)
          case measure => simp [intOf]; omega
        · have b3 := str_ne hst
          have HST := Lib.hid hst
          clear hst
          go_wp2_with fail
          go_quiet (fail)
          go_wp2
          go_ret
          refine ⟨?_, HB.out.trans ⟨rfl, rfl, rfl, Nat.le_refl _, fun _ _ => rfl⟩⟩
          rw [← HR.out]
          have : ¬ xs = ys := fun e => by
            have e1 := GX.out
            rw [e, GY.out] at e1
            injection e1 with e1
            exact HST.out e1.symm
          rw [show decide (xs = ys) = false from decide_eq_false this]; rfl
      · obtain rfl : k = n := by omega
        clear hlt hk
        go_wp2
        go_ret
        refine ⟨?_, HB.out⟩
        rw [← HR.out]
        have : xs = ys := List.ext_getElem (by rw [← HN.out, ← HM.out]) (fun j h1 h2 => HX.out j h1 h2 (by rw [HN.out]; exact h1))
        rw [show decide (xs = ys) = true from decide_eq_true this]; rfl
  · have b1 : ((n : Int) != (m : Int)) = true := by simp; omega
    have b2 : ((n : Int) == (m : Int)) = false := by simp; omega
    go_enter Try.func27, Try.ntmps27
    go_wp2
    go_ret
    refine ⟨?_, Below.refl _ _⟩
    rw [← HR.out]
    have : ¬ xs = ys := fun e => hnm (by rw [HN.out, HM.out, e])
    rw [show decide (xs = ys) = false from decide_eq_false this]; rfl
end Go.Proofs.Ythcjlohdfcdloaa
