/- The walk of DiskStable. -/
import Derived.Test.YthcjlohdfcdloaaDkPure
set_option linter.unusedVariables false
set_option linter.unusedSimpArgs false
namespace Go.Proofs.Ythcjlohdfcdloaa
open Go.RowKit

theorem info_bool : (Try.prog.info? 4).map (fun i => (i.zero, i.size, i.bytes)) = some (some (.bool false), 1, 1) := by kernel_rfl
theorem bools_run (m : Nat) (hm : m ≤ 256000) (W : World) : (Instr.makeSlice 42 (.int .i64 (m : Int)) (.int .i64 (m : Int))).run Try.prog W = .ok (.slice (some ⟨W.heap.size, 0, none⟩) m m) (W.alloc (.cells (madeCells #[.bool false] m) 4)) :=
  run_make_row' 42 4 (.bool false) 1 Try.underlying42 info_bool rfl .i64 .i64 m (by omega) (by omega) W
def boolV (l : List Bool) : Array Value := (l.map .bool).toArray
theorem boolV_made (m : Nat) : madeCells #[.bool false] m = boolV (List.replicate m false) := by
  have h1 := toList_madeCells_one (.bool false) m
  rw [← Array.toArray_toList (xs := madeCells _ _), h1]
  simp [boolV]

def StableRel (B : Nat) (w0 : World) (db : Nat) (D : Dk) (N : Nat) (l : List Ac) (g gw : Nat) (k : Nat) (w : World) : Prop :=
  Lone (fun k => k = g ∨ k = gw) B w0 db (D.wrs (l.take k)) w ∧ Blk w gw 4 (boolV (D.marks (List.replicate N false) (l.take k))) ∧ ∀ k, k < N → w.cell? ⟨g, k, none⟩ = some (.string (D.cur k))

theorem stable_yes_step {B : Nat} {w0 w : World} {db : Nat} {D : Dk} {N : Nat} {l : List Ac} {g gw k : Nat} {sector : Int} {s : ByteArray}
    (h1 : Lone (fun k => k = g ∨ k = gw) B w0 db ((D.wrs (l.take k)).write sector s).1 w) (h2 : Blk w gw 4 (boolV (D.marks (List.replicate N false) (l.take k)))) (h3 : ∀ k, k < N → w.cell? ⟨g, k, none⟩ = some (.string (D.cur k)))
    (hg : g < gw) (hgB : B ≤ g) (hwB : B ≤ gw) (a : Ac) (hget : l[k]? = some a) (hs : a.txt = s) (hw : ((D.wrs (l.take k)).write sector s).2 = 0) (ha : a.sector = sector := by rfl) :
    StableRel B w0 db D N l g gw (k + 1) (w.setCell ⟨gw, sector.toNat, none⟩ (.bool true)) := by
  subst hs; subst ha
  have ht : Touch (fun k => k = g ∨ k = gw) w (w.setCell ⟨gw, a.sector.toNat, none⟩ (.bool true)) := (Touch.refl _ w).setCell (p := ⟨gw, _, none⟩) (.inr (.inr rfl)) _
  refine ⟨?_, ?_, fun j hj => ?_⟩
  · rw [Dk.wrs_take _ _ _ _ hget]
    exact h1.touch ht fun k hk => by rcases hk with rfl | rfl <;> assumption
  · rw [Dk.marks_take _ _ _ _ _ hget, if_pos hw]
    have := h2.set_ a.sector.toNat (.bool true)
    have e : boolV ((D.marks (List.replicate N false) (l.take k)).set a.sector.toNat true) = (boolV (D.marks (List.replicate N false) (l.take k))).setIfInBounds a.sector.toNat (.bool true) := by
      simp [boolV, List.map_set]
    rw [e]; exact this
  · rw [World.cell?_of_block (a := ⟨g, j, none⟩) (Below.heap_setCell w ⟨gw, a.sector.toNat, none⟩ (.bool true) g (by show g ≠ gw; omega))]
    exact h3 j hj
theorem stable_no_step {B : Nat} {w0 w : World} {db : Nat} {D : Dk} {N : Nat} {l : List Ac} {g gw k : Nat} {sector : Int} {s : ByteArray}
    (h1 : Lone (fun k => k = g ∨ k = gw) B w0 db ((D.wrs (l.take k)).write sector s).1 w) (h2 : Blk w gw 4 (boolV (D.marks (List.replicate N false) (l.take k)))) (h3 : ∀ k, k < N → w.cell? ⟨g, k, none⟩ = some (.string (D.cur k)))
    (a : Ac) (hget : l[k]? = some a) (hs : a.txt = s) (hw : ((D.wrs (l.take k)).write sector s).2 = 1) (ha : a.sector = sector := by rfl) :
    StableRel B w0 db D N l g gw (k + 1) w := by
  subst hs; subst ha
  refine ⟨?_, ?_, h3⟩
  · rw [Dk.wrs_take _ _ _ _ hget]; exact h1
  · rw [Dk.marks_take _ _ _ _ _ hget, if_neg (by rw [hw]; decide)]; exact h2

def StableLast (w0 w : World) (D : Dk) (N : Nat) (W : List Bool) (g gw g2 : Nat) (Dn : Dk) : Prop :=
  Below w0.heap.size w0 w ∧ Blk w gw 4 (boolV W) ∧ (∀ k, k < N → w.cell? ⟨g, k, none⟩ = some (.string (D.cur k))) ∧ (∀ k, k < N → w.cell? ⟨g2, k, none⟩ = some (.string (Dn.cur k)))
theorem StableLast.drewN {w0 w : World} {D : Dk} {N : Nat} {W : List Bool} {g gw g2 : Nat} {Dn : Dk} (h : StableLast w0 w D N W g gw g2 Dn) (n : Nat) : StableLast w0 (w.drewN n) D N W g gw g2 Dn :=
  ⟨h.1.trans ⟨rfl, rfl, rfl, Nat.le_refl _, fun _ _ => rfl⟩, h.2.1.drewN n, h.2.2⟩

set_option maxHeartbeats 400000 in
theorem stable_no (w : World) (r : Int) (A1 : Option Addr) (n1 c1 : Nat) (l1 : List Ac) (A2 : Option Addr) (n2 c2 : Nat) (l2 : List Ac) (x y : Int) (hl1 : ActsAt w A1 n1 l1) (hl2 : ActsAt w A2 n2 l2) (hno : okA l1 = false ∨ (okA l1 = true ∧ okA l2 = false)) :
    Calls Try.prog 4 #[.int .u8 r, .slice A1 n1 c1, .slice A2 n2 c2, .int .i64 x, .int .i64 y] w fun e w' => e = .returned (.bool true) ∧ Below w.heap.size w w' := by
  have HL1 := Lib.hid hl1
  have HL2 := Lib.hid hl2
  clear hl1 hl2
  rcases hno with h | ⟨h, h'⟩
  · go_enter Try.func4, Try.ntmps4
    go_wp2_with fail
    refine (head_any w).mono ?_
    rintro e w1 ⟨rfl, hb⟩
    have HB := Lib.hid hb
    clear hb
    go_wp2_with fail
    refine (ok_any w1 A1 n1 c1 l1 (HL1.out.below HB.out)).mono ?_
    rintro e w2 ⟨rfl, rfl⟩
    rw [h]
    clear h
    go_wp2
    go_ret
    exact ⟨rfl, HB.out⟩
  · go_enter Try.func4, Try.ntmps4
    go_wp2_with fail
    refine (head_any w).mono ?_
    rintro e w1 ⟨rfl, hb⟩
    have HB := Lib.hid hb
    clear hb
    go_wp2_with fail
    refine (ok_any w1 A1 n1 c1 l1 (HL1.out.below HB.out)).mono ?_
    rintro e w2 ⟨rfl, rfl⟩
    rw [h]
    clear h
    go_wp2_with fail
    refine (ok_any w1 A2 n2 c2 l2 (HL2.out.below HB.out)).mono ?_
    rintro e w2 ⟨rfl, rfl⟩
    rw [h']
    clear h'
    go_wp2
    go_ret
    exact ⟨rfl, HB.out⟩

set_option maxRecDepth 100000 in
set_option maxHeartbeats 1000000 in
theorem stable_yes (w : World) (r : Int) (h0 : 0 ≤ r) (h1 : r ≤ 255) (A1 : Option Addr) (n1 c1 : Nat) (l1 : List Ac) (A2 : Option Addr) (n2 c2 : Nat) (l2 : List Ac) (x y : Int) (hl1 : ActsAt w A1 n1 l1) (hl2 : ActsAt w A2 n2 l2) (hk1 : okA l1 = true) (hk2 : okA l2 = true) :
    Calls Try.prog 4 #[.int .u8 r, .slice A1 n1 c1, .slice A2 n2 c2, .int .i64 x, .int .i64 y] w fun e w' => e = .returned (.bool true) ∧ Below w.heap.size w w' := by
  have hn1 : n1 ≤ 60 := by have := okA_len hk1; rw [hl1.len] at this; exact this
  have hn2 : n2 ≤ 60 := by have := okA_len hk2; rw [hl2.len] at this; exact this
  have HL1 := Lib.hid hl1
  have HL2 := Lib.hid hl2
  have HK1 := Lib.hid hk1
  have HK2 := Lib.hid hk2
  obtain ⟨N, hN⟩ : ∃ N, N = sizeN r := ⟨_, rfl⟩
  have hN1 : 1 ≤ N := by rw [hN]; exact sizeN_lo r h0
  have hN2 : N ≤ 12 := by rw [hN]; exact sizeN_hi r h0
  have HSZ := Lib.hid (fun W => size_any W r h0 h1)
  rw [← hN] at HSZ
  have HQ1 := Lib.hid (show ∀ k, ((Dk.new N).run (l1.take k)).q.length < 1000000 from fun k => by
    have h := Dk.run_q (l1.take k) (Dk.new N)
    have h2 := List.length_take_le' k l1
    rw [hl1.len] at h2
    simp only [Dk.new, List.length_nil] at h
    exact Nat.lt_of_le_of_lt h (by omega))
  have hmk := bools_run N (by omega)
  have HMK := Lib.hid hmk
  clear hl1 hl2 hk1 hk2 hN h0 h1 hmk
  go_enter Try.func4, Try.ntmps4
  go_wp2_with fail
  refine (head_any w).mono ?_
  rintro e w1 ⟨rfl, hb⟩
  have HB := Lib.hid hb
  have hz1 := hb.size
  clear hb
  go_wp2_with fail
  refine (ok_any w1 A1 n1 c1 l1 (HL1.out.below HB.out)).mono ?_
  rintro e w2 ⟨rfl, rfl⟩
  rw [HK1.out]
  go_wp2_with fail
  refine (ok_any w1 A2 n2 c2 l2 (HL2.out.below HB.out)).mono ?_
  rintro e w2 ⟨rfl, rfl⟩
  rw [HK2.out]
  go_wp2_with fail
  refine (HSZ.out w1).mono ?_
  rintro e w2 ⟨rfl, rfl⟩
  go_wp2_with fail
  refine (new_bound w1 N hN1 (by omega)).mono ?_
  rintro e w2 ⟨rfl, hd, hb⟩
  have HD := Lib.hid (Lone.new hd HB.out hz1 hb)
  clear hd hb
  obtain ⟨db, hdb⟩ : ∃ db, db = w1.heap.size + 1 := ⟨_, rfl⟩
  rw [← hdb] at HD ⊢
  clear hdb
  go_wp2_with fail
  go_loopw [14] (fun i wr => ∃ k : Nat, k ≤ n1 ∧ i = .int .i64 (k : Int) ∧ Lone (fun _ => False) w.heap.size w db ((Dk.new N).run (l1.take k)) wr) (fun i _ => n1 - (intOf i).toNat)
  case atStart => exact ⟨0, Nat.zero_le _, rfl, HD.out⟩
  case round =>
    obtain ⟨k, hk, rfl, hrel⟩ := hrel
    have HR := Lib.hid hrel
    clear hrel
    by_cases hlt : k < n1
    · obtain ⟨b, o, kind, sector, bytes, t, odd, after, rfl, hbl, hget, hwf, a0, a1, a2, a3, a4, a5⟩ := HL1.out.get HR.out.bel hlt
      have HC := Lib.hid (HR.out.step (fun S hS => do_any wr S _ _ ⟨kind, sector, bytes, t, odd, after⟩ hwf hS (HQ1.out k)))
      have HG := Lib.hid hget
      clear hget hwf
      unfold Ac.cells at HC
      simp only at HC
      go_wp2_with fail
      refine HC.out.mono ?_
      intro e w2 hp
      obtain ⟨rfl, hl, hg, hs⟩ := hp
      have HL2 := Lib.hid hl
      clear hl hg hs HC
      go_wp2
      go_roundw
      case rel => exact ⟨k + 1, by omega, by go_num, by rw [Dk.run_take _ _ _ _ HG.out]; exact HL2.out⟩
      case measure => simp [intOf]; omega
    · obtain rfl : k = n1 := by omega
      have e1 : (Dk.new N).run (l1.take k) = (Dk.new N).run l1 := by rw [List.take_of_length_le (by rw [HL1.out.len]; omega)]
      rw [e1] at HR
      clear hlt hk e1 HD
      obtain ⟨D0, hD0⟩ : ∃ D0, D0 = (Dk.new N).run l1 := ⟨_, rfl⟩
      rw [← hD0] at HR
      have hD0n : D0.st.length = N := by rw [hD0, Dk.run_n]; simp [Dk.new]
      have HN0 := Lib.hid hD0n
      have HQ0 := Lib.hid (show D0.start.q.length ≤ 1000000 by
        have h := Dk.run_q l1 (Dk.new N)
        rw [← hD0] at h
        simp only [Dk.new, List.length_nil] at h
        show D0.q.length ≤ _
        have := HL1.out.len
        omega)
      clear hD0 hD0n
      go_wp2_with fail
      refine (HR.out.step (fun S hS => start_c wr S _ _ hS)).mono ?_
      intro e w3 hp
      obtain ⟨rfl, hl, hg, hs⟩ := hp
      have HL3 := Lib.hid hl
      clear hl hg hs
      go_wp2_with fail
      refine (HL3.out.step (fun S hS => sync_any w3 S _ _ hS HQ0.out)).mono ?_
      intro e w4 hp
      rw [Dk.start_sync] at hp
      simp only at hp
      obtain ⟨rfl, hl, hg, hs⟩ := hp
      have HL4 := Lib.hid hl
      clear hl hg hs
      obtain ⟨D1, hD1⟩ : ∃ D1 : Dk, D1 = { st := Dk.settle D0.st D0.q, q := [], off := false, al := none } := ⟨_, rfl⟩
      rw [← hD1] at HL4
      have hp1 : D1.Plain := by rw [hD1]; exact ⟨rfl, rfl⟩
      have hq1 : D1.q = [] := by rw [hD1]
      have hN1' : D1.st.length = N := by rw [hD1, ← HN0.out]; exact Dk.settle_length _ _
      have HP1 := Lib.hid hp1
      have HE1 := Lib.hid hq1
      have HN1 := Lib.hid hN1'
      have HW2 := Lib.hid (show ∀ k, (D1.wrs (l2.take k)).q.length < 1000000 from fun k => by
        have h := Dk.wrs_q (l2.take k) D1
        have h2 := List.length_take_le' k l2
        rw [HL2.out.len] at h2
        rw [hq1] at h
        simp only [List.length_nil] at h
        omega)
      clear hD1 hp1 hq1 hN1' HL3 HQ0 HN0 HR D0
      go_wp2_with fail
      refine (HL4.out.look (fun S hS => contents_row w4 S _ _ hS HP1.out.1 (by rw [HE1.out]; simp) N HN1.out.symm)).mono ?_
      rintro e w5 ⟨g, c5, rfl, hg, hcells, hown, hb⟩
      have HL5 := Lib.hid (HL4.out.guard hb (fun k => k = g) (fun k e => by rw [e]; exact hg))
      have HC5 := Lib.hid hcells
      have hg5 := hg.2
      have hgB := Nat.le_trans HL4.out.size hg.1
      have hmk := HMK.out w5
      rw [boolV_made] at hmk
      clear hb hg hcells hown HL4
      go_wp2_with fail
      have hb6 : Below w5.heap.size w5 (w5.alloc (.cells (boolV (List.replicate N false)) 4)) := (Below.refl _ _).alloc (Nat.le_refl _) _
      have HL6 := Lib.hid (HL5.out.guard hb6 (fun k => k = w5.heap.size) (fun k e => by rw [e]; simp))
      have HB6 := Lib.hid (Blk.new w5 4 (boolV (List.replicate N false)))
      have HC6 := Lib.hid (show ∀ k, k < N → (w5.alloc (.cells (boolV (List.replicate N false)) 4)).cell? ⟨g, k, none⟩ = some (.string (D1.cur k)) from fun k hk => (hb6.cell (p := ⟨g, k, none⟩) hg5).trans (HC5.out k hk))
      clear hb6 hmk
      go_loopw [18] (fun i wr => ∃ k : Nat, k ≤ n2 ∧ i = .int .i64 (k : Int) ∧ StableRel w.heap.size w db D1 N l2 g w5.heap.size k wr) (fun i _ => n2 - (intOf i).toNat)
      case atStart => exact ⟨0, Nat.zero_le _, rfl, HL6.out.loosen (fun k hk => by rcases hk with h | h <;> simp [h]), HB6.out, HC6.out⟩
      case round =>
        obtain ⟨k, hk, rfl, hrel⟩ := hrel
        have HR := Lib.hid hrel
        clear hrel
        by_cases hlt : k < n2
        · obtain ⟨b, o, kind, sector, bytes, t, odd, after, rfl, hbl, hget, hwf, a0, a1, a2, a3, a4, a5⟩ := HL2.out.get HR.out.1.bel hlt
          have HG := Lib.hid hget
          have HT := Lib.hid (fun W => text_any W ⟨kind, sector, bytes, t, odd, after⟩ hwf.2.2.2.1)
          have hss := txt_size ⟨kind, sector, bytes, t, odd, after⟩ hwf
          obtain ⟨s, hs⟩ : ∃ s, Ac.txt ⟨kind, sector, bytes, t, odd, after⟩ = s := ⟨_, rfl⟩
          have HS := Lib.hid hs
          rw [hs] at HT hss
          unfold Ac.cells at HT
          simp only at HT
          have HSS := Lib.hid hss
          have HRD := Lib.hid (HR.out.1.below ((Below.refl _ _).drew))
          have hbl1 := hbl.1
          have hbl2 := hbl.2
          clear hget hs hss hwf hbl
          go_upto_region 18 with (fail)
          go_cut [19] (fun e wc => e = .int .i64 ((D1.wrs (l2.take k)).write sector s).2 ∧ Lone (fun k => k = g ∨ k = w5.heap.size) w.heap.size w db ((D1.wrs (l2.take k)).write sector s).1 wc ∧ Blk wc w5.heap.size 4 (boolV (D1.marks (List.replicate N false) (l2.take k))) ∧ ∀ k, k < N → wc.cell? ⟨g, k, none⟩ = some (.string (D1.cur k)))
          case first =>
            go_region_with (first
              | (go_at_call 24; refine (HT.out _).mono ?_; rintro e w7 ⟨rfl, hb⟩; have HB7 := Lib.hid hb; have b1 := (hb.cell (p := ⟨b, o + k * 6 + 1, none⟩) hbl2).trans a1; clear hb)
              | (go_at_call 23; refine ((HRD.out.below HB7.out).step (fun S hS => write_any _ S _ _ sector s hS HSS.out (HW2.out k))).mono ?_; intro e w8 hp; obtain ⟨rfl, hl, hgk, hsz⟩ := hp; have HL8 := Lib.hid hl; have HG8 := Lib.hid hgk; clear hl hgk hsz))
            all_goals
              go_wp2_with fail
              go_meet
              have q1 := HG8.out g (.inl rfl)
              have q2 := HG8.out w5.heap.size (.inr rfl)
              have q3 := HB7.out.block g (HR.out.1.2.2.2 g (.inl rfl))
              have q4 := HB7.out.block w5.heap.size (HR.out.1.2.2.2 _ (.inr rfl))
              exact ⟨rfl, HL8.out, (q2.trans q4).trans HR.out.2.1, fun j hj => (World.cell?_of_block (a := ⟨g, j, none⟩) (q1.trans q3)).trans (HR.out.2.2 j hj)⟩
          case rest =>
            obtain ⟨rfl, hcl, hcb, hcc⟩ := hcut
            have HCL := Lib.hid hcl
            have HCB := Lib.hid hcb
            have HCC := Lib.hid hcc
            have b1 := (hcl.bel.cell (p := ⟨b, o + k * 6 + 1, none⟩) hbl1).trans ((HR.out.1.bel.cell (p := ⟨b, o + k * 6 + 1, none⟩) hbl1).symm.trans a1)
            clear hcl hcb hcc a0 a1 a2 a3 a4 a5
            have hpl := Dk.wrs_plain (l2.take k) HP1.out
            have hw := Dk.write_plain hpl.1 sector s
            by_cases hv : (D1.wrs (l2.take k)).valid sector = true ∧ s.size = 64
            · rw [if_pos hv] at hw
              have hw2 : ((D1.wrs (l2.take k)).write sector s).2 = 0 := by rw [hw]
              rw [hw2]
              have hv1 := (Dk.valid_iff _ _).1 hv.1
              rw [hpl.2, HN1.out] at hv1
              have hv2 := hv1.1
              have hv3 := hv1.2
              have hcw := HCB.out.cell sector.toNat
              have hcf := HCB.out.frozen sector.toNat
              have hclt := HCB.out.lt
              have HW2E := Lib.hid hw2
              have hml : (D1.marks (List.replicate N false) (l2.take k)).length = N := by rw [Dk.marks_length]; simp
              rw [show (boolV (D1.marks (List.replicate N false) (l2.take k)))[sector.toNat]? = some (.bool ((D1.marks (List.replicate N false) (l2.take k)).getD sector.toNat false)) by
                simp [boolV, List.getD_eq_getElem?_getD, List.getElem?_eq_getElem (show sector.toNat < (D1.marks (List.replicate N false) (l2.take k)).length by rw [hml]; omega)]] at hcw
              generalize (D1.marks (List.replicate N false) (l2.take k)).getD sector.toNat false = old at hcw
              clear hv hw hw2 hv1 hpl hml
              go_wp2
              go_roundw
              case rel => exact ⟨k + 1, by omega, by go_num, stable_yes_step HCL.out HCB.out HCC.out hg5 hgB HL5.out.size ⟨kind, sector, bytes, t, odd, after⟩ HG.out HS.out HW2E.out⟩
              case measure => simp [intOf]; omega
            · rw [if_neg hv] at hw
              have hw2 : ((D1.wrs (l2.take k)).write sector s).2 = 1 := by rw [hw]
              rw [hw2]
              have HW2E := Lib.hid hw2
              clear hv hw hw2 hpl
              go_wp2
              go_roundw
              case rel => exact ⟨k + 1, by omega, by go_num, stable_no_step HCL.out HCB.out HCC.out ⟨kind, sector, bytes, t, odd, after⟩ HG.out HS.out HW2E.out⟩
              case measure => simp [intOf]; omega
        · obtain rfl : k = n2 := by omega
          have e1 : l2.take k = l2 := List.take_of_length_le (by rw [HL2.out.len]; omega)
          have hq2 := HW2.out k
          unfold StableRel at HR
          rw [e1] at HR hq2
          have HQ2 := Lib.hid (Nat.le_of_lt hq2)
          have hpl := Dk.wrs_plain l2 HP1.out
          have hst : ∀ i, (D1.marks (List.replicate N false) l2)[i]? = some false → ((D1.wrs l2).fail x y).start.cur i = D1.cur i := fun i hi => by
            rw [← HN1.out] at hi
            exact Dk.stable_pure HP1.out HE1.out l2 x y i hi
          have hfs := Dk.fail_start hpl.1.1 x y
          have hfl : ((D1.wrs l2).fail x y).start.st.length = N := by rw [hfs]; show (Dk.failSt _ _ _).length = _; rw [Dk.failSt_length, hpl.2, HN1.out]
          have HST := Lib.hid hst
          have HFL := Lib.hid hfl
          have HFO := Lib.hid (show ((D1.wrs l2).fail x y).start.off = false by rw [hfs])
          have HFQ := Lib.hid (show ((D1.wrs l2).fail x y).start.q.length ≤ 1000000 by rw [hfs]; simp)
          have hml : (D1.marks (List.replicate N false) l2).length = N := by rw [Dk.marks_length]; simp
          have HML := Lib.hid hml
          clear e1 hq2 hpl hst hfs hfl hml hlt hk HL6 HB6 HC6
          go_wp2_with fail
          refine (HR.out.1.step (fun S hS => fail_any wr S _ _ x y hS HQ2.out)).mono ?_
          intro e w6 hp
          obtain ⟨rfl, hl6, hg6, hz6⟩ := hp
          have HL6 := Lib.hid hl6
          have HG6 := Lib.hid hg6
          clear hl6 hg6
          go_wp2_with fail
          refine (HL6.out.step (fun S hS => start_c w6 S _ _ hS)).mono ?_
          intro e w7 hp
          obtain ⟨rfl, hl7, hg7, hz7⟩ := hp
          have HL7 := Lib.hid hl7
          have HG7 := Lib.hid hg7
          clear hl7 hg7
          go_wp2_with fail
          refine (HL7.out.look (fun S hS => contents_row w7 S _ _ hS HFO.out HFQ.out N HFL.out.symm)).mono ?_
          rintro e w8 ⟨g2, c8, rfl, hg8, hc8, hown8, hb8⟩
          have p1 := (hb8.block w5.heap.size (HL7.out.2.2.2 _ (.inr rfl))).trans ((HG7.out w5.heap.size (.inr rfl)).trans (HG6.out w5.heap.size (.inr rfl)))
          have p2 := (hb8.block g (HL7.out.2.2.2 _ (.inl rfl))).trans ((HG7.out g (.inl rfl)).trans (HG6.out g (.inl rfl)))
          have HLAST := Lib.hid (show StableLast w w8 D1 N (D1.marks (List.replicate N false) l2) g w5.heap.size g2 ((D1.wrs l2).fail x y).start from
            ⟨bthen HL7.out.bel HL7.out.size hb8, p1.trans HR.out.2.1, fun j hj => (World.cell?_of_block (a := ⟨g, j, none⟩) p2).trans (HR.out.2.2 j hj), hc8⟩)
          clear hg8 hc8 hown8 hb8 p1 p2 HR
          generalize D1.marks (List.replicate N false) l2 = W at HLAST HST HML
          generalize ((D1.wrs l2).fail x y).start = D3 at HLAST HST HFO HFQ HFL HL7
          go_wp2_with fail
          go_loopw [22] (fun i wr => ∃ k : Nat, k ≤ N ∧ i = .int .i64 (k : Int) ∧ StableLast w wr D1 N W g w5.heap.size g2 D3) (fun i _ => N - (intOf i).toNat)
          case atStart => exact ⟨0, Nat.zero_le _, rfl, HLAST.out⟩
          case round =>
            obtain ⟨k, hk, rfl, hrel⟩ := hrel
            have HR := Lib.hid hrel
            clear hrel
            by_cases hlt : k < N
            · have hkW : k < W.length := by rw [HML.out]; exact hlt
              have d1 := HR.out.2.1.cell k
              rw [show (boolV W)[k]? = some (.bool W[k]) by simp [boolV, hkW]] at d1
              have d2 := HR.out.2.2.1 k hlt
              have d3 := HR.out.2.2.2 k hlt
              have hst := HST.out k
              rw [List.getElem?_eq_getElem hkW] at hst
              generalize W[k] = f at d1 hst
              cases f with
              | true =>
                clear hst hkW
                go_wp2_with fail
                go_quiet (fail)
                go_wp2
                go_roundw
                case rel => exact ⟨k + 1, by omega, by go_num, HR.out.drewN _⟩
                case measure => simp [intOf]; omega
              | false =>
                rw [hst rfl] at d3
                clear hst hkW
                go_wp2_with fail
                go_quiet (fail)
                go_wp2
                go_roundw
                case rel => exact ⟨k + 1, by omega, by go_num, HR.out.drewN _⟩
                case measure => simp [intOf]; omega
            · clear hk
              go_wp2
              go_ret
              exact ⟨rfl, HR.out.1⟩

theorem stable_walk (w : World) (r : Int) (h0 : 0 ≤ r) (h1 : r ≤ 255) (A1 : Option Addr) (n1 c1 : Nat) (l1 : List Ac) (hl1 : ActsAt w A1 n1 l1) (A2 : Option Addr) (n2 c2 : Nat) (l2 : List Ac) (hl2 : ActsAt w A2 n2 l2) (x : Int) (hx0 : -9223372036854775808 ≤ x) (hx1 : x ≤ 9223372036854775807) (y : Int) (hy0 : -9223372036854775808 ≤ y) (hy1 : y ≤ 9223372036854775807) :
    Calls Try.prog 4 #[.int .u8 r, .slice A1 n1 c1, .slice A2 n2 c2, .int .i64 x, .int .i64 y] w fun e w' => e = .returned (.bool true) ∧ Below w.heap.size w w' := by
  cases hk1 : okA l1 with
  | false => exact stable_no w r A1 n1 c1 l1 A2 n2 c2 l2 x y hl1 hl2 (.inl hk1)
  | true =>
    cases hk2 : okA l2 with
    | false => exact stable_no w r A1 n1 c1 l1 A2 n2 c2 l2 x y hl1 hl2 (.inr ⟨hk1, hk2⟩)
    | true => exact stable_yes w r h0 h1 A1 n1 c1 l1 A2 n2 c2 l2 x y hl1 hl2 hk1 hk2
end Go.Proofs.Ythcjlohdfcdloaa
