/- Walks of the reference's functions, part 8: zero, New, Raw. -/
import Derived.Test.YthcjlohdfcdloaaRefW7
import Derived.Lib.AppendStr
import Derived.OwnWalk
set_option linter.unusedVariables false
set_option linter.unusedSimpArgs false
namespace Go.Proofs.Ythcjlohdfcdloaa
open Go.RowKit

theorem own_base0 {w : World} {base n size : Nat} {e : TypeId} {v : Value} {xs : List Value} (h : w.ownsRow base e size v n xs) : w.ownsRow 0 e size v n xs := by
  refine ⟨h.1, ?_⟩
  rcases h.2 with h | ⟨g, cap, cur, h1, h2, h3⟩
  · exact .inl h
  · exact .inr ⟨g, cap, cur, h1, Nat.zero_le _, h3⟩

theorem Blk.grown {w w' : World} {g : Nat} {t : TypeId} {cs : Array Value} {row : Option Nat} (h : Blk w g t cs) (hb : w.grownBy w' row) (hg : row ≠ some g) : Blk w' g t cs := (hb.block g h.lt (fun e => hg e.symm)).trans h

def zs (k : Nat) : ByteArray := Dk.str (List.replicate k 0)
theorem zs_size (k : Nat) : (zs k).size = k := by simp [zs, Dk.str, ByteArray.size]
theorem zs_succ (k : Nat) : zs k ++ ⟨#[0]⟩ = zs (k + 1) := by
  unfold zs
  rw [List.replicate_succ']
  apply ByteArray.ext
  apply Array.ext'
  simp [Dk.str]

set_option maxHeartbeats 400000 in
theorem rzero_any (w : World) : Calls Try.prog 32 #[.int .i64 64] w fun e w' => e = .returned (.string (zs 64)) ∧ w = w' := by
  go_enter Try.func32, Try.ntmps32
  go_wp2
  go_loop [3, 4] (fun s i => ∃ k : Nat, k ≤ 64 ∧ i = .int .i64 (k : Int) ∧ s = .string (zs k)) (fun _ i => 64 - (intOf i).toNat)
  case atStart => exact ⟨0, Nat.zero_le _, rfl, rfl⟩
  case round =>
    obtain ⟨k, hk, rfl, rfl⟩ := hrel
    by_cases hlt : k < 64
    · have hs : (zs k).size ≤ 64 := by rw [zs_size]; exact hk
      have HS := Lib.hid (zs_succ k)
      generalize zs k = s at hs HS ⊢
      go_wp2
      go_round
      case rel => exact ⟨k + 1, by omega, by go_num, by rw [← HS.out]⟩
      case measure => simp [intOf]; omega
    · obtain rfl : k = 64 := by omega
      clear hlt hk
      go_wp2
      go_ret
      exact ⟨rfl, rfl⟩

set_option maxHeartbeats 400000 in
theorem rnew_no (w : World) (n : Int) (h : ¬ (1 ≤ n ∧ n ≤ 4000)) :
    Calls Try.prog 15 #[.int .i64 n] w fun e w' => e = .returned (.pointer none) ∧ w = w' := by
  by_cases h1 : n < 1
  · clear h
    go_enter Try.func15, Try.ntmps15
    go_wp2
    go_ret
    exact ⟨rfl, rfl⟩
  · have h2 : 4000 < n := by omega
    clear h
    go_enter Try.func15, Try.ntmps15
    go_wp2
    go_ret
    exact ⟨rfl, rfl⟩

/-- Behind k appends of zero texts. -/
def RNewRel (w : World) (k : Nat) (wr : World) : Prop :=
  ∃ sv, Blk wr w.heap.size 63 #[sv, .slice none 0 0, .bool true, .bool false, .int .i64 0, .int .i64 0, .int .i64 0] ∧ wr.ownsRow w.heap.size 9 1 sv k (List.replicate k (.string (zs 64))) ∧ Below w.heap.size w wr

set_option maxHeartbeats 400000 in
theorem rnew_yes (w : World) (n : Nat) (h1 : 1 ≤ n) (h2 : n ≤ 4000) :
    Calls Try.prog 15 #[.int .i64 (n : Int)] w fun e w' => e = .returned (.pointer (some ⟨w.heap.size, 0, none⟩)) ∧ RefAt w' (fun k => w.heap.size ≤ k) w.heap.size (Dk.new n) ∧ Below w.heap.size w w' := by
  obtain ⟨i0, hi0, hz0, hz1, hz2⟩ := info_parts info_str
  have HI := Lib.hid hi0
  have HZ0 := Lib.hid hz0
  have HZ1 := Lib.hid hz1
  have HZ2 := Lib.hid hz2
  clear hi0 hz0 hz1 hz2
  go_enter Try.func15, Try.ntmps15
  go_wp2_with fail
  refine (rzero_any _).mono ?_
  rintro e w1 ⟨rfl, rfl⟩
  go_wp2_with fail
  go_loopw [5] (fun i wr => ∃ k : Nat, k ≤ n ∧ i = .int .i64 (k : Int) ∧ RNewRel w k wr) (fun i _ => n - (intOf i).toNat)
  case atStart => exact ⟨0, Nat.zero_le _, rfl, .slice none 0 0, Blk.new _ _ _, World.ownsRow_nil _ _ _ _, (Below.refl _ _).alloc (Nat.le_refl _) _⟩
  case round =>
    obtain ⟨k, hk, rfl, sv, hm, hown, hb⟩ := hrel
    have HM := Lib.hid hm
    have HOWN := Lib.hid hown
    have HB := Lib.hid hb
    have c0 := hm.cell 0
    have clt := hm.lt
    have hsz := hb.size
    clear hm hown hb
    by_cases hlt : k < n
    · go_wp2_with (at_builtin; go_must (refine wpList_append_lies _ rfl (.tmp 24) (.tmp 26) _ rfl w.heap.size 9 i0 _ 1 16 Try.underlying39 HI.out HZ0.out HZ1.out HZ2.out rfl (by omega) sv k _ rfl (HOWN.out.alloc _) ⟨wr.heap.size, 0, none⟩ 1 1 [.string (zs 64)] rfl rfl (cell_one_new _ _ _) (by simp [Value.oneCell']) (by omega) (by simp only [maxLen]; omega) (by omega) (by simp; omega) _ rfl ?_; intro g cap w2 hown2 hg2 hat2 hlt2); go_must (have hm2 := (HM.out.alloc (.cells #[.string (zs 64)] 9)).grown hg2 (own_blk_ne HOWN.out HM.out (by decide))); have e0 := hm2.cell 0; have ef0 := hm2.frozen 0; have elt := hm2.lt; have HM2 := Lib.hid hm2; have HOWN2 := Lib.hid hown2; have HG2 := Lib.hid hg2; clear hown2 hg2 hat2 hm2)
      go_roundw
      case rel =>
        refine ⟨k + 1, by omega, by go_num, .slice (some ⟨g, 0, none⟩) (k + 1) cap, HM2.out.set_ 0 _, ?_, ?_⟩
        · have h := HOWN2.out
          have n1 := own_blk_ne h HM2.out (by decide)
          have t : Touch (fun j => j = w.heap.size) w2 (w2.setCell ⟨w.heap.size, 0, none⟩ (.slice (some ⟨g, 0, none⟩) (k + 1) cap)) := (Touch.refl (fun j => j = w.heap.size) w2).setCell (p := ⟨w.heap.size, 0, none⟩) (.inr rfl) _
          rw [List.replicate_succ']
          exact t.own h fun j hj e => n1 (by rw [hj, e])
        · exact ((HB.out.alloc hsz _).grown HG2.out (by simp; omega) (fun j hj => (HOWN.out.lt j hj).1)).setCell (Nat.le_refl _) _
      case measure => simp [intOf]; omega
    · obtain rfl : k = n := by omega
      clear hlt hk
      go_wp2
      go_ret
      refine ⟨rfl, ⟨sv, .slice none 0 0, false, 0, 0, 0, HM.out, ?_, World.ownsRow_nil _ _ _ _, rfl, ⟨by unfold Dk.i64; omega, by unfold Dk.i64; omega, by unfold Dk.i64; omega⟩, Nat.le_refl _, fun j hj => (HOWN.out.lt j hj).1, by simp [Value.ownBlock], Dk.new_inv k h1 h2⟩, HB.out⟩
      have h := own_base0 HOWN.out
      simp only [Dk.new, List.length_replicate]
      have e : stV { st := List.replicate k Dk.zeroSec, q := [], off := false, al := none } = List.replicate k (.string (zs 64)) := by
        simp [stV, strV, zs, Dk.zeroSec]
      rw [e]
      exact h

theorem info_u8b : (Try.prog.info? 5).map (fun i => (i.zero, i.size, i.bytes)) = some (some (.int .u8 0), 1, 1) := by kernel_rfl

/-- Behind k appends of texts. -/
def RRawRel (w : World) (D : Dk) (k : Nat) (v : Value) (wr : World) : Prop :=
  wr.ownsRow w.heap.size 5 1 v (64 * k) (Lib.byteCells (D.st.take k).flatten) ∧ Below w.heap.size w wr

theorem rraw_conv {w : World} {base n : Nat} {v : Value} {l : List UInt8} (h : w.ownsRow base 5 1 v n (Lib.byteCells l)) (hn : 0 < n) : (convert 56 9 v).run Try.prog w = .ok (.string (Dk.str l)) w := by
  obtain ⟨g, cap, rfl, _, _⟩ := h.form hn
  have hl : l.length = n := by have := h.1; simpa [Lib.byteCells] using this
  exact convert_bytes w _ _ _ Try.underlying56 Try.underlying5 Try.underlying9 g 0 _ _ l hl (fun i hi => by
    rw [Nat.zero_add, h.cellAt i (by omega)]
    have := byteCells_at l i (by omega)
    simpa using this)

set_option maxHeartbeats 400000 in
theorem rraw_any (w : World) (S : Nat → Prop) (db : Nat) (D : Dk) (hD : RefAt w S db D) :
    Calls Try.prog 39 #[.pointer (some ⟨db, 0, none⟩)] w fun e w' => e = .returned (.string D.raw) ∧ Below w.heap.size w w' := by
  obtain ⟨i0, hi0, hz0, hz1, hz2⟩ := info_parts info_u8b
  have HI := Lib.hid hi0
  have HZ0 := Lib.hid hz0
  have HZ1 := Lib.hid hz1
  have HZ2 := Lib.hid hz2
  obtain ⟨sv, qv, am, x, y, z, h⟩ := hD
  have hhi := h.inv.hi
  have hlo := h.inv.lo
  obtain ⟨sg, sc, rfl, _, hsg⟩ := h.stab.form (by omega)
  have H := Lib.hid h
  have hc0 := h.main.cell 0
  have hdb := h.main.lt
  obtain ⟨N, hN⟩ : ∃ N, N = D.st.length := ⟨_, rfl⟩
  rw [← hN] at hc0 hhi hlo
  have HN := Lib.hid hN
  have HC0 := Lib.hid hc0
  clear hi0 hz0 hz1 hz2 h hN
  go_enter Try.func39, Try.ntmps39
  go_wp2_with (refine wpList_make_own _ rfl (.const (.int .i64 0)) (.tmp 12) _ rfl w.heap.size 5 i0 _ 1 Try.underlying56 HI.out HZ0.out HZ1.out .i64 .i64 ((N : Int) * 64) (N * 64) rfl (by first | rfl | simp [Act.eval, Act.put]) (by simp) (by rw [HZ2.out]; omega) (by simp only [maxLen]; omega) (Nat.le_refl _) ?_; intro w1 hown1 hg1; have HOWN1 := Lib.hid hown1; have HG1 := Lib.hid hg1; clear hown1 hg1)
  go_loopw [3, 4] (fun v i wr => ∃ k : Nat, k ≤ N ∧ i = .int .i64 (k : Int) ∧ RRawRel w D k v wr) (fun _ i _ => N - (intOf i).toNat)
  case atStart => exact ⟨0, Nat.zero_le _, rfl, HOWN1.out, (Below.refl _ _).grown HG1.out (Nat.le_refl _) (by simp)⟩
  case round =>
    obtain ⟨k, hk, rfl, hrel⟩ := hrel
    have HR := Lib.hid hrel
    clear hrel hc0
    have c0 := (HR.out.2.cell (p := ⟨db, 0, none⟩) hdb).trans HC0.out
    have clt := Nat.lt_of_lt_of_le hdb HR.out.2.size
    have hwz := HR.out.2.size
    by_cases hlt : k < N
    · have hkn : k < D.st.length := by have := HN.out; omega
      have c8 := (HR.out.2.cell (p := ⟨sg, k, none⟩) hsg).trans (H.out.stab.cellAt k (by have := HN.out; omega))
      rw [show (stV D)[k]? = some (.string (Dk.str D.st[k])) by simp [stV, strV, hkn]] at c8
      have hs : (Dk.str D.st[k]).size = 64 := by rw [Dk.str_size]; exact H.out.inv.sec _ (List.getElem_mem hkn)
      have hnext : Lib.byteCells (D.st.take (k + 1)).flatten = Lib.byteCells (D.st.take k).flatten ++ Lib.strCells (Dk.str D.st[k]) := by
        rw [List.take_succ_eq_append_getElem hkn]
        unfold Lib.byteCells Lib.strCells Dk.str
        simp only [List.flatten_append, List.map_append, List.flatten_cons, List.flatten_nil, List.append_nil]
      generalize Dk.str D.st[k] = s at c8 hs hnext
      have HS := Lib.hid hs
      have HNX := Lib.hid hnext
      have hk3 : (k : Int) < (N : Int) := by omega
      clear hs hnext hkn
      go_wp2_with (refine Lib.wpList_append_own_string _ rfl (.tmp 23) (.tmp 30) _ _ rfl w.heap.size 5 i0 Try.underlying56 Try.underlying9 HI.out HZ0.out HZ1.out HZ2.out _ (64 * k) _ rfl HR.out.1 s rfl (by rw [HS.out]; simp only [maxLen]; omega) (by rw [HS.out]; omega) hwz ?_; intro v1 w2 hown2 hg2 hnil2; have HOWN2 := Lib.hid hown2; have HG2 := Lib.hid hg2; clear hown2 hg2 hnil2)
      go_roundw
      case rel =>
        refine ⟨k + 1, by omega, by go_num, ?_, HR.out.2.grown HG2.out hwz fun j hj => (HR.out.1.lt j hj).1⟩
        have h := HOWN2.out
        rw [HS.out] at h
        rw [HNX.out]
        exact h
      case measure => simp [intOf]; omega
    · obtain rfl : k = N := by omega
      have e1 : D.st.take k = D.st := by rw [HN.out, List.take_length]
      have hcv := rraw_conv HR.out.1 (by omega)
      rw [e1] at hcv
      clear hlt hk
      go_wp2
      go_ret
      exact ⟨rfl, HR.out.2⟩
end Go.Proofs.Ythcjlohdfcdloaa
