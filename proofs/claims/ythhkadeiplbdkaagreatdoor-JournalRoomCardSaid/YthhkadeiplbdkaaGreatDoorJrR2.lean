/- The reference's joined text. -/
import Derived.Test.YthhkadeiplbdkaaGreatDoorJrR1
import Derived.Lib.AppendStr
import Derived.Test.YthhkadeiplbdkaaGreatDoorBuild
set_option linter.unusedVariables false
set_option linter.unusedSimpArgs false
namespace Go.Proofs.YthhkadeiplbdkaaGreatDoor
open Go.RowKit

theorem text_take_snoc {xs : List (List UInt8)} {k : Nat} {x : List UInt8} (h : xs[k]? = some x) : Jr.text (xs.take (k + 1)) = Jr.text (xs.take k) ++ (Jr.decs x.length ++ 58 :: x) := by
  rw [List.take_add_one, h]
  exact text_snoc _ _
theorem byteCells_append (a b : List UInt8) : Lib.byteCells (a ++ b) = Lib.byteCells a ++ Lib.byteCells b := by simp [Lib.byteCells]
theorem byteCells_len (a : List UInt8) : (Lib.byteCells a).length = a.length := by simp [Lib.byteCells]
theorem text_bound (xs : List (List UInt8)) (h : ∀ x ∈ xs, x.length ≤ 100000) : (Jr.text xs).length ≤ 100019 * xs.length := by
  induction xs with
  | nil => simp [Jr.text]
  | cons x xs ih =>
    rw [Jr.text_cons]
    have h1 := h x (by simp)
    obtain ⟨w, h2, _, h3⟩ := Jr.decs_dig x.length (by omega)
    have h4 := congrArg List.length h3
    rw [Jr.dig_length] at h4
    have := ih fun y hy => h y (by simp [hy])
    simp only [List.length_append, List.length_cons]
    omega
theorem conv_nil (w : World) : (convert 56 9 (.slice none 0 0)).run Tryz.prog w = .ok (.string (Dk.str [])) w := by kernel_rfl
/-- string(b) of a row of one's own. -/
theorem conv_own {w : World} {base n : Nat} {v : Value} {l : List UInt8} (h : w.ownsRow base 5 1 v n (Lib.byteCells l)) : (convert 56 9 v).run Tryz.prog w = .ok (.string (Dk.str l)) w := by
  have hn : l.length = n := by have := h.1; rw [byteCells_len] at this; omega
  rcases h.2 with ⟨rfl, h0⟩ | ⟨g, cap, cur, rfl, _⟩
  · have : l = [] := List.length_eq_zero_iff.1 (by omega)
    subst this
    exact conv_nil w
  · refine convert_bytes w _ _ 5 Tryz.underlying56 Tryz.underlying5 Tryz.underlying9 g 0 n cap l hn fun i hi => ?_
    have h1 := h.cellAt i (by omega)
    rw [Nat.zero_add, h1]
    simp [Lib.byteCells, List.getElem?_eq_getElem (hn ▸ hi), List.getD_eq_getElem?_getD]
/-- The joined text of the first k texts. -/
def JoinAt (w : World) (xs : List (List UInt8)) (t : List UInt8) (v : Value) (wr : World) : Prop := wr.ownsRow w.heap.size 5 1 v t.length (Lib.byteCells t) ∧ Below w.heap.size w wr
theorem JoinAt.more {w wr w' : World} {xs : List (List UInt8)} {t s : List UInt8} {v v' : Value} {n : Nat} (h : JoinAt w xs t v wr) (hg : wr.grownBy w' v.ownBlock) (hn : n = t.length + s.length) (ho : w'.ownsRow w.heap.size 5 1 v' n (Lib.byteCells t ++ Lib.byteCells s)) : JoinAt w xs (t ++ s) v' w' := by
  refine ⟨?_, h.2.grown hg h.2.size (fun k hk => (h.1.lt k hk).1)⟩
  rw [byteCells_append, List.length_append, ← hn]
  exact ho
theorem JoinAt.alloc {w wr : World} {xs : List (List UInt8)} {t : List UInt8} {v : Value} (h : JoinAt w xs t v wr) (o : Obj) : JoinAt w xs t v (wr.alloc o) := ⟨h.1.alloc o, h.2.alloc h.2.size o⟩
set_option maxRecDepth 100000 in
set_option maxHeartbeats 1600000 in
theorem joined_any (w : World) (A : Option Addr) (c : Nat) (xs : List (List UInt8)) (hx : Strs w A xs) (hN : xs.length ≤ 1000) (hs : ∀ x ∈ xs, x.length ≤ 100000) :
    Calls Tryz.prog 43 #[.slice A xs.length c] w fun e w' => e = .returned (.string (Dk.str (Jr.text xs))) ∧ Below w.heap.size w w' := by
  have HX := Lib.hid hx
  have HS := Lib.hid hs
  obtain ⟨N, hNN⟩ : ∃ N, xs.length = N := ⟨_, rfl⟩
  have HN := Lib.hid hNN
  rw [hNN] at hN ⊢
  obtain ⟨i0, hi, hz0, hz1, hz2⟩ := info_parts info_byte
  have HI := Lib.hid hi
  have HZ0 := Lib.hid hz0
  have HZ1 := Lib.hid hz1
  have HZ2 := Lib.hid hz2
  clear hx hs hNN hi hz0 hz1 hz2
  go_enter Tryz.func43, Tryz.ntmps43
  go_wp2
  go_loop [3, 4] (fun t i => ∃ k m : Nat, k ≤ N ∧ i = .int .i64 (k : Int) ∧ t = .int .i64 (m : Int) ∧ m ≤ 100021 * k) (fun _ i => N - (intOf i).toNat)
  case atStart => exact ⟨0, 0, Nat.zero_le _, rfl, rfl, Nat.le_refl _⟩
  case round =>
    obtain ⟨k, m, hk, rfl, rfl, hm⟩ := hrel
    by_cases hlt : k < N
    · obtain ⟨b, o, rfl, hbl, hc⟩ := HX.out.at_ (by rw [HN.out]; omega)
      have hkx : k < xs.length := by rw [HN.out]; exact hlt
      have q1 := hc k hkx
      have hxl := HS.out _ (List.getElem_mem hkx)
      obtain ⟨x, hxe⟩ : ∃ x, xs[k] = x := ⟨_, rfl⟩
      rw [hxe] at q1 hxl
      have hsz : (Dk.str x).size = x.length := Dk.str_size x
      have k0 : (0 : Int) ≤ (k : Int) := by omega
      have k1 : (k : Int) < (N : Int) := by omega
      obtain ⟨s, hs⟩ : ∃ s, Dk.str x = s := ⟨_, rfl⟩
      rw [hs] at q1 hsz
      have hs2 : s.size ≤ 100000 := by omega
      clear hc hkx hxe hs hsz hxl
      go_wp2
      go_round
      case rel => exact ⟨k + 1, m + (s.size + 21), by omega, by go_num, by go_num, by omega⟩
      case measure => simp [intOf]; omega
    · obtain rfl : N = k := by omega
      have hm2 : m ≤ 100021000 := by omega
      clear hlt hk
      obtain ⟨wm, hrun, hown, hgr⟩ := run_make_own (P := Tryz.prog) w w.heap.size 56 5 i0 _ 1 Tryz.underlying56 HI.out HZ0.out HZ1.out .i64 .i64 m (by rw [HZ2.out]; omega) (by simp only [maxLen]; omega) (Nat.le_refl _)
      have HJ0 : Hid (JoinAt w xs (Jr.text (xs.take 0)) (.slice (some ⟨w.heap.size, 0, none⟩) 0 m) wm) := Lib.hid ⟨hown, (Below.refl _ _).grown hgr (Nat.le_refl _) (fun k h => by cases h)⟩
      have HTB := Lib.hid (text_bound xs HS.out)
      clear hown hgr
      go_wp2
      clear hrun
      go_loopw [5, 6] (fun v i wr => ∃ k : Nat, k ≤ N ∧ i = .int .i64 (k : Int) ∧ JoinAt w xs (Jr.text (xs.take k)) v wr) (fun _ i _ => N - (intOf i).toNat)
      case atStart => exact ⟨0, Nat.zero_le _, rfl, HJ0.out⟩
      case round =>
        obtain ⟨k, hk, rfl, hj⟩ := hrel
        have HJ := Lib.hid hj
        clear hj
        by_cases hlt : k < N
        · obtain ⟨b, o, rfl, hbl, hc⟩ := HX.out.at_ (by rw [HN.out]; omega)
          have hkx : k < xs.length := by rw [HN.out]; exact hlt
          have HLB : Hid (b < w.heap.size) := Lib.hid hbl
          have HCL := Lib.hid (hc k hkx)
          have HG := Lib.hid (List.getElem?_eq_getElem hkx)
          have hxl := HS.out _ (List.getElem_mem hkx)
          obtain ⟨x, hxe⟩ : ∃ x, xs[k] = x := ⟨_, rfl⟩
          rw [hxe] at HCL HG hxl
          have q1 := (HJ.out.2.cell (p := ⟨b, o + k, none⟩) HLB.out).trans HCL.out
          have lb := Nat.lt_of_lt_of_le HLB.out HJ.out.2.size
          have hsz : (Dk.str x).size = x.length := Dk.str_size x
          have k0 : (0 : Int) ≤ (k : Int) := by omega
          have k1 : (k : Int) < (N : Int) := by omega
          have HTN := Lib.hid (text_take_snoc HG.out)
          have htl : (Jr.text (xs.take k)).length ≤ 100019000 := by
            have h1 := text_take_le xs k
            have h2 := HTB.out
            rw [HN.out] at h2
            omega
          have hdl : (Jr.decs x.length).length ≤ 18 := by
            obtain ⟨w, h2, _, h3⟩ := Jr.decs_dig x.length (by omega)
            have h4 := congrArg List.length h3
            rw [Jr.dig_length] at h4
            omega
          have HTL := Lib.hid htl
          have HDL := Lib.hid hdl
          have HXL := Lib.hid hxl
          have HDC : Hid (∀ W : World, Calls Tryz.prog 78 #[.int .i64 ((Dk.str x).size : Int)] W fun e w' => e = .returned (.string (Dk.str (Jr.decs x.length))) ∧ W = w') := Lib.hid (fun W => by rw [hsz]; exact r1decimal_any W x.length (by omega))
          obtain ⟨s, hs⟩ : ∃ s, Dk.str x = s := ⟨_, rfl⟩
          have HSX := Lib.hid hs
          rw [hs] at q1 hsz HCL HDC
          have HSZ := Lib.hid hsz
          have hs9 : s.size ≤ 100000 := by omega
          obtain ⟨D, hD⟩ : ∃ D, Dk.str (Jr.decs x.length) = D := ⟨_, rfl⟩
          have HDD := Lib.hid hD
          rw [hD] at HDC
          have HDZ : Hid (D.size = (Jr.decs x.length).length) := Lib.hid (by rw [← hD, Dk.str_size])
          have TK := Lib.hid HTL.out
          have HCD : Hid (Lib.strCells D = Lib.byteCells (Jr.decs x.length)) := Lib.hid (by rw [← HDD.out]; rfl)
          have HCX : Hid (Lib.strCells s = Lib.byteCells x) := Lib.hid (by rw [← HSX.out]; rfl)
          clear hc hkx hxe hs hsz hxl htl hdl hD
          go_wp2_with fail
          refine (HDC.out wr).mono ?_
          rintro e w4 ⟨rfl, rfl⟩
          go_wp2_with (first
            | (at_builtin; have _t := HJ3; (refine Lib.wpList_append_own_string _ rfl (.tmp 40) (.tmp 44) 56 9 rfl w.heap.size 5 i0 Tryz.underlying56 Tryz.underlying9 HI.out HZ0.out HZ1.out HZ2.out _ _ _ rfl HJ3.out.1 s rfl (by simp only [maxLen, List.length_append]; have := HTL.out; have := HDL.out; have := HSZ.out; have := HXL.out; simp; omega) (by simp only [List.length_append]; have := HTL.out; have := HDL.out; have := HSZ.out; have := HXL.out; simp; omega) HJ3.out.2.size ?_); intro v6 w6 hown6 hg6 _; have HJ4 := Lib.hid (HJ3.out.more (n := (Jr.text (xs.take k) ++ Jr.decs x.length ++ [58]).length + s.size) (s := x) hg6 (by rw [HSZ.out]) (by rw [HCX.out] at hown6; exact hown6)); clear hown6 hg6 HJ3)
            | (at_builtin; have _t := HJ2; (refine wpList_append_own_at _ rfl (.tmp 37) (.tmp 38) _ rfl w.heap.size 5 i0 _ 1 1 Tryz.underlying56 HI.out HZ0.out HZ1.out HZ2.out rfl (by omega) _ _ _ rfl (HJ2.out.alloc _).1 ⟨_, 0, none⟩ 1 1 [.int .u8 58] rfl rfl (cell_one_new _ _ _) (by simp [Value.oneCell']) (by simp only [maxLen, List.length_append]; have := HTL.out; have := HDL.out; omega) (by simp only [List.length_append]; have := HTL.out; have := HDL.out; omega) (HJ2.out.alloc _).2.size ?_); intro v5 w5 hown5 hg5 _ _; have HJ3 := Lib.hid ((HJ2.out.alloc _).more (s := [58]) hg5 rfl hown5); have q3 := (HJ3.out.2.cell (p := ⟨b, o + k, none⟩) HLB.out).trans HCL.out; have lb3 := Nat.lt_of_lt_of_le HLB.out HJ3.out.2.size; clear hown5 hg5 HJ2)
            | (at_builtin; have _t := TK; (refine Lib.wpList_append_own_string _ rfl (.tmp 29) (.tmp 35) 56 9 rfl w.heap.size 5 i0 Tryz.underlying56 Tryz.underlying9 HI.out HZ0.out HZ1.out HZ2.out _ _ _ rfl HJ.out.1 D rfl (by simp only [maxLen]; have := HTL.out; have := HDL.out; have := HDZ.out; omega) (by have := HTL.out; have := HDL.out; have := HDZ.out; omega) HJ.out.2.size ?_); intro v4 w4 hown4 hg4 _; have HJ2 := Lib.hid (HJ.out.more (n := (Jr.text (xs.take k)).length + D.size) (s := Jr.decs x.length) hg4 (by rw [HDZ.out]) (by rw [HCD.out] at hown4; exact hown4)); clear hown4 hg4 TK))
          obtain ⟨A7, c7, hv7⟩ : ∃ A7 c7, v6 = .slice A7 (Jr.text (xs.take k) ++ Jr.decs x.length ++ [58] ++ x).length c7 := by
            rcases HJ4.out.1.2 with ⟨h1, h0⟩ | ⟨g, cap, cur, h1, _⟩
            · exact ⟨none, 0, by rw [h0]; exact h1⟩
            · exact ⟨_, _, h1⟩
          have hfin : JoinAt w xs (Jr.text (xs.take (k + 1))) v6 w6 := by
            rw [HTN.out]
            have h := HJ4.out
            rw [show Jr.text (xs.take k) ++ Jr.decs x.length ++ [58] ++ x = Jr.text (xs.take k) ++ (Jr.decs x.length ++ 58 :: x) by simp] at h
            exact h
          exact ⟨⟨k + 1, by omega, by go_num, hfin⟩, by simp [intOf]; omega⟩
        · obtain rfl : N = k := by omega
          have hT : xs.take N = xs := List.take_of_length_le (Nat.le_of_eq HN.out)
          rw [hT] at HJ
          clear hlt hk hT
          have hcv := conv_own HJ.out.1
          go_wp2
          go_ret
          exact ⟨rfl, HJ.out.2⟩
end Go.Proofs.YthhkadeiplbdkaaGreatDoor
