/- Walks of the journal's functions, part 7: write, Room. -/
import Derived.Test.YthhkadeiplbdkaaDoorTh
set_option linter.unusedVariables false
set_option linter.unusedSimpArgs false
namespace Go.Proofs.YthhkadeiplbdkaaDoor
open Go.RowKit

structure WrRel (S : Nat → Prop) (w : World) (db : Nat) (D : Dk) (p : Nat) (xs : List (List UInt8)) (k : Nat) (E : Dk) (wr : World) : Prop where
  eq : Jr.wr D p xs = Jr.wr E (p + k) (xs.drop k)
  at_ : DiskAt wr (Plus S w wr) db E
  touch : Touch S w wr
  q : E.q.length ≤ D.q.length + k
theorem wr_stop {D : Dk} {p : Nat} {s : List UInt8} {r : List (List UInt8)} (h : (D.write p (Dk.str s)).2 ≠ 0) : Jr.wr D p (s :: r) = D.write p (Dk.str s) := by
  simp only [Jr.wr]; rw [if_neg h]
theorem wr_go {D : Dk} {p : Nat} {s : List UInt8} {r : List (List UInt8)} (h : (D.write p (Dk.str s)).2 = 0) : Jr.wr D p (s :: r) = Jr.wr (D.write p (Dk.str s)).1 (p + 1) r := by
  simp only [Jr.wr]; rw [if_pos h]
theorem plus_in {S : Nat → Prop} {w w' : World} (hs : w.heap.size ≤ w'.heap.size) {k : Nat} (h : k < w.heap.size) (hS : ¬ S k) : ¬ Plus S w w' k := fun hp => hp.elim hS (fun h2 => by omega)
theorem plus_plus {S : Nat → Prop} {w w1 w2 : World} (h1 : w.heap.size ≤ w1.heap.size) (h2 : w1.heap.size ≤ w2.heap.size) {k : Nat} (h : Plus (Plus S w w1) w1 w2 k) : Plus S w w2 k := by
  rcases h with (h | h) | h
  · exact .inl h
  · exact .inr ⟨h.1, by omega⟩
  · exact .inr ⟨by omega, h.2⟩
theorem touch_plus {S : Nat → Prop} {w w1 w2 : World} (h1 : Touch S w w1) (h2 : Touch (Plus S w w1) w1 w2) : Touch S w w2 :=
  h1.trans h2 fun i hi h => h.elim id fun h => by omega

set_option maxRecDepth 100000 in
set_option maxHeartbeats 400000 in
theorem jwrite_any (w : World) (S : Nat → Prop) (jb db : Nat) (D : Dk) (p : Nat) (A : Option Addr) (c : Nat) (xs : List (List UInt8)) (hD : DiskAt w S db D)
    (hj : w.cell? ⟨jb, 0, none⟩ = some (.pointer (some ⟨db, 0, none⟩))) (hjl : jb < w.heap.size) (hjS : ¬ S jb) (hx : Strs w A xs) (hxS : ∀ b o, A = some ⟨b, o, none⟩ → ¬ S b)
    (hp : p + xs.length ≤ 1000000) (hxl : ∀ x ∈ xs, x.length ≤ 1000) (hq : D.q.length + xs.length < 1000000) :
    Calls Tryd.prog 36 #[.pointer (some ⟨jb, 0, none⟩), .int .i64 (p : Int), .slice A xs.length c] w (DPost S w db (Jr.wr D p xs).1 (.int .i64 (Jr.wr D p xs).2)) := by
  have HX := Lib.hid hx
  have HXS := Lib.hid hxS
  have HXL := Lib.hid hxl
  have hlen := hx.len
  obtain ⟨N, hN⟩ : ∃ N, xs.length = N := ⟨_, rfl⟩
  have HN := Lib.hid hN
  rw [hN] at hlen hp hq ⊢
  have HQ := Lib.hid hq
  have HJS := Lib.hid hjS
  have HJL := Lib.hid hjl
  have HJ := Lib.hid hj
  have H0 : Hid (WrRel S w db D p xs 0 D w) := Lib.hid ⟨by simp, hD.mono fun _ => .inl, Touch.refl _ _, by omega⟩
  clear hx hxS hxl hN hD hq hjS hj
  go_enter Tryd.func36, Tryd.ntmps36
  go_wp2
  go_loopw [12] (fun i wr => ∃ k : Nat, k ≤ N ∧ i = .int .i64 (k : Int) ∧ ∃ E, WrRel S w db D p xs k E wr) (fun i _ => N - (intOf i).toNat)
  case atStart => exact ⟨0, Nat.zero_le _, rfl, D, H0.out⟩
  case round =>
    obtain ⟨k, hk, rfl, E, hrel⟩ := hrel
    have HR := Lib.hid hrel
    clear hrel
    have hjc := (World.cell?_of_block (a := ⟨jb, 0, none⟩) (HR.out.touch.block jb HJL.out HJS.out)).trans HJ.out
    have hwz := HR.out.touch.size
    by_cases hlt : k < N
    · obtain ⟨b, o, rfl, hb0, hc0⟩ := HX.out.at_ (by rw [HN.out]; omega)
      have hkn : k < xs.length := by rw [HN.out]; exact hlt
      have hbS := HXS.out b o rfl
      have hcell := (World.cell?_of_block (a := ⟨b, o + k, none⟩) (HR.out.touch.block b hb0 hbS)).trans (hc0 k hkn)
      have hbl := Nat.lt_of_lt_of_le hb0 hwz
      have hk0 : (0 : Int) ≤ (k : Int) := by omega
      have hk1 : (k : Int) < (N : Int) := by omega
      have hd : xs.drop k = xs[k] :: xs.drop (k + 1) := List.drop_eq_getElem_cons hkn
      have HEQ := HR.out.eq
      rw [hd] at HEQ
      have hrl : (xs[k]).length ≤ 1000 := HXL.out _ (List.getElem_mem hkn)
      obtain ⟨r, hr⟩ : ∃ r, xs[k] = r := ⟨_, rfl⟩
      rw [hr] at hcell HEQ hrl
      have hrs : (Dk.str r).size ≤ 9223372036854775807 := by rw [Dk.str_size]; omega
      have HC := Lib.hid (write_any wr (Plus S w wr) db E ((p + k : Nat) : Int) (Dk.str r) HR.out.at_ hrs (by have := HR.out.q; have := HQ.out; omega))
      have hw1 : IntKind.i64.wrap ((p : Int) + (k : Int)) = ((p + k : Nat) : Int) := by
        rw [IntKind.wrap_i64]; omega
      have HE := Lib.hid HEQ
      have hq1 := Dk.write_q E ((p + k : Nat) : Int) (Dk.str r)
      clear hrl hrs hr hc0 hd HEQ hbS
      obtain ⟨s, hs⟩ : ∃ s, Dk.str r = s := ⟨_, rfl⟩
      rw [hs] at hcell HC hq1
      go_wp2_with fail
      rw [← hs] at HC ⊢
      refine HC.out.mono ?_
      rintro e w1 ⟨rfl, hd1, ht1⟩
      have hb1 := (World.cell?_of_block (a := ⟨jb, 0, none⟩) (ht1.block jb (Nat.lt_of_lt_of_le HJL.out hwz) (plus_in hwz HJL.out HJS.out))).trans hjc
      have HD1 := Lib.hid hd1
      have HT1 := Lib.hid ht1
      have hz1 := ht1.size
      have HQ1 := Lib.hid hq1
      clear hd1 ht1 HC hcell
      by_cases h0 : (E.write ((p + k : Nat) : Int) (Dk.str r)).2 = 0
      · have H1 : Hid (WrRel S w db D p xs (k + 1) (E.write ((p + k : Nat) : Int) (Dk.str r)).1 w1) := Lib.hid ⟨by rw [HE.out, wr_go h0]; rfl, HD1.out.mono fun x hx => plus_plus hwz hz1 hx, touch_plus HR.out.touch HT1.out, by have := HQ1.out; rw [← hs] at this; have := HR.out.q; omega⟩
        have HK : Hid (k + 1 ≤ N) := Lib.hid (by omega)
        rw [h0]
        generalize (E.write ((p + k : Nat) : Int) (Dk.str r)).1 = E1 at H1
        clear h0 HE HD1 HT1 HQ1 hs
        go_wp2
        go_roundw
        case rel => exact ⟨k + 1, HK.out, by go_num, E1, H1.out⟩
        case measure => simp [intOf]; omega
      · have HF := Lib.hid (show DPost S w db (Jr.wr D p xs).1 (.int .i64 (Jr.wr D p xs).2) (.returned (.int .i64 (E.write ((p + k : Nat) : Int) (Dk.str r)).2)) w1 from by
          rw [HE.out, wr_stop h0]
          exact ⟨rfl, HD1.out.mono fun x hx => plus_plus hwz hz1 hx, touch_plus HR.out.touch HT1.out⟩)
        obtain ⟨q, hq⟩ : ∃ q, (E.write ((p + k : Nat) : Int) (Dk.str r)).2 = q := ⟨_, rfl⟩
        rw [hq] at h0 HF ⊢
        clear hq HE HD1 HT1 HQ1 hs
        go_wp2
        go_ret
        exact HF.out
    · obtain rfl : k = N := by omega
      have e1 : xs.drop k = [] := List.drop_of_length_le (by rw [HN.out]; omega)
      have HE := Lib.hid (show Jr.wr D p xs = E.sync by rw [HR.out.eq, e1]; rfl)
      have HC := Lib.hid (sync_any wr (Plus S w wr) db E HR.out.at_ (by have := HR.out.q; have := HQ.out; omega))
      clear hlt hk e1
      go_wp2_with fail
      refine HC.out.mono ?_
      rintro e w1 ⟨rfl, hd1, ht1⟩
      have hz1 := ht1.size
      have HF := Lib.hid (show DPost S w db (Jr.wr D p xs).1 (.int .i64 (Jr.wr D p xs).2) (.returned (.int .i64 E.sync.2)) w1 from by
        rw [HE.out]
        exact ⟨rfl, hd1.mono fun x hx => plus_plus hwz hz1 hx, touch_plus HR.out.touch ht1⟩)
      obtain ⟨q, hq⟩ : ∃ q, E.sync.2 = q := ⟨_, rfl⟩
      rw [hq] at HF ⊢
      clear hq HE hd1 ht1 HC
      go_wp2
      go_ret
      exact HF.out
end Go.Proofs.YthhkadeiplbdkaaDoor
