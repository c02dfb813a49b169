/- The fixed examples of the journal's laws: the function without arguments returns true. -/
import Derived.Test.YthhkadeiplbdkaaDoorJrL2
set_option linter.unusedVariables false
set_option linter.unusedSimpArgs false
namespace Go.Proofs.YthhkadeiplbdkaaDoor
open Go.RowKit

namespace Jr
def J6 : Jn := ⟨6, 0, [], false⟩
def abc : List (List UInt8) := [[97], [98, 99]]
theorem abc_pieces : (pieces (text abc)).length = 1 := by kernel_rfl
theorem abc_long : long abc = false := by kernel_rfl
theorem long1 (n : Nat) : long [List.replicate n 0] = decide (20000 < n) := by simp [long]
theorem big_pieces : (pieces (text [List.replicate 200 0])).length = 5 := by
  rw [pieces_length]
  have e : text [List.replicate 200 0] = decs 200 ++ 58 :: List.replicate 200 0 := by
    unfold text
    rw [List.flatMap_singleton, List.length_replicate]
  have h : (decs 200).length = 3 := by kernel_rfl
  rw [e, List.length_append, List.length_cons, List.length_replicate, h]
theorem text_one_len (n : Nat) (h : n ≤ 100000) : (text [List.replicate n 0]).length ≤ n + 19 := by
  have e : text [List.replicate n 0] = decs n ++ 58 :: List.replicate n 0 := by
    unfold text
    rw [List.flatMap_singleton, List.length_replicate]
  have := decs_short (n := n) (by omega)
  rw [e, List.length_append, List.length_cons, List.length_replicate]; omega
theorem Right.same {D : Dk} {J : Jn} (h : Right D J) (ha : D.al = none) (hq : D.q = []) (a b : Int) : (D.fail a b).start = D := by
  rw [off_on_any hq]
  have := h.on
  cases D
  simp only at *
  subst hq; subst ha; subst this
  rfl
/-- The fixed examples, as plain data. -/
theorem head_facts : ∃ D1 J1 D4, app (Dk.new 6) J6 abc = (D1, J1, 0) ∧ Right D1 J1 ∧ D1.al = none ∧ D1.q = [] ∧ J1 = ⟨6, 1, abc, false⟩ ∧ app D1 J1 [List.replicate 200 0] = (D1, J1, 29) ∧ app D1 J1 [List.replicate 20001 0] = (D1, J1, 2) ∧
    (D1.fail 0 0).start = D1 ∧ opn D1 = (D1, some J1, 0) ∧ opn (D1.rot 0 5 1) = (D4, some J1, 0) ∧ D4.q = [] ∧ opn (D4.rot 2 40 1) = (D4.rot 2 40 1, none, 27) ∧ (D4.rot 2 40 1).q = [] ∧ (D1.rot 0 5 1).q = [] := by
  have h0 := new_right 6 (by omega) (by omega)
  obtain ⟨D1, e1, r1, a1, q1⟩ := app_ok (rs := abc) h0 rfl abc_long (by rw [abc_pieces]; show 2 + 0 + 1 ≤ 6; omega) (by simp [abc])
  have ej : ({ (⟨6, 0, [], false⟩ : Jn) with c := 0 + (pieces (text abc)).length, recs := [] ++ abc } : Jn) = ⟨6, 1, abc, false⟩ := by rw [abc_pieces]; rfl
  rw [ej] at r1 e1
  obtain ⟨D4, o4, r4, a4, q4⟩ := rot_head r1 a1 q1 0 5 1 (by omega)
  have hr4n : D4.st.length = 6 := r4.n.symm
  have hqr : ∀ (D : Dk) s j m, D.q = [] → (D.rot s j m).q = [] := fun D s j m h => by unfold Dk.rot; split <;> exact h
  refine ⟨D1, _, D4, e1, r1, a1, q1, rfl, ?_, ?_, r1.same a1 q1 0 0, opn_right r1, o4, q4, rot_data r4 a4 q4 2 40 1 (by omega) (by show (2 : Int) < 2 + ((1 : Nat) : Int); omega) ?_, hqr _ _ _ _ q4, hqr _ _ _ _ q1⟩
  · unfold app
    rw [if_neg (by simp), long1, if_neg (by simp), big_pieces, if_pos (by show 6 < 2 + 1 + 5; omega)]
  · unfold app
    rw [if_neg (by simp), long1, if_pos (by simp)]
  · unfold Dk.rotOk Dk.valid
    rw [hr4n]
    rfl
end Jr
/-- A list of texts in a new block. -/
theorem strs_two (w : World) (x y : List UInt8) : Strs (w.alloc (.cells #[.string (Dk.str x), .string (Dk.str y)] 9)) (some ⟨w.heap.size, 0, none⟩) [x, y] :=
  ⟨by simp, fun _ => ⟨w.heap.size, 0, rfl, by simp, fun k hk => by
    have hk2 : k < 2 := by simpa using hk
    rcases (show k = 0 ∨ k = 1 by omega) with rfl | rfl
    · exact (Blk.new w _ _).cell 0
    · exact (Blk.new w _ _).cell 1⟩⟩
theorem out_new {B : Nat} {w : World} {n : Nat} : Out B w n (some ⟨w.heap.size, 0, none⟩) := by
  intro _ b o e
  injection e with e
  injection e with e _
  exact .inr (by omega)

set_option maxRecDepth 100000 in
set_option maxHeartbeats 4000000 in
theorem lhead_any (w : World) (hE : Env w) : Calls Tryd.prog 8 #[] w fun e w' => e = .returned (.bool true) ∧ Below w.heap.size w w' := by
  obtain ⟨D1, J1, D4, f1, f2, f3, f4, f5, f6, f7, f8, f9, f10, f11, f12, f13, f14⟩ := Jr.head_facts
  have hB := hE.size
  have t1 : (Jr.text [List.replicate 200 (0 : UInt8)]).length ≤ 1000000 := Nat.le_trans (Jr.text_one_len 200 (by omega)) (by omega)
  have t2 : (Jr.text [List.replicate 20001 (0 : UInt8)]).length ≤ 1000000 := Nat.le_trans (Jr.text_one_len 20001 (by omega)) (by omega)
  have x1 := fun w => ltext_any w 200 (by omega)
  have x2 := fun w => ltext_any w 20001 (by omega)
  obtain ⟨L1, hL1⟩ : ∃ L, List.replicate 200 (0 : UInt8) = L := ⟨_, rfl⟩
  obtain ⟨L2, hL2⟩ : ∃ L, List.replicate 20001 (0 : UInt8) = L := ⟨_, rfl⟩
  rw [hL1] at f6 t1
  rw [hL2] at f7 t2
  simp only [hL1] at x1
  simp only [hL2] at x2
  have T1 := Lib.hid t1
  have T2 := Lib.hid t2
  have X1 := Lib.hid x1
  have X2 := Lib.hid x2
  clear hL1 hL2 t1 t2 x1 x2
  have F0 := Lib.hid (Jr.opn_right (Jr.new_right 6 (by omega) (by omega)))
  have F1 := Lib.hid f1
  have F4 := Lib.hid f4
  have F5 := Lib.hid f5
  have F6 := Lib.hid f6
  have F7 := Lib.hid f7
  have F8 := Lib.hid f8
  have F9 := Lib.hid f9
  have F10 := Lib.hid f10
  have F11 := Lib.hid f11
  have F12 := Lib.hid f12
  have F13 := Lib.hid f13
  have F14 := Lib.hid f14
  have HE := Lib.hid hE
  have HB := Lib.hid hB
  clear f1 f2 f3 f4 f5 f6 f7 f8 f9 f10 f11 f12 f13 f14 hE hB
  go_enter Tryd.func8, Tryd.ntmps8
  go_wp2_with fail
  refine (c_new (F := []) 6 (by omega) (by omega) (Hp.start0 w)).mono ?_
  rintro e w1 ⟨db, rfl, h1, _⟩
  have H1 := Lib.hid h1
  clear h1
  go_wp2_with fail
  refine (c_open H1.out HE.out HB.out (by simp [Dk.new]) F0.out).mono ?_
  rintro e w2 ⟨j1, v2, rfl, h2, _⟩
  obtain ⟨A2, c2, rfl⟩ := row_shape (h2.focus 1 (by simp)).row.1
  have H2 : Hid (Hp w.heap.size w (Th.all [jnT j1 db Jr.J6, diskT db (Dk.new 6), rowT (.slice A2 0 c2) []]) w2) := Lib.hid (h2.pick [0, 2, 1] rfl)
  clear h2
  go_wp2_with fail
  refine (c_append H2.out ((Below.refl _ _).alloc (Nat.le_refl _) _) HE.out HB.out (strs_two w2 [97] [98, 99]) out_new (by decide) (by decide) (by decide) (by simp [Dk.new]) (by decide) F1.out).mono ?_
  rintro e w3 ⟨rfl, h3, _⟩
  have H3 := Lib.hid h3
  clear h3 H1 H2
  have hJ := F5.out
  subst hJ
  go_wp2_with fail
  refine (c_room H3.out (by decide) (by decide)).mono ?_
  rintro e w4 ⟨rfl, h4, _⟩
  rw [show (((6 : Nat) : Int) - 2 - ((1 : Nat) : Int)) = 3 from rfl]
  have H4 := Lib.hid h4
  clear h4 H3
  go_wp2_with fail
  refine (X1.out w4).mono ?_
  rintro e w5 ⟨rfl, hb⟩
  have H5 := Lib.hid (H4.out.newer hb)
  clear hb H4
  go_wp2_with fail
  refine (c_append H5.out ((Below.refl _ _).alloc (Nat.le_refl _) _) HE.out HB.out (strs_one w5 L1) out_new (by decide) (by decide) T1.out (by rw [F4.out]; simp) (by decide) F6.out).mono ?_
  rintro e w6 ⟨rfl, h6, _⟩
  have H6 := Lib.hid h6
  clear h6 H5
  go_wp2_with fail
  refine (X2.out w6).mono ?_
  rintro e w7 ⟨rfl, hb⟩
  have H7 := Lib.hid (H6.out.newer hb)
  clear hb H6
  go_wp2_with fail
  refine (c_append H7.out ((Below.refl _ _).alloc (Nat.le_refl _) _) HE.out HB.out (strs_one w7 L2) out_new (by decide) (by decide) T2.out (by rw [F4.out]; simp) (by decide) F7.out).mono ?_
  rintro e w8 ⟨rfl, h8, _⟩
  have H8 : Hid (Hp w.heap.size w (Th.all [diskT db D1, jnT j1 db ⟨6, 1, Jr.abc, false⟩, rowT (.slice A2 0 c2) []]) w8) := Lib.hid (h8.pick [1, 0, 2] rfl)
  clear h8 H7
  go_wp2_with fail
  refine (c_disk H8.out (Below.refl _ _) fun S hS => fail_any w8 S db D1 0 0 hS (by rw [F4.out]; simp)).mono ?_
  rintro e w9 ⟨rfl, h9, _⟩
  have H9 := Lib.hid h9
  clear h9 H8
  go_wp2_with fail
  refine (c_disk H9.out (Below.refl _ _) fun S hS => start_c w9 S db _ hS).mono ?_
  rintro e w10 ⟨rfl, h10, _⟩
  rw [F8.out] at h10
  have H10 := Lib.hid h10
  clear h10 H9
  go_wp2_with fail
  refine (c_open H10.out HE.out HB.out (by rw [F4.out]; simp) F9.out).mono ?_
  rintro e w11 ⟨j2, v11, rfl, h11, _⟩
  obtain ⟨A11, c11, rfl⟩ := row_shape (h11.focus 1 (by simp)).row.1
  have H11 : Hid (Hp w.heap.size w (Th.all [diskT db D1, jnT j2 db ⟨6, 1, Jr.abc, false⟩, rowT (.slice A11 Jr.abc.length c11) Jr.abc]) w11) := Lib.hid (h11.pick [2, 0, 1, 3, 4] rfl |>.pick [3, 4, 0, 1, 2] rfl |>.drop |>.drop)
  clear h11 H10
  go_wp2_with fail
  refine (c_disk H11.out (Below.refl _ _) fun S hS => rot_any w11 S db D1 0 5 1 hS).mono ?_
  rintro e w12 ⟨rfl, h12, _⟩
  have H12 := Lib.hid h12
  clear h12 H11
  go_wp2_with fail
  refine (c_open H12.out HE.out HB.out (by rw [F14.out]; simp) F10.out).mono ?_
  rintro e w13 ⟨j3, v13, rfl, h13, _⟩
  obtain ⟨A13, c13, rfl⟩ := row_shape (h13.focus 1 (by simp)).row.1
  have H13 : Hid (Hp w.heap.size w (Th.all [diskT db D4, jnT j2 db ⟨6, 1, Jr.abc, false⟩, rowT (.slice A11 Jr.abc.length c11) Jr.abc, rowT (.slice A13 Jr.abc.length c13) Jr.abc]) w13) := Lib.hid (h13.pick [0, 2, 3, 4, 1] rfl |>.drop)
  clear h13 H12
  go_wp2_with fail
  refine (c_disk H13.out (Below.refl _ _) fun S hS => rot_any w13 S db D4 2 40 1 hS).mono ?_
  rintro e w14 ⟨rfl, h14, _⟩
  have H14 := Lib.hid h14
  clear h14 H13
  go_wp2_with fail
  refine (c_open_no H14.out HE.out HB.out (by rw [F13.out]; simp) F12.out).mono ?_
  rintro e w15 ⟨rfl, h15, _⟩
  have H15 := Lib.hid h15
  clear h15 H14
  go_wp2_with fail
  refine (c_new 2 (by omega) (by omega) H15.out).mono ?_
  rintro e w16 ⟨db2, rfl, h16, _⟩
  have H16 := Lib.hid h16
  clear h16 H15
  go_wp2_with fail
  refine (c_open_no H16.out HE.out HB.out (by simp [Dk.new]) (D' := Dk.new 2) (x := 1) rfl).mono ?_
  rintro e w17 ⟨rfl, h17, _⟩
  have H17 : Hid (Hp w.heap.size w (Th.all [jnT j2 db ⟨6, 1, Jr.abc, false⟩, rowT (.slice A11 Jr.abc.length c11) Jr.abc, rowT (.slice A13 Jr.abc.length c13) Jr.abc]) w17) := Lib.hid (h17.drop.drop)
  clear h17 H16
  go_wp2_with fail
  have H18 := Lib.hid (H17.out.newer ((Below.refl _ _).alloc (Nat.le_refl _) (.cells #[.string (Dk.str [97]), .string (Dk.str [98, 99])] 9)))
  refine (same_any _ A11 (some ⟨w17.heap.size, 0, none⟩) c11 2 Jr.abc Jr.abc (Strs.of_own (H18.out.focus 1 (by simp)).row.1).2 (strs_two w17 [97] [98, 99])).mono ?_
  rintro e w19 ⟨rfl, hb⟩
  rw [decide_eq_true (rfl : Jr.abc = Jr.abc)]
  have H19 := Lib.hid (H18.out.newer hb)
  clear hb H18 H17
  go_wp2_with fail
  refine (c_records H19.out (by decide)).mono ?_
  rintro e w20 ⟨v20, rfl, h20, _⟩
  obtain ⟨A20, c20, rfl⟩ := row_shape h20.row.1
  have H20 := Lib.hid h20
  clear h20 H19
  go_wp2_with fail
  refine (same_any _ A20 A11 c20 c11 Jr.abc Jr.abc (Strs.of_own H20.out.row.1).2 (Strs.of_own (H20.out.focus 2 (by simp)).row.1).2).mono ?_
  rintro e w21 ⟨rfl, hb⟩
  rw [decide_eq_true (rfl : Jr.abc = Jr.abc)]
  have H21 := Lib.hid (H20.out.newer hb)
  clear hb H20
  go_wp2_with fail
  refine (same_any _ A13 A11 c13 c11 Jr.abc Jr.abc (Strs.of_own (H21.out.focus 3 (by simp)).row.1).2 (Strs.of_own (H21.out.focus 2 (by simp)).row.1).2).mono ?_
  rintro e w22 ⟨rfl, hb⟩
  rw [decide_eq_true (rfl : Jr.abc = Jr.abc)]
  have H22 := Lib.hid (H21.out.newer hb)
  clear hb H21
  go_wp2_with fail
  refine (append_nil w22 _).mono ?_
  rintro e w23 ⟨rfl, hb⟩
  have H23 := Lib.hid (H22.out.newer hb)
  clear hb H22
  go_wp2_with fail
  go_ret
  exact ⟨rfl, H23.out.bel⟩
end Go.Proofs.YthhkadeiplbdkaaDoor
