/- Walks of the journal's functions, part 11: Append where nothing is written. -/
import Derived.Test.YthhkadeiplbdkaaDoorJrW10
set_option linter.unusedVariables false
set_option linter.unusedSimpArgs false
namespace Go.Proofs.YthhkadeiplbdkaaDoor
open Go.RowKit

theorem app_res {tmps : Array Value} {w : World} {g : Nat} {x : Int} (hp : tmps.getD 4 undef = .pointer (some ⟨g, 0, none⟩)) (hg : Blk w g 33 #[.int .i64 x]) :
    (results Tryd.f18 tmps).run Tryd.prog w = .ok (.int .i64 x) w := by
  have hp' : tmps[4]?.getD undef = .pointer (some ⟨g, 0, none⟩) := by simpa using hp
  have h0 : w.cell? ⟨g, 0, none⟩ = some (.int .i64 x) := hg.cell 0
  have hl := hg.lt
  have hr : Tryd.f18.results = #[.cell 4 33] := rfl
  simp [results, hr, hp', asAddr, loadVar, go_sem, h0]
theorem app_end {tmps : Array Value} {w : World} {g : Nat} {x : Int} {R : Ending → World → Prop} (hp : tmps.getD 4 undef = .pointer (some ⟨g, 0, none⟩)) (hg : Blk w g 33 #[.int .i64 x]) (h : R (.returned (.int .i64 x)) w) :
    bodyPostD Tryd.prog Tryd.f18 R Exit.ret { tmps := tmps, defers := [] } w := ⟨_, app_res hp hg, h⟩

set_option maxHeartbeats 400000 in
theorem append_nil (w : World) (v : Value) :
    Calls Tryd.prog 18 #[.pointer none, v] w fun e w' => e = .returned (.int .i64 1) ∧ Below w.heap.size w w' := by
  go_enter_defers Tryd.func18, Tryd.ntmps18
  go_wp2
  exact app_end rfl (by simpa using Blk.new (w.alloc (.cells #[.pointer none] 26)) 33 #[.int .i64 1]) ⟨rfl, ((Below.refl _ _).alloc (Nat.le_refl _) _).alloc (by simp) _⟩
set_option maxHeartbeats 400000 in
theorem append_broken (w : World) (jb db n c : Nat) (v lv : Value) (hj : Blk w jb 50 #[.pointer (some ⟨db, 0, none⟩), .int .i64 (n : Int), .int .i64 (c : Int), v, .bool true]) :
    Calls Tryd.prog 18 #[.pointer (some ⟨jb, 0, none⟩), lv] w fun e w' => e = .returned (.int .i64 11) ∧ Below w.heap.size w w' := by
  have h4 := hj.cell 4
  have hlt := hj.lt
  go_enter_defers Tryd.func18, Tryd.ntmps18
  go_wp2
  exact app_end rfl (by simpa using Blk.new (w.alloc (.cells #[.pointer (some ⟨jb, 0, none⟩)] 26)) 33 #[.int .i64 11]) ⟨rfl, ((Below.refl _ _).alloc (Nat.le_refl _) _).alloc (by simp) _⟩

/-- What Append finds ahead of its own variables. -/
structure AppPre (w : World) (jb db : Nat) (J : Jn) (v : Value) (A : Option Addr) (xs : List (List UInt8)) : Prop where
  env : Env w
  job : Blk w jb 50 #[.pointer (some ⟨db, 0, none⟩), .int .i64 (J.n : Int), .int .i64 (J.c : Int), v, .bool J.br]
  on : J.br = false
  list : Strs w A xs
  n : J.n ≤ 4000
  c : J.c ≤ 4000
  text : (Jr.text xs).length ≤ 1000000
theorem text_mem {xs : List (List UInt8)} {x : List UInt8} (h : x ∈ xs) : x.length ≤ (Jr.text xs).length := by
  obtain ⟨k, hk, rfl⟩ := List.getElem_of_mem h
  have h1 := text_take_le xs (k + 1)
  rw [List.take_succ_eq_append_getElem hk, text_snoc, List.length_append, List.length_append, List.length_cons] at h1
  omega
/-- The world with the journal's pointer and the error in variables of their own. -/
def appW (w : World) (jb : Nat) (x : Int) : World := (w.alloc (.cells #[.pointer (some ⟨jb, 0, none⟩)] 26)).alloc (.cells #[.int .i64 x] 33)
theorem appW_below (w : World) (jb : Nat) (x : Int) : Below w.heap.size w (appW w jb x) := ((Below.refl _ _).alloc (Nat.le_refl _) _).alloc (by simp) _
theorem appW_size (w : World) (jb : Nat) (x : Int) : (appW w jb x).heap.size = w.heap.size + 2 := by simp [appW]
theorem appW_ptr (w : World) (jb : Nat) (x : Int) : Blk (appW w jb x) w.heap.size 26 #[.pointer (some ⟨jb, 0, none⟩)] := (Blk.new _ _ _).alloc _
theorem appW_err (w : World) (jb : Nat) (x : Int) : Blk (appW w jb x) (w.heap.size + 1) 33 #[.int .i64 x] := by
  have := Blk.new (w.alloc (.cells #[.pointer (some ⟨jb, 0, none⟩)] 26)) 33 #[.int .i64 x]
  simpa [appW] using this

set_option maxHeartbeats 400000 in
theorem append_long (w : World) (jb db : Nat) (J : Jn) (v : Value) (A : Option Addr) (c : Nat) (xs : List (List UInt8)) (h : AppPre w jb db J v A xs) (hL : Jr.long xs = true) :
    Calls Tryd.prog 18 #[.pointer (some ⟨jb, 0, none⟩), .slice A xs.length c] w fun e w' => e = .returned (.int .i64 2) ∧ Below w.heap.size w w' := by
  have h4 := h.job.cell 4
  rw [h.on] at h4
  have hlt := h.job.lt
  have HC := Lib.hid (containsLong_any (appW w jb 0) A c xs (h.list.new (appW_below w jb 0)) fun x hx => by have := text_mem hx; have := h.text; omega)
  rw [hL] at HC
  unfold appW at HC
  clear h hL
  go_enter_defers Tryd.func18, Tryd.ntmps18
  go_wp2_with fail
  refine HC.out.mono ?_
  rintro e w1 ⟨rfl, rfl⟩
  clear HC
  go_wp2
  exact app_end rfl (by simpa [appW] using appW_err w jb 2) ⟨rfl, by simpa [appW] using appW_below w jb 2⟩

set_option maxHeartbeats 800000 in
theorem append_full (w : World) (jb db : Nat) (J : Jn) (v : Value) (A : Option Addr) (c : Nat) (xs : List (List UInt8)) (h : AppPre w jb db J v A xs) (hL : Jr.long xs = false)
    (hf : J.n < 2 + J.c + (Jr.pieces (Jr.text xs)).length) :
    Calls Tryd.prog 18 #[.pointer (some ⟨jb, 0, none⟩), .slice A xs.length c] w fun e w' => e = .returned (.int .i64 29) ∧ Below w.heap.size w w' := by
  have h4 := h.job.cell 4
  rw [h.on] at h4
  have hlt := h.job.lt
  have HP := Lib.hid h
  have hb0 := appW_below w jb 0
  have hE1 := h.env.new hb0
  have HC := Lib.hid (containsLong_any (appW w jb 0) A c xs (h.list.new hb0) fun x hx => by have := text_mem hx; have := h.text; omega)
  rw [hL] at HC
  have HT := Lib.hid (text_any' (appW w jb 0) hE1 A c xs (h.list.new hb0) (by have := h.text; omega))
  have hlen := h.list.len
  obtain ⟨N, hN⟩ : ∃ N, xs.length = N := ⟨_, rfl⟩
  have HN := Lib.hid hN
  rw [hN] at HC HT hlen ⊢
  obtain ⟨t, ht⟩ : ∃ t, Jr.text xs = t := ⟨_, rfl⟩
  have HTX := Lib.hid ht
  have htl := h.text
  rw [ht] at HT htl hf
  have HTL := Lib.hid htl
  have HS := Lib.hid (fun w' => split_any w' t (by have := HTL.out; omega))
  have hpl : (Jr.pieces t).length = (t.length + 45) / 46 := by simp [Jr.pieces]
  have hps : (Jr.pieces t).length ≤ 100000 := by omega
  obtain ⟨ts, hts⟩ : ∃ ts, Dk.str t = ts := ⟨_, rfl⟩
  rw [hts] at HT HS
  unfold appW at HC HT
  have hn1 := h.n
  have hc1 := h.c
  clear h hL hE1 hb0 hN ht htl hts hpl
  obtain ⟨ps, hpe⟩ : ∃ ps, Jr.pieces t = ps := ⟨_, rfl⟩
  have HPE := Lib.hid hpe
  rw [hpe] at hps hf
  clear hpe
  obtain ⟨M, hM⟩ : ∃ M, ps.length = M := ⟨_, rfl⟩
  have HM := Lib.hid hM
  rw [hM] at hps hf
  clear hM
  have hf2 : (J.n : Int) - 2 - (J.c : Int) < (M : Int) := by omega
  go_enter_defers Tryd.func18, Tryd.ntmps18
  go_wp2_with fail
  refine HC.out.mono ?_
  rintro e w1 ⟨rfl, hw1⟩
  have HW1 := Lib.hid hw1
  clear hw1 HC
  rw [← HW1.out] at HT
  go_wp2_with fail
  refine HT.out.mono ?_
  rintro e w2 ⟨rfl, hb2⟩
  have HB1 : Hid (Below w.heap.size w w1) := Lib.hid (by rw [HW1.out]; exact appW_below w jb 0)
  have HZ1 : Hid (w1.heap.size = w.heap.size + 2) := Lib.hid (by rw [HW1.out]; exact appW_size w jb 0)
  have HB2 := Lib.hid (bthen HB1.out HB1.out.size hb2)
  have hbp := (by rw [HW1.out]; exact appW_ptr w jb 0 : Blk w1 _ _ _)
  have hbe := (by rw [HW1.out]; exact appW_err w jb 0 : Blk w1 _ _ _)
  have HBP2 := Lib.hid ((Touch.of_new (S := fun _ => False) hb2).blk hbp id)
  have HBE2 := Lib.hid ((Touch.of_new (S := fun _ => False) hb2).blk hbe id)
  have HZ2 : Hid (w.heap.size + 2 ≤ w2.heap.size) := Lib.hid (by have := hb2.size; have := HZ1.out; omega)
  clear hb2 hbp hbe HT
  go_wp2_with fail
  refine (HS.out w2).mono ?_
  rintro e w3 ⟨V, rfl, hown, hb3⟩
  have HB3 := Lib.hid (bthen HB2.out HB2.out.size hb3)
  have HBP3 := Lib.hid ((Touch.of_new (S := fun _ => False) hb3).blk HBP2.out id)
  have HBE3 := Lib.hid ((Touch.of_new (S := fun _ => False) hb3).blk HBE2.out id)
  have HZ3 : Hid (w2.heap.size ≤ w3.heap.size) := Lib.hid hb3.size
  rw [HPE.out, HM.out] at hown
  have HV := Lib.hid hown
  obtain ⟨vA, vc, rfl⟩ : ∃ vA vc, V = .slice vA M vc := by
    rcases hown.2 with ⟨rfl, h0⟩ | ⟨g, cap, cur, rfl, _⟩
    · exact ⟨none, 0, by rw [h0]⟩
    · exact ⟨_, _, rfl⟩
  clear hb3 hown HS
  have HJ3 := Lib.hid ((Touch.of_new (S := fun _ => False) (w := w) HB3.out).blk HP.out.job id)
  have hp3 : w3.cell? ⟨w.heap.size, 0, none⟩ = some (.pointer (some ⟨jb, 0, none⟩)) := HBP3.out.cell 0
  have he3 := HBE3.out.cell 0
  have fe3 := HBE3.out.frozen 0
  have le3 := HBE3.out.lt
  have lp3 := HBP3.out.lt
  have lj3 := HJ3.out.lt
  have HR := Lib.hid (room_any w3 jb db J.n J.c v J.br (by omega) (by omega) HJ3.out)
  go_wp2_with fail
  refine HR.out.mono ?_
  rintro e w4 ⟨rfl, hb4⟩
  have HB4 := Lib.hid (bthen HB3.out HB3.out.size hb4)
  have HBP4 := Lib.hid ((Touch.of_new (S := fun _ => False) hb4).blk HBP3.out id)
  have HBE4 := Lib.hid ((Touch.of_new (S := fun _ => False) hb4).blk HBE3.out id)
  have HV4 := Lib.hid ((Touch.of_new (S := fun _ => False) hb4).own HV.out (fun _ _ => id))
  have HJ4 := Lib.hid ((Touch.of_new (S := fun _ => False) hb4).blk HJ3.out id)
  have HZ4 : Hid (w3.heap.size ≤ w4.heap.size) := Lib.hid hb4.size
  clear hb4 hp3 he3 fe3 le3 lp3 lj3 HR
  have hp4 : w4.cell? ⟨w.heap.size, 0, none⟩ = some (.pointer (some ⟨jb, 0, none⟩)) := HBP4.out.cell 0
  have he4 := HBE4.out.cell 0
  have fe4 := HBE4.out.frozen 0
  have le4 := HBE4.out.lt
  have lp4 := HBP4.out.lt
  go_wp2
  exact app_end rfl (by simpa using HBE4.out.set_ 0 (.int .i64 29)) ⟨rfl, HB4.out.setCell (by simp) _⟩
set_option maxHeartbeats 800000 in
theorem append_none (w : World) (jb db : Nat) (J : Jn) (v : Value) (A : Option Addr) (c : Nat) (xs : List (List UInt8)) (h : AppPre w jb db J v A xs) (hL : Jr.long xs = false)
    (hf : ¬ J.n < 2 + J.c + (Jr.pieces (Jr.text xs)).length) (h0 : xs.length = 0) :
    Calls Tryd.prog 18 #[.pointer (some ⟨jb, 0, none⟩), .slice A xs.length c] w fun e w' => e = .returned (.int .i64 0) ∧ Below w.heap.size w w' := by
  have h4 := h.job.cell 4
  rw [h.on] at h4
  have hlt := h.job.lt
  have HP := Lib.hid h
  have hb0 := appW_below w jb 0
  have hE1 := h.env.new hb0
  have HC := Lib.hid (containsLong_any (appW w jb 0) A c xs (h.list.new hb0) fun x hx => by have := text_mem hx; have := h.text; omega)
  rw [hL] at HC
  have HT := Lib.hid (text_any' (appW w jb 0) hE1 A c xs (h.list.new hb0) (by have := h.text; omega))
  have hlen := h.list.len
  obtain ⟨N, hN⟩ : ∃ N, xs.length = N := ⟨_, rfl⟩
  have HN := Lib.hid hN
  rw [hN] at HC HT hlen ⊢
  obtain ⟨t, ht⟩ : ∃ t, Jr.text xs = t := ⟨_, rfl⟩
  have HTX := Lib.hid ht
  have htl := h.text
  rw [ht] at HT htl hf
  have HTL := Lib.hid htl
  have HS := Lib.hid (fun w' => split_any w' t (by have := HTL.out; omega))
  have hpl : (Jr.pieces t).length = (t.length + 45) / 46 := by simp [Jr.pieces]
  have hps : (Jr.pieces t).length ≤ 100000 := by omega
  obtain ⟨ts, hts⟩ : ∃ ts, Dk.str t = ts := ⟨_, rfl⟩
  rw [hts] at HT HS
  unfold appW at HC HT
  have hn1 := h.n
  have hc1 := h.c
  clear h hL hE1 hb0 hN ht htl hts hpl
  obtain ⟨ps, hpe⟩ : ∃ ps, Jr.pieces t = ps := ⟨_, rfl⟩
  have HPE := Lib.hid hpe
  rw [hpe] at hps hf
  clear hpe
  obtain ⟨M, hM⟩ : ∃ M, ps.length = M := ⟨_, rfl⟩
  have HM := Lib.hid hM
  rw [hM] at hps hf
  clear hM
  have hf2 : (M : Int) ≤ (J.n : Int) - 2 - (J.c : Int) := by omega
  obtain rfl : N = 0 := by have := HN.out; omega
  go_enter_defers Tryd.func18, Tryd.ntmps18
  go_wp2_with fail
  refine HC.out.mono ?_
  rintro e w1 ⟨rfl, hw1⟩
  have HW1 := Lib.hid hw1
  clear hw1 HC
  rw [← HW1.out] at HT
  go_wp2_with fail
  refine HT.out.mono ?_
  rintro e w2 ⟨rfl, hb2⟩
  have HB1 : Hid (Below w.heap.size w w1) := Lib.hid (by rw [HW1.out]; exact appW_below w jb 0)
  have HZ1 : Hid (w1.heap.size = w.heap.size + 2) := Lib.hid (by rw [HW1.out]; exact appW_size w jb 0)
  have HB2 := Lib.hid (bthen HB1.out HB1.out.size hb2)
  have hbp := (by rw [HW1.out]; exact appW_ptr w jb 0 : Blk w1 _ _ _)
  have hbe := (by rw [HW1.out]; exact appW_err w jb 0 : Blk w1 _ _ _)
  have HBP2 := Lib.hid ((Touch.of_new (S := fun _ => False) hb2).blk hbp id)
  have HBE2 := Lib.hid ((Touch.of_new (S := fun _ => False) hb2).blk hbe id)
  have HZ2 : Hid (w.heap.size + 2 ≤ w2.heap.size) := Lib.hid (by have := hb2.size; have := HZ1.out; omega)
  clear hb2 hbp hbe HT
  go_wp2_with fail
  refine (HS.out w2).mono ?_
  rintro e w3 ⟨V, rfl, hown, hb3⟩
  have HB3 := Lib.hid (bthen HB2.out HB2.out.size hb3)
  have HBP3 := Lib.hid ((Touch.of_new (S := fun _ => False) hb3).blk HBP2.out id)
  have HBE3 := Lib.hid ((Touch.of_new (S := fun _ => False) hb3).blk HBE2.out id)
  have HZ3 : Hid (w2.heap.size ≤ w3.heap.size) := Lib.hid hb3.size
  rw [HPE.out, HM.out] at hown
  have HV := Lib.hid hown
  obtain ⟨vA, vc, rfl⟩ : ∃ vA vc, V = .slice vA M vc := by
    rcases hown.2 with ⟨rfl, h0⟩ | ⟨g, cap, cur, rfl, _⟩
    · exact ⟨none, 0, by rw [h0]⟩
    · exact ⟨_, _, rfl⟩
  clear hb3 hown HS
  have HJ3 := Lib.hid ((Touch.of_new (S := fun _ => False) (w := w) HB3.out).blk HP.out.job id)
  have hp3 : w3.cell? ⟨w.heap.size, 0, none⟩ = some (.pointer (some ⟨jb, 0, none⟩)) := HBP3.out.cell 0
  have he3 := HBE3.out.cell 0
  have fe3 := HBE3.out.frozen 0
  have le3 := HBE3.out.lt
  have lp3 := HBP3.out.lt
  have lj3 := HJ3.out.lt
  have HR := Lib.hid (room_any w3 jb db J.n J.c v J.br (by omega) (by omega) HJ3.out)
  go_wp2_with fail
  refine HR.out.mono ?_
  rintro e w4 ⟨rfl, hb4⟩
  have HB4 := Lib.hid (bthen HB3.out HB3.out.size hb4)
  have HBP4 := Lib.hid ((Touch.of_new (S := fun _ => False) hb4).blk HBP3.out id)
  have HBE4 := Lib.hid ((Touch.of_new (S := fun _ => False) hb4).blk HBE3.out id)
  have HV4 := Lib.hid ((Touch.of_new (S := fun _ => False) hb4).own HV.out (fun _ _ => id))
  have HJ4 := Lib.hid ((Touch.of_new (S := fun _ => False) hb4).blk HJ3.out id)
  have HZ4 : Hid (w3.heap.size ≤ w4.heap.size) := Lib.hid hb4.size
  clear hb4 hp3 he3 fe3 le3 lp3 lj3 HR
  have hp4 : w4.cell? ⟨w.heap.size, 0, none⟩ = some (.pointer (some ⟨jb, 0, none⟩)) := HBP4.out.cell 0
  have he4 := HBE4.out.cell 0
  have fe4 := HBE4.out.frozen 0
  have le4 := HBE4.out.lt
  have lp4 := HBP4.out.lt
  go_wp2
  exact app_end rfl (by simpa using HBE4.out.set_ 0 (.int .i64 0)) ⟨rfl, HB4.out.setCell (by simp) _⟩
end Go.Proofs.YthhkadeiplbdkaaDoor
