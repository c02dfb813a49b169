/- Walks of the journal's functions, part 10: the closures of Append. -/
import Derived.Test.YthhkadeiplbdkaaDoorJrW9
import Derived.Defers
set_option linter.unusedVariables false
set_option linter.unusedSimpArgs false
namespace Go.Proofs.YthhkadeiplbdkaaDoor
open Go.RowKit

/-- A variable in a block of its own. -/
def boxA (b : Nat) : Value := .pointer (some ⟨b, 0, none⟩)

theorem DPost.since {S : Nat → Prop} {w w1 w2 : World} {db : Nat} {D : Dk} {v : Value} {e : Ending} (h : DPost S w1 db D v e w2) (hb : Below w.heap.size w w1) : DPost S w db D v e w2 := by
  obtain ⟨h1, h2, h3⟩ := h
  have hs := hb.size
  have hs2 := h3.size
  refine ⟨h1, h2.mono fun k hk => hk.elim .inl fun h => .inr ⟨by omega, h.2⟩, ?_⟩
  exact (Touch.of_new (S := S) hb).trans h3 fun i hi hS => hS

section
variable (w : World) (S : Nat → Prop) (jb db b0 b1 b2 : Nat) (D : Dk) (p : Nat) (A : Option Addr) (c : Nat) (xs : List (List UInt8))
set_option maxHeartbeats 400000 in
theorem ap3_any (hD : DiskAt w S db D)
    (hj : w.cell? ⟨jb, 0, none⟩ = some (.pointer (some ⟨db, 0, none⟩))) (hjl : jb < w.heap.size) (hjS : ¬ S jb) (hx : Strs w A xs) (hxS : ∀ b o, A = some ⟨b, o, none⟩ → ¬ S b)
    (hp : p + xs.length ≤ 1000000) (hxl : ∀ x ∈ xs, x.length ≤ 1000) (hq : D.q.length + xs.length < 1000000)
    (h0 : Blk w b0 26 #[.pointer (some ⟨jb, 0, none⟩)]) (h1 : Blk w b1 3 #[.int .i64 (p : Int)]) (h2 : Blk w b2 27 #[.slice A xs.length c]) :
    Calls Tryd.prog 43 #[.pointer (some ⟨b0, 0, none⟩), .pointer (some ⟨b1, 0, none⟩), .pointer (some ⟨b2, 0, none⟩)] w (DPost S w db (Jr.wr D p xs).1 (.int .i64 (Jr.wr D p xs).2)) := by
  have HC := Lib.hid (jwrite_any w S jb db D p A c xs hD hj hjl hjS hx hxS hp hxl hq)
  have e0 : w.cell? ⟨b0, 0, none⟩ = some (.pointer (some ⟨jb, 0, none⟩)) := h0.cell 0
  have e1 : w.cell? ⟨b1, 0, none⟩ = some (.int .i64 (p : Int)) := h1.cell 0
  have e2 : w.cell? ⟨b2, 0, none⟩ = some (.slice A xs.length c) := h2.cell 0
  have l0 := h0.lt
  have l1 := h1.lt
  have l2 := h2.lt
  obtain ⟨r, hr⟩ : ∃ r, Jr.wr D p xs = r := ⟨_, rfl⟩
  rw [hr] at HC ⊢
  clear hD hj hjS hx hxS hp hxl hq hr
  go_enter Tryd.func43, Tryd.ntmps43
  go_wp2_with fail
  refine HC.out.mono ?_
  rintro e w1 ⟨rfl, hd1, ht1⟩
  have HF := Lib.hid (DPost.of (v := .int .i64 r.2) hd1 (Touch.refl _ _))
  have HT := Lib.hid ht1
  have HD := Lib.hid hd1
  clear hd1 ht1 HC HF
  go_wp2
  go_ret
  exact ⟨rfl, HD.out, HT.out⟩
set_option maxHeartbeats 400000 in
theorem ap4_any (hD : DiskAt w S db D)
    (hj : w.cell? ⟨jb, 0, none⟩ = some (.pointer (some ⟨db, 0, none⟩))) (hjl : jb < w.heap.size) (hjS : ¬ S jb) (hx : Strs w A xs) (hxS : ∀ b o, A = some ⟨b, o, none⟩ → ¬ S b)
    (hp : p + xs.length ≤ 1000000) (hxl : ∀ x ∈ xs, x.length ≤ 1000) (hq : D.q.length + xs.length < 1000000)
    (h0 : Blk w b0 26 #[.pointer (some ⟨jb, 0, none⟩)]) (h1 : Blk w b1 3 #[.int .i64 (p : Int)]) (h2 : Blk w b2 27 #[.slice A xs.length c]) :
    Calls Tryd.prog 44 #[.pointer (some ⟨b0, 0, none⟩), .pointer (some ⟨b1, 0, none⟩), .pointer (some ⟨b2, 0, none⟩)] w (DPost S w db (Jr.wr D p xs).1 (.int .i64 (Jr.wr D p xs).2)) := by
  have HC := Lib.hid (jwrite_any w S jb db D p A c xs hD hj hjl hjS hx hxS hp hxl hq)
  have e0 : w.cell? ⟨b0, 0, none⟩ = some (.pointer (some ⟨jb, 0, none⟩)) := h0.cell 0
  have e1 : w.cell? ⟨b1, 0, none⟩ = some (.int .i64 (p : Int)) := h1.cell 0
  have e2 : w.cell? ⟨b2, 0, none⟩ = some (.slice A xs.length c) := h2.cell 0
  have l0 := h0.lt
  have l1 := h1.lt
  have l2 := h2.lt
  obtain ⟨r, hr⟩ : ∃ r, Jr.wr D p xs = r := ⟨_, rfl⟩
  rw [hr] at HC ⊢
  clear hD hj hjS hx hxS hp hxl hq hr
  go_enter Tryd.func44, Tryd.ntmps44
  go_wp2_with fail
  refine HC.out.mono ?_
  rintro e w1 ⟨rfl, hd1, ht1⟩
  have HT := Lib.hid ht1
  have HD := Lib.hid hd1
  clear hd1 ht1 HC
  go_wp2
  go_ret
  exact ⟨rfl, HD.out, HT.out⟩

/-- A list of one text in a new block. -/
theorem strs_one (w : World) (x : List UInt8) : Strs (w.alloc (.cells #[.string (Dk.str x)] 9)) (some ⟨w.heap.size, 0, none⟩) [x] :=
  ⟨by simp, fun _ => ⟨w.heap.size, 0, rfl, by simp, fun k hk => by
    obtain rfl : k = 0 := by simpa using hk
    exact (Blk.new w _ _).cell 0⟩⟩
set_option maxHeartbeats 400000 in
theorem ap5_any (hE : Env w) (n : Nat) (hn : n < 10 ^ 8) (hD : DiskAt w S db D)
    (hj : w.cell? ⟨jb, 0, none⟩ = some (.pointer (some ⟨db, 0, none⟩))) (hjl : jb < w.heap.size) (hjS : ¬ S jb) (hSl : ∀ k, S k → k < w.heap.size) (hq : D.q.length + 1 < 1000000)
    (h0 : Blk w b0 26 #[.pointer (some ⟨jb, 0, none⟩)]) (h1 : Blk w b1 3 #[.int .i64 (n : Int)]) (h0S : ¬ S b0) (h1S : ¬ S b1) :
    Calls Tryd.prog 45 #[.pointer (some ⟨b0, 0, none⟩), .pointer (some ⟨b1, 0, none⟩)] w (DPost S w db (Jr.wr D 1 [Jr.head 1 n]).1 (.int .i64 (Jr.wr D 1 [Jr.head 1 n]).2)) := by
  have HC := Lib.hid (fun w' (hb : Below w.heap.size w w') => head_any w' (hE.new hb) 1 n (by omega) hn)
  have e0 : w.cell? ⟨b0, 0, none⟩ = some (.pointer (some ⟨jb, 0, none⟩)) := h0.cell 0
  have e1 : w.cell? ⟨b1, 0, none⟩ = some (.int .i64 (n : Int)) := h1.cell 0
  have l0 := h0.lt
  have l1 := h1.lt
  have HW : Hid (∀ w', Below w.heap.size w w' → Calls Tryd.prog 36 #[.pointer (some ⟨jb, 0, none⟩), .int .i64 1, .slice (some ⟨w'.heap.size, 0, none⟩) 1 1] (w'.alloc (.cells #[.string (Dk.str (Jr.head 1 n))] 9)) (DPost S w db (Jr.wr D 1 [Jr.head 1 n]).1 (.int .i64 (Jr.wr D 1 [Jr.head 1 n]).2))) := by
    refine Lib.hid ?_
    intro w' hb
    have hb2 := hb.alloc hb.size (.cells #[.string (Dk.str (Jr.head 1 n))] 9)
    refine (jwrite_any _ S jb db D 1 _ 1 [Jr.head 1 n] (hD.below hb2) ((hb2.cell (p := ⟨jb, 0, none⟩) hjl).trans hj) (Nat.lt_of_lt_of_le hjl hb2.size) hjS (strs_one w' _) ?_ (by simp) ?_ (by simpa using hq)).mono fun e w2 hp => hp.since hb2
    · rintro b o h
      injection h with h
      injection h with h _
      subst h
      intro hs
      have := hSl _ hs
      have := hb.size
      omega
    · intro x hx
      rw [List.mem_singleton.1 hx, Jr.head_length]
      omega
  obtain ⟨r, hr⟩ : ∃ r, Jr.wr D 1 [Jr.head 1 n] = r := ⟨_, rfl⟩
  rw [hr] at HW ⊢
  obtain ⟨s, hs⟩ : ∃ s, Dk.str (Jr.head 1 n) = s := ⟨_, rfl⟩
  rw [hs] at HW HC
  have HS0 := Lib.hid h0S
  have HS1 := Lib.hid h1S
  clear hE hn hD hj hjS hSl hq h0 h1 h0S h1S hr hs hjl
  go_enter Tryd.func45, Tryd.ntmps45
  go_wp2_with fail
  go_region_held3 (fun w' => w'.cell? ⟨b0, 0, none⟩ = some (.pointer (some ⟨jb, 0, none⟩)) ∧ w'.cell? ⟨b1, 0, none⟩ = some (.int .i64 (n : Int)))
    (first | exact ⟨q0, q1⟩ | exact ⟨k0, k1⟩ | go_keep)
    (first
      | (go_at_call 34; refine (HC.out w.drew (below_drewN (Below.refl _ _) 1)).mono ?_; rintro e w1 ⟨rfl, hb⟩; have HB1 := Lib.hid (bthen (below_drewN (Below.refl _ _) 1) (Nat.le_refl _) hb); have k0 := (HB1.out.cell (p := ⟨b0, 0, none⟩) l0).trans e0; have k1 := (HB1.out.cell (p := ⟨b1, 0, none⟩) l1).trans e1; clear hb)
      | (go_at_call 36; refine (HW.out w1 HB1.out).mono ?_; rintro e w2 ⟨rfl, hd, ht⟩; have HD2 := Lib.hid hd; have HT2 := Lib.hid ht; have q0 := (World.cell?_of_block (a := ⟨b0, 0, none⟩) (ht.block b0 l0 HS0.out)).trans e0; have q1 := (World.cell?_of_block (a := ⟨b1, 0, none⟩) (ht.block b1 l1 HS1.out)).trans e1; clear hd ht))
  go_wp2
  go_ret
  exact ⟨rfl, HD2.out, HT2.out⟩
set_option maxHeartbeats 400000 in
theorem ap6_any (hE : Env w) (n : Nat) (hn : n < 10 ^ 8) (hD : DiskAt w S db D)
    (hj : w.cell? ⟨jb, 0, none⟩ = some (.pointer (some ⟨db, 0, none⟩))) (hjl : jb < w.heap.size) (hjS : ¬ S jb) (hSl : ∀ k, S k → k < w.heap.size) (hq : D.q.length + 1 < 1000000)
    (h0 : Blk w b0 26 #[.pointer (some ⟨jb, 0, none⟩)]) (h1 : Blk w b1 3 #[.int .i64 (n : Int)]) (h0S : ¬ S b0) (h1S : ¬ S b1) :
    Calls Tryd.prog 46 #[.pointer (some ⟨b0, 0, none⟩), .pointer (some ⟨b1, 0, none⟩)] w (DPost S w db (Jr.wr D 0 [Jr.head 0 n]).1 (.int .i64 (Jr.wr D 0 [Jr.head 0 n]).2)) := by
  have HC := Lib.hid (fun w' (hb : Below w.heap.size w w') => head_any w' (hE.new hb) 0 n (by omega) hn)
  have e0 : w.cell? ⟨b0, 0, none⟩ = some (.pointer (some ⟨jb, 0, none⟩)) := h0.cell 0
  have e1 : w.cell? ⟨b1, 0, none⟩ = some (.int .i64 (n : Int)) := h1.cell 0
  have l0 := h0.lt
  have l1 := h1.lt
  have HW : Hid (∀ w', Below w.heap.size w w' → Calls Tryd.prog 36 #[.pointer (some ⟨jb, 0, none⟩), .int .i64 0, .slice (some ⟨w'.heap.size, 0, none⟩) 1 1] (w'.alloc (.cells #[.string (Dk.str (Jr.head 0 n))] 9)) (DPost S w db (Jr.wr D 0 [Jr.head 0 n]).1 (.int .i64 (Jr.wr D 0 [Jr.head 0 n]).2))) := by
    refine Lib.hid ?_
    intro w' hb
    have hb2 := hb.alloc hb.size (.cells #[.string (Dk.str (Jr.head 0 n))] 9)
    refine (jwrite_any _ S jb db D 0 _ 1 [Jr.head 0 n] (hD.below hb2) ((hb2.cell (p := ⟨jb, 0, none⟩) hjl).trans hj) (Nat.lt_of_lt_of_le hjl hb2.size) hjS (strs_one w' _) ?_ (by simp) ?_ (by simpa using hq)).mono fun e w2 hp => hp.since hb2
    · rintro b o h
      injection h with h
      injection h with h _
      subst h
      intro hs
      have := hSl _ hs
      have := hb.size
      omega
    · intro x hx
      rw [List.mem_singleton.1 hx, Jr.head_length]
      omega
  obtain ⟨r, hr⟩ : ∃ r, Jr.wr D 0 [Jr.head 0 n] = r := ⟨_, rfl⟩
  rw [hr] at HW ⊢
  obtain ⟨s, hs⟩ : ∃ s, Dk.str (Jr.head 0 n) = s := ⟨_, rfl⟩
  rw [hs] at HW HC
  have HS0 := Lib.hid h0S
  have HS1 := Lib.hid h1S
  clear hE hn hD hj hjS hSl hq h0 h1 h0S h1S hr hs hjl
  go_enter Tryd.func46, Tryd.ntmps46
  go_wp2_with fail
  go_region_held3 (fun w' => w'.cell? ⟨b0, 0, none⟩ = some (.pointer (some ⟨jb, 0, none⟩)) ∧ w'.cell? ⟨b1, 0, none⟩ = some (.int .i64 (n : Int)))
    (first | exact ⟨q0, q1⟩ | exact ⟨k0, k1⟩ | go_keep)
    (first
      | (go_at_call 34; refine (HC.out w.drew (below_drewN (Below.refl _ _) 1)).mono ?_; rintro e w1 ⟨rfl, hb⟩; have HB1 := Lib.hid (bthen (below_drewN (Below.refl _ _) 1) (Nat.le_refl _) hb); have k0 := (HB1.out.cell (p := ⟨b0, 0, none⟩) l0).trans e0; have k1 := (HB1.out.cell (p := ⟨b1, 0, none⟩) l1).trans e1; clear hb)
      | (go_at_call 36; refine (HW.out w1 HB1.out).mono ?_; rintro e w2 ⟨rfl, hd, ht⟩; have HD2 := Lib.hid hd; have HT2 := Lib.hid ht; have q0 := (World.cell?_of_block (a := ⟨b0, 0, none⟩) (ht.block b0 l0 HS0.out)).trans e0; have q1 := (World.cell?_of_block (a := ⟨b1, 0, none⟩) (ht.block b1 l1 HS1.out)).trans e1; clear hd ht))
  go_wp2
  go_ret
  exact ⟨rfl, HD2.out, HT2.out⟩
end
set_option maxHeartbeats 400000 in
theorem ap2_any (w : World) (jb db n c be bj : Nat) (v : Value) (br : Bool) (x : Int) (u : FrameMode)
    (hj : Blk w jb 50 #[.pointer (some ⟨db, 0, none⟩), .int .i64 (n : Int), .int .i64 (c : Int), v, .bool br])
    (h0 : Blk w be 33 #[.int .i64 x]) (h1 : Blk w bj 26 #[.pointer (some ⟨jb, 0, none⟩)]) :
    CallsD Tryd.prog 42 #[.pointer (some ⟨be, 0, none⟩), .pointer (some ⟨bj, 0, none⟩)] u w fun e u' w' => u' = u ∧ e = .returned (.tuple #[]) ∧ w' = w.setCell ⟨jb, 4, none⟩ (.bool (x != 0)) := by
  have e0 : w.cell? ⟨be, 0, none⟩ = some (.int .i64 x) := h0.cell 0
  have e1 : w.cell? ⟨bj, 0, none⟩ = some (.pointer (some ⟨jb, 0, none⟩)) := h1.cell 0
  have e4 : w.cell? ⟨jb, 4, none⟩ = some (.bool br) := hj.cell 4
  have f4 := hj.frozen 4
  have l0 := h0.lt
  have l1 := h1.lt
  have l2 := hj.lt
  clear h0 h1 hj
  go_enter_d Tryd.func42, Tryd.ntmps42
  go_wp2
  go_end0
  exact ⟨rfl, rfl⟩
end Go.Proofs.YthhkadeiplbdkaaDoor
