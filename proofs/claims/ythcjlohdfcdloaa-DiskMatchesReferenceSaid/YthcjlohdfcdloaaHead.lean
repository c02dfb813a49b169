/- The fixed examples of the disk's laws: the function without arguments returns true. -/
import Derived.Test.YthcjlohdfcdloaaLawW2
set_option linter.unusedVariables false
set_option linter.unusedSimpArgs false
namespace Go.Proofs.Ythcjlohdfcdloaa
open Go.RowKit

theorem DPost.alone {B : Nat} {w : World} {db : Nat} {D : Dk} {v : Value} {e : Ending} {w' : World} (h : DPost (fun k => B ≤ k) w db D v e w') (hB : B ≤ w.heap.size) : e = .returned v ∧ DiskAt w' (fun k => B ≤ k) db D ∧ Below B w w' :=
  ⟨h.1, h.2.1.mono fun k hk => by
    rcases hk with hk | hk
    · exact hk
    · exact Nat.le_trans hB hk.1, h.2.2.below hB fun _ => id⟩

namespace Head
def fa : ByteArray := fillv ⟨#[97]⟩
def fb : ByteArray := fillv ⟨#[98]⟩
def fz : ByteArray := fillv ⟨#[0]⟩
def bba : ByteArray := ⟨#[98, 98] ++ fa.data.extract 2 64⟩
def aba : ByteArray := ⟨#[97, 98] ++ fa.data.extract 2 64⟩

def D1 : Dk := Dk.new 2
def D2 : Dk := (D1.write 0 fa).1
theorem v2 : (D1.write 0 fa).2 = 0 := by kernel_rfl
theorem q2 : D2.q.length < 1000000 := by decide +kernel
def D3 : Dk := D2.sync.1
theorem v3 : D2.sync.2 = 0 := by kernel_rfl
theorem q3 : D3.q.length < 1000000 := by decide +kernel
def D4 : Dk := (D3.write 0 fb).1
theorem v4 : (D3.write 0 fb).2 = 0 := by kernel_rfl
theorem q4 : D4.q.length < 1000000 := by decide +kernel
theorem r4_0 : D4.read 0 = (fb, 0) := by kernel_rfl
def D5 : Dk := D4.fail 0 2
theorem q5 : D5.q.length < 1000000 := by decide +kernel
def D6 : Dk := D5.sync.1
theorem v6 : D5.sync.2 = 28 := by kernel_rfl
theorem q6 : D6.q.length < 1000000 := by decide +kernel
def D7 : Dk := D6.start
theorem q7 : D7.q.length < 1000000 := by decide +kernel
theorem r7_0 : D7.read 0 = (bba, 0) := by kernel_rfl
theorem r7_1 : D7.read 1 = (fz, 0) := by kernel_rfl
theorem r7_2 : D7.read 2 = (Dk.str [], 1) := by kernel_rfl
def D8 : Dk := (D7.write 1 ⟨#[115, 104, 111, 114, 116]⟩).1
theorem v8 : (D7.write 1 ⟨#[115, 104, 111, 114, 116]⟩).2 = 1 := by kernel_rfl
theorem q8 : D8.q.length < 1000000 := by decide +kernel
def D9 : Dk := Dk.new 1
def D10 : Dk := (D9.write 0 fa).1
theorem v10 : (D9.write 0 fa).2 = 0 := by kernel_rfl
theorem q10 : D10.q.length < 1000000 := by decide +kernel
def D11 : Dk := D10.sync.1
theorem v11 : D10.sync.2 = 0 := by kernel_rfl
theorem q11 : D11.q.length < 1000000 := by decide +kernel
def D12 : Dk := D11.rot 0 1 3
theorem q12 : D12.q.length < 1000000 := by decide +kernel
theorem r12_0 : D12.read 0 = (aba, 0) := by kernel_rfl
def D13 : Dk := (D12.write 0 fb).1
theorem v13 : (D12.write 0 fb).2 = 0 := by kernel_rfl
theorem q13 : D13.q.length < 1000000 := by decide +kernel
theorem raw13 : D13.raw = aba := by kernel_rfl
def D14 : Dk := Dk.new 1
def D15 : Dk := D14.arm 1 1 2
theorem q15 : D15.q.length < 1000000 := by decide +kernel
def D16 : Dk := (D15.write 0 fa).1
theorem v16 : (D15.write 0 fa).2 = 0 := by kernel_rfl
theorem q16 : D16.q.length < 1000000 := by decide +kernel
def D17 : Dk := (D16.write 0 fb).1
theorem v17 : (D16.write 0 fb).2 = 28 := by kernel_rfl
theorem q17 : D17.q.length < 1000000 := by decide +kernel
def D18 : Dk := D17.start
theorem q18 : D18.q.length < 1000000 := by decide +kernel
theorem r18_0 : D18.read 0 = (bba, 0) := by kernel_rfl
theorem q1 : D1.q.length < 1000000 := by decide +kernel
theorem q9 : D9.q.length < 1000000 := by decide +kernel
theorem q14 : D14.q.length < 1000000 := by decide +kernel
theorem cmp_bba : ((⟨#[98, 98]⟩ : ByteArray) ++ fa.extract 2 64) = bba := by kernel_rfl
theorem cmp_aba : ((⟨#[97, 98]⟩ : ByteArray) ++ fa.extract 2 64) = aba := by kernel_rfl
theorem fa_size : fa.size = 64 := by kernel_rfl
theorem fb_size : fb.size = 64 := by kernel_rfl
end Head

open Head in
set_option maxRecDepth 100000 in
set_option maxHeartbeats 2000000 in
theorem head_any (w : World) : Calls Try.prog 11 #[] w fun e w' => e = .returned (.bool true) ∧ Below w.heap.size w w' := by
  have fas := fa_size
  have fbs := fb_size
  have cb := cmp_bba
  have ca := cmp_aba
  have ce : (Dk.str []).toList = [] := by rw [ByteArray.toList_eq]; rfl
  go_enter Try.func11, Try.ntmps11
  go_wp2_with fail
  refine (new_yes w 2 (by omega) (by omega)).mono ?_
  rintro e w1 ⟨rfl, hd, hb⟩
  have HB1 := Lib.hid (bthen (Below.refl w.heap.size w) (Below.refl w.heap.size w).size hb)
  have HD1 := Lib.hid (show DiskAt w1 (fun k => w.heap.size ≤ k) (w.heap.size + 1) D1 from hd.mono fun k hk => Nat.le_trans (Below.refl w.heap.size w).size hk)
  clear hd hb
  have hz1 := HB1.out.size
  go_wp2_with fail
  refine (fill_any w1 ⟨#[97]⟩ (by decide)).mono ?_
  rintro e w2 ⟨rfl, hb⟩
  have HB2 := Lib.hid (bthen HB1.out HB1.out.size hb)
  rw [show fillv ⟨#[97]⟩ = fa from rfl]
  have hdx := HD1.out.below hb
  clear HD1
  have HD1 := Lib.hid hdx
  clear hdx
  clear hb
  have hz2 := HB2.out.size
  go_wp2_with fail
  refine (write_any w2 _ _ D1 0 fa HD1.out (by rw [fa_size]; omega) q1).mono ?_
  intro e w3 hpost
  obtain ⟨rfl, hd, hb⟩ := hpost.alone HB2.out.size
  have HB3 := Lib.hid (HB2.out.trans hb)
  have HD2 := Lib.hid (show DiskAt w3 (fun k => w.heap.size ≤ k) _ D2 from hd)
  clear hd hb hpost HD1
  rw [v2]
  have hz3 := HB3.out.size
  go_wp2_with fail
  refine (sync_any w3 _ _ D2 HD2.out (Nat.le_of_lt q2)).mono ?_
  intro e w4 hpost
  obtain ⟨rfl, hd, hb⟩ := hpost.alone HB3.out.size
  have HB4 := Lib.hid (HB3.out.trans hb)
  have HD3 := Lib.hid (show DiskAt w4 (fun k => w.heap.size ≤ k) _ D3 from hd)
  clear hd hb hpost HD2
  rw [v3]
  have hz4 := HB4.out.size
  go_wp2_with fail
  refine (fill_any w4 ⟨#[98]⟩ (by decide)).mono ?_
  rintro e w5 ⟨rfl, hb⟩
  have HB5 := Lib.hid (bthen HB4.out HB4.out.size hb)
  rw [show fillv ⟨#[98]⟩ = fb from rfl]
  have hdx := HD3.out.below hb
  clear HD3
  have HD3 := Lib.hid hdx
  clear hdx
  clear hb
  have hz5 := HB5.out.size
  go_wp2_with fail
  refine (write_any w5 _ _ D3 0 fb HD3.out (by rw [fb_size]; omega) q3).mono ?_
  intro e w6 hpost
  obtain ⟨rfl, hd, hb⟩ := hpost.alone HB5.out.size
  have HB6 := Lib.hid (HB5.out.trans hb)
  have HD4 := Lib.hid (show DiskAt w6 (fun k => w.heap.size ≤ k) _ D4 from hd)
  clear hd hb hpost HD3
  rw [v4]
  have hz6 := HB6.out.size
  go_wp2_with fail
  refine (read_any w6 _ _ D4 0 HD4.out (Nat.le_of_lt q4)).mono ?_
  rintro e w7 ⟨rfl, hb⟩
  rw [r4_0]
  have HB7 := Lib.hid (bthen HB6.out HB6.out.size hb)
  have hdx := HD4.out.below hb
  clear HD4
  have HD4 := Lib.hid hdx
  clear hdx hb
  have hz7 := HB7.out.size
  go_wp2_with fail
  refine (fail_any w7 _ _ D4 0 2 HD4.out (Nat.le_of_lt q4)).mono ?_
  intro e w8 hpost
  obtain ⟨rfl, hd, hb⟩ := hpost.alone HB7.out.size
  have HB8 := Lib.hid (HB7.out.trans hb)
  have HD5 := Lib.hid (show DiskAt w8 (fun k => w.heap.size ≤ k) _ D5 from hd)
  clear hd hb hpost HD4
  have hz8 := HB8.out.size
  go_wp2_with fail
  refine (sync_any w8 _ _ D5 HD5.out (Nat.le_of_lt q5)).mono ?_
  intro e w9 hpost
  obtain ⟨rfl, hd, hb⟩ := hpost.alone HB8.out.size
  have HB9 := Lib.hid (HB8.out.trans hb)
  have HD6 := Lib.hid (show DiskAt w9 (fun k => w.heap.size ≤ k) _ D6 from hd)
  clear hd hb hpost HD5
  rw [v6]
  have hz9 := HB9.out.size
  go_wp2_with fail
  refine (start_c w9 _ _ D6 HD6.out).mono ?_
  intro e w10 hpost
  obtain ⟨rfl, hd, hb⟩ := hpost.alone HB9.out.size
  have HB10 := Lib.hid (HB9.out.trans hb)
  have HD7 := Lib.hid (show DiskAt w10 (fun k => w.heap.size ≤ k) _ D7 from hd)
  clear hd hb hpost HD6
  have hz10 := HB10.out.size
  go_wp2_with fail
  refine (read_any w10 _ _ D7 0 HD7.out (Nat.le_of_lt q7)).mono ?_
  rintro e w11 ⟨rfl, hb⟩
  rw [r7_0]
  have HB11 := Lib.hid (bthen HB10.out HB10.out.size hb)
  have hdx := HD7.out.below hb
  clear HD7
  have HD7 := Lib.hid hdx
  clear hdx hb
  have hz11 := HB11.out.size
  go_wp2_with fail
  refine (read_any w11 _ _ D7 1 HD7.out (Nat.le_of_lt q7)).mono ?_
  rintro e w12 ⟨rfl, hb⟩
  rw [r7_1]
  have HB12 := Lib.hid (bthen HB11.out HB11.out.size hb)
  have hdx := HD7.out.below hb
  clear HD7
  have HD7 := Lib.hid hdx
  clear hdx hb
  have hz12 := HB12.out.size
  go_wp2_with fail
  refine (read_any w12 _ _ D7 2 HD7.out (Nat.le_of_lt q7)).mono ?_
  rintro e w13 ⟨rfl, hb⟩
  rw [r7_2]
  have HB13 := Lib.hid (bthen HB12.out HB12.out.size hb)
  have hdx := HD7.out.below hb
  clear HD7
  have HD7 := Lib.hid hdx
  clear hdx hb
  have hz13 := HB13.out.size
  go_wp2_with fail
  refine (write_any w13 _ _ D7 1 ⟨#[115, 104, 111, 114, 116]⟩ HD7.out (by decide) q7).mono ?_
  intro e w14 hpost
  obtain ⟨rfl, hd, hb⟩ := hpost.alone HB13.out.size
  have HB14 := Lib.hid (HB13.out.trans hb)
  have HD8 := Lib.hid (show DiskAt w14 (fun k => w.heap.size ≤ k) _ D8 from hd)
  clear hd hb hpost HD7
  rw [v8]
  have hz14 := HB14.out.size
  go_wp2_with fail
  refine (fail_nil w14 1 1).mono ?_
  rintro e w15 ⟨rfl, rfl⟩
  go_wp2_with fail
  refine (start_nil w14 ).mono ?_
  rintro e w16 ⟨rfl, rfl⟩
  go_wp2_with fail
  refine (arm_nil w14 0 1 1).mono ?_
  rintro e w17 ⟨rfl, rfl⟩
  go_wp2_with fail
  refine (rot_nil w14 0 0 1).mono ?_
  rintro e w18 ⟨rfl, hb⟩
  have HB18 := Lib.hid (bthen HB14.out HB14.out.size hb)
  clear hb
  clear HD8
  have hz18 := HB18.out.size
  go_wp2_with fail
  refine (new_yes w18 1 (by omega) (by omega)).mono ?_
  rintro e w19 ⟨rfl, hd, hb⟩
  have HB19 := Lib.hid (bthen HB18.out HB18.out.size hb)
  have HD9 := Lib.hid (show DiskAt w19 (fun k => w.heap.size ≤ k) (w18.heap.size + 1) D9 from hd.mono fun k hk => Nat.le_trans HB18.out.size hk)
  clear hd hb
  have hz19 := HB19.out.size
  go_wp2_with fail
  refine (fill_any w19 ⟨#[97]⟩ (by decide)).mono ?_
  rintro e w20 ⟨rfl, hb⟩
  have HB20 := Lib.hid (bthen HB19.out HB19.out.size hb)
  rw [show fillv ⟨#[97]⟩ = fa from rfl]
  have hdx := HD9.out.below hb
  clear HD9
  have HD9 := Lib.hid hdx
  clear hdx
  clear hb
  have hz20 := HB20.out.size
  go_wp2_with fail
  refine (write_any w20 _ _ D9 0 fa HD9.out (by rw [fa_size]; omega) q9).mono ?_
  intro e w21 hpost
  obtain ⟨rfl, hd, hb⟩ := hpost.alone HB20.out.size
  have HB21 := Lib.hid (HB20.out.trans hb)
  have HD10 := Lib.hid (show DiskAt w21 (fun k => w.heap.size ≤ k) _ D10 from hd)
  clear hd hb hpost HD9
  rw [v10]
  have hz21 := HB21.out.size
  go_wp2_with fail
  refine (sync_any w21 _ _ D10 HD10.out (Nat.le_of_lt q10)).mono ?_
  intro e w22 hpost
  obtain ⟨rfl, hd, hb⟩ := hpost.alone HB21.out.size
  have HB22 := Lib.hid (HB21.out.trans hb)
  have HD11 := Lib.hid (show DiskAt w22 (fun k => w.heap.size ≤ k) _ D11 from hd)
  clear hd hb hpost HD10
  rw [v11]
  have hz22 := HB22.out.size
  go_wp2_with fail
  refine (rot_any w22 _ _ D11 0 1 3 HD11.out).mono ?_
  intro e w23 hpost
  obtain ⟨rfl, hd, hb⟩ := hpost.alone HB22.out.size
  have HB23 := Lib.hid (HB22.out.trans hb)
  have HD12 := Lib.hid (show DiskAt w23 (fun k => w.heap.size ≤ k) _ D12 from hd)
  clear hd hb hpost HD11
  have hz23 := HB23.out.size
  go_wp2_with fail
  refine (read_any w23 _ _ D12 0 HD12.out (Nat.le_of_lt q12)).mono ?_
  rintro e w24 ⟨rfl, hb⟩
  rw [r12_0]
  have HB24 := Lib.hid (bthen HB23.out HB23.out.size hb)
  have hdx := HD12.out.below hb
  clear HD12
  have HD12 := Lib.hid hdx
  clear hdx hb
  have hz24 := HB24.out.size
  go_wp2_with fail
  refine (fill_any w24 ⟨#[98]⟩ (by decide)).mono ?_
  rintro e w25 ⟨rfl, hb⟩
  have HB25 := Lib.hid (bthen HB24.out HB24.out.size hb)
  rw [show fillv ⟨#[98]⟩ = fb from rfl]
  have hdx := HD12.out.below hb
  clear HD12
  have HD12 := Lib.hid hdx
  clear hdx
  clear hb
  have hz25 := HB25.out.size
  go_wp2_with fail
  refine (write_any w25 _ _ D12 0 fb HD12.out (by rw [fb_size]; omega) q12).mono ?_
  intro e w26 hpost
  obtain ⟨rfl, hd, hb⟩ := hpost.alone HB25.out.size
  have HB26 := Lib.hid (HB25.out.trans hb)
  have HD13 := Lib.hid (show DiskAt w26 (fun k => w.heap.size ≤ k) _ D13 from hd)
  clear hd hb hpost HD12
  rw [v13]
  have hz26 := HB26.out.size
  go_wp2_with fail
  refine (fill_any w26 ⟨#[97]⟩ (by decide)).mono ?_
  rintro e w27 ⟨rfl, hb⟩
  have HB27 := Lib.hid (bthen HB26.out HB26.out.size hb)
  rw [show fillv ⟨#[97]⟩ = fa from rfl]
  have hdx := HD13.out.below hb
  clear HD13
  have HD13 := Lib.hid hdx
  clear hdx
  clear hb
  have hz27 := HB27.out.size
  go_wp2_with fail
  refine (raw_any w27 _ _ D13 HD13.out).mono ?_
  rintro e w28 ⟨rfl, rfl⟩
  rw [raw13]
  go_wp2_with fail
  refine (raw_nil w27 ).mono ?_
  rintro e w29 ⟨rfl, rfl⟩
  go_wp2_with fail
  refine (new_yes w27 1 (by omega) (by omega)).mono ?_
  rintro e w30 ⟨rfl, hd, hb⟩
  have HB30 := Lib.hid (bthen HB27.out HB27.out.size hb)
  have HD14 := Lib.hid (show DiskAt w30 (fun k => w.heap.size ≤ k) (w27.heap.size + 1) D14 from hd.mono fun k hk => Nat.le_trans HB27.out.size hk)
  clear hd hb
  have hz30 := HB30.out.size
  go_wp2_with fail
  refine (arm_any w30 _ _ D14 1 1 2 HD14.out (by unfold Dk.i64; omega) (by unfold Dk.i64; omega) (by unfold Dk.i64; omega)).mono ?_
  intro e w31 hpost
  obtain ⟨rfl, hd, hb⟩ := hpost.alone HB30.out.size
  have HB31 := Lib.hid (HB30.out.trans hb)
  have HD15 := Lib.hid (show DiskAt w31 (fun k => w.heap.size ≤ k) _ D15 from hd)
  clear hd hb hpost HD14
  have hz31 := HB31.out.size
  go_wp2_with fail
  refine (fill_any w31 ⟨#[97]⟩ (by decide)).mono ?_
  rintro e w32 ⟨rfl, hb⟩
  have HB32 := Lib.hid (bthen HB31.out HB31.out.size hb)
  rw [show fillv ⟨#[97]⟩ = fa from rfl]
  have hdx := HD15.out.below hb
  clear HD15
  have HD15 := Lib.hid hdx
  clear hdx
  clear hb
  have hz32 := HB32.out.size
  go_wp2_with fail
  refine (write_any w32 _ _ D15 0 fa HD15.out (by rw [fa_size]; omega) q15).mono ?_
  intro e w33 hpost
  obtain ⟨rfl, hd, hb⟩ := hpost.alone HB32.out.size
  have HB33 := Lib.hid (HB32.out.trans hb)
  have HD16 := Lib.hid (show DiskAt w33 (fun k => w.heap.size ≤ k) _ D16 from hd)
  clear hd hb hpost HD15
  rw [v16]
  have hz33 := HB33.out.size
  go_wp2_with fail
  refine (fill_any w33 ⟨#[98]⟩ (by decide)).mono ?_
  rintro e w34 ⟨rfl, hb⟩
  have HB34 := Lib.hid (bthen HB33.out HB33.out.size hb)
  rw [show fillv ⟨#[98]⟩ = fb from rfl]
  have hdx := HD16.out.below hb
  clear HD16
  have HD16 := Lib.hid hdx
  clear hdx
  clear hb
  have hz34 := HB34.out.size
  go_wp2_with fail
  refine (write_any w34 _ _ D16 0 fb HD16.out (by rw [fb_size]; omega) q16).mono ?_
  intro e w35 hpost
  obtain ⟨rfl, hd, hb⟩ := hpost.alone HB34.out.size
  have HB35 := Lib.hid (HB34.out.trans hb)
  have HD17 := Lib.hid (show DiskAt w35 (fun k => w.heap.size ≤ k) _ D17 from hd)
  clear hd hb hpost HD16
  rw [v17]
  have hz35 := HB35.out.size
  go_wp2_with fail
  refine (start_c w35 _ _ D17 HD17.out).mono ?_
  intro e w36 hpost
  obtain ⟨rfl, hd, hb⟩ := hpost.alone HB35.out.size
  have HB36 := Lib.hid (HB35.out.trans hb)
  have HD18 := Lib.hid (show DiskAt w36 (fun k => w.heap.size ≤ k) _ D18 from hd)
  clear hd hb hpost HD17
  have hz36 := HB36.out.size
  go_wp2_with fail
  refine (read_any w36 _ _ D18 0 HD18.out (Nat.le_of_lt q18)).mono ?_
  rintro e w37 ⟨rfl, hb⟩
  rw [r18_0]
  have HB37 := Lib.hid (bthen HB36.out HB36.out.size hb)
  have hdx := HD18.out.below hb
  clear HD18
  have HD18 := Lib.hid hdx
  clear hdx hb
  have hz37 := HB37.out.size
  go_wp2_with fail
  refine (fill_any w37 ⟨#[97]⟩ (by decide)).mono ?_
  rintro e w38 ⟨rfl, hb⟩
  have HB38 := Lib.hid (bthen HB37.out HB37.out.size hb)
  rw [show fillv ⟨#[97]⟩ = fa from rfl]
  have hdx := HD18.out.below hb
  clear HD18
  have HD18 := Lib.hid hdx
  clear hdx
  clear hb
  have hz38 := HB38.out.size
  go_wp2_with fail
  refine (fill_any w38 ⟨#[98]⟩ (by decide)).mono ?_
  rintro e w39 ⟨rfl, hb⟩
  have HB39 := Lib.hid (bthen HB38.out HB38.out.size hb)
  rw [show fillv ⟨#[98]⟩ = fb from rfl]
  have hdx := HD18.out.below hb
  clear HD18
  have HD18 := Lib.hid hdx
  clear hdx
  clear hb
  have hz39 := HB39.out.size
  go_wp2_with fail
  refine (fill_any w39 ⟨#[97]⟩ (by decide)).mono ?_
  rintro e w40 ⟨rfl, hb⟩
  have HB40 := Lib.hid (bthen HB39.out HB39.out.size hb)
  rw [show fillv ⟨#[97]⟩ = fa from rfl]
  have hdx := HD18.out.below hb
  clear HD18
  have HD18 := Lib.hid hdx
  clear hdx
  clear hb
  have hz40 := HB40.out.size
  go_wp2_with fail
  refine (fill_any w40 ⟨#[0]⟩ (by decide)).mono ?_
  rintro e w41 ⟨rfl, hb⟩
  have HB41 := Lib.hid (bthen HB40.out HB40.out.size hb)
  rw [show fillv ⟨#[0]⟩ = fz from rfl]
  have hdx := HD18.out.below hb
  clear HD18
  have HD18 := Lib.hid hdx
  clear hdx
  clear hb
  have hz41 := HB41.out.size
  go_wp2_with fail
  refine (sync_nil w41 ).mono ?_
  rintro e w42 ⟨rfl, rfl⟩
  go_wp2_with fail
  refine (fill_any w41 ⟨#[97]⟩ (by decide)).mono ?_
  rintro e w43 ⟨rfl, hb⟩
  have HB43 := Lib.hid (bthen HB41.out HB41.out.size hb)
  rw [show fillv ⟨#[97]⟩ = fa from rfl]
  have hdx := HD18.out.below hb
  clear HD18
  have HD18 := Lib.hid hdx
  clear hdx
  clear hb
  have hz43 := HB43.out.size
  go_wp2_with fail
  refine (write_nil w43 0 fa).mono ?_
  rintro e w44 ⟨rfl, hb⟩
  have HB44 := Lib.hid (bthen HB43.out HB43.out.size hb)
  clear hb
  have hz44 := HB44.out.size
  go_wp2_with fail
  refine (new_no w44 0 (by omega)).mono ?_
  rintro e w45 ⟨rfl, rfl⟩
  go_wp2_with fail
  refine (new_no w44 4001 (by omega)).mono ?_
  rintro e w46 ⟨rfl, rfl⟩
  go_wp2
  go_ret
  exact ⟨rfl, HB44.out⟩
end Go.Proofs.Ythcjlohdfcdloaa
