/- Walks of the journal's functions, part 6: parse. -/
import Derived.Test.YthhkadeiplbdkaaDoorJrP
set_option linter.unusedVariables false
set_option linter.unusedSimpArgs false
namespace Go.Proofs.YthhkadeiplbdkaaDoor
open Go.RowKit

def ParsePost (w : World) (l : List UInt8) (e : Ending) (w' : World) : Prop :=
  Below w.heap.size w w' ∧ ((Jr.parse l = none ∧ e = .returned (.tuple #[.slice none 0 0, .bool false])) ∨ ∃ rs v, Jr.parse l = some rs ∧ e = .returned (.tuple #[v, .bool true]) ∧ w'.ownsRow w.heap.size 9 1 v rs.length (strL rs))
def ParseRel (w : World) (l : List UInt8) (rem : List UInt8) (v : Value) (wr : World) : Prop :=
  ∃ rs, Jr.parse l = (Jr.parse rem).map (rs ++ ·) ∧ rs.length + rem.length ≤ l.length ∧ wr.ownsRow w.heap.size 9 1 v rs.length (strL rs) ∧ Below w.heap.size w wr

set_option maxRecDepth 100000 in
set_option maxHeartbeats 800000 in
theorem parse_any (w : World) (hE : Env w) (l : List UInt8) (hl : l.length ≤ 100000000) :
    Calls Tryd.prog 32 #[.string (Dk.str l)] w (ParsePost w l) := by
  obtain ⟨i0, hi, hz0, hz1, hz2⟩ := info_parts info_strs
  have HI := Lib.hid hi
  have HZ0 := Lib.hid hz0
  have HZ1 := Lib.hid hz1
  have HZ2 := Lib.hid hz2
  have HE := Lib.hid hE
  have HL := Lib.hid hl
  clear hi hz0 hz1 hz2 hl hE
  go_enter Tryd.func32, Tryd.ntmps32
  go_wp2
  go_loopw [0, 4] (fun t v wr => ∃ rem : List UInt8, Hid (rem.length ≤ l.length) ∧ t = .string (Dk.str rem) ∧ ParseRel w l rem v wr) (fun t _ _ => (strOfV t).size)
  case atStart => exact ⟨l, Lib.hid (Nat.le_refl _), rfl, [], by cases Jr.parse l <;> simp, by simp, World.ownsRow_nil _ _ _ _, Below.refl _ _⟩
  case round =>
    obtain ⟨rem, hk, rfl, rs, he, hrl, hown, hbw⟩ := hrel
    have HR := Lib.hid he
    have HRL := Lib.hid hrl
    have HO := Lib.hid hown
    have HB := Lib.hid hbw
    clear hrl he hown hbw
    by_cases h0 : rem = []
    · subst h0
      rw [show Dk.str [] = (⟨#[]⟩ : ByteArray) from rfl]
      go_wp2
      go_ret2
      refine ⟨HB.out, .inr ⟨rs, _, ?_, rfl, HO.out⟩⟩
      rw [HR.out, Jr.parse_nil]; simp
    · have hne := str_some (List.length_pos_iff.2 h0)
      have hsz : (Dk.str rem).size ≤ 100000000 := by rw [Dk.str_size]; have := hk.out; have := HL.out; omega
      have HCL := Lib.hid (Jr.cut_le rem [58])
      have HCT := Lib.hid (Jr.cut_lt rem 58 h0)
      have HBAD := Lib.hid (fun g : ¬ Jr.good rem => show Jr.parse l = none by rw [HR.out, Jr.parse_bad h0 g]; rfl)
      have HGOOD := Lib.hid (fun g : Jr.good rem => show Jr.parse l = _ by rw [HR.out, Jr.parse_good h0 g])
      have HCUT := Lib.hid (cut_any wr (HE.out.new HB.out) (Dk.str rem) (Dk.str [58]) (by omega))
      have hcc : Lib.cut (Dk.str rem).data.toList (Dk.str [58]).data.toList = Lib.cut rem [58] := rfl
      rw [hcc] at HCUT
      have hszr : rem.length = (Dk.str rem).size := (Dk.str_size rem).symm
      have HSZR := Lib.hid hszr
      obtain ⟨c, hc⟩ : ∃ c, Lib.cut rem [58] = c := ⟨_, rfl⟩
      rw [hc] at HCL HCT HGOOD HCUT
      obtain ⟨a, b, ok⟩ := c
      dsimp only at HCL HCT HGOOD HCUT
      have HC0 := Lib.hid hc
      clear hc hcc h0 hszr HR
      change Hid (Calls _ _ _ _ fun e w' => e = .returned (.tuple #[.string (Dk.str a), .string (Dk.str b), .bool ok]) ∧ Below wr.heap.size wr w') at HCUT
      have HA := Lib.hid (fun W (h : Env W) => atoi_any W h (Dk.str a) (by rw [Dk.str_size]; have := HCL.out; have := hk.out; have := HL.out; omega))
      obtain ⟨vn, hvn⟩ : ∃ v, atoiV a = v := ⟨_, rfl⟩
      have HVN := Lib.hid hvn
      rw [hvn] at HGOOD
      have hbs := Dk.str_size b
      have hbb : b.length < 100000000 := by have := HCT.out; have := hk.out; have := HL.out; omega
      obtain ⟨sb, hsb⟩ : ∃ x, Dk.str b = x := ⟨_, rfl⟩
      rw [hsb] at hbs HCUT
      have HSB := Lib.hid hsb
      clear hsb
      obtain ⟨s, hs⟩ : ∃ s, Dk.str rem = s := ⟨_, rfl⟩
      rw [hs] at HCUT hsz hne HSZR ⊢
      obtain ⟨n, okn⟩ := vn
      dsimp only at HGOOD
      have HG := Lib.hid (Jr.good_iff HC0.out hvn)
      have HS := Lib.hid hs
      clear hvn hs
      go_wp2_with fail
      refine HCUT.out.mono ?_
      rintro e w1 ⟨rfl, hb⟩
      have HB1 := Lib.hid (bthen HB.out HB.out.size hb)
      have HO1 := Lib.hid ((Touch.of_new (S := fun _ => False) hb).own HO.out (fun _ _ => id))
      clear hb HCUT
      go_wp2_with fail
      refine (HA.out w1 (HE.out.new HB1.out)).mono ?_
      rintro e w2 ⟨ev, rfl, hev, hb⟩
      have HB2 := Lib.hid (bthen HB1.out HB1.out.size hb)
      have HO2 := Lib.hid ((Touch.of_new (S := fun _ => False) hb).own HO1.out (fun _ _ => id))
      clear hb HA
      have hvv : atoiV (Dk.str a).data.toList = (n, okn) := HVN.out
      rw [hvv] at hev ⊢
      dsimp only at hev ⊢
      clear hvv
      cases ok with
      | false =>
        have HF := Lib.hid (HBAD.out fun g => by have := HG.out.1 g; simp at this)
        go_wp2
        go_ret2
        exact ⟨HB2.out, .inl ⟨HF.out, rfl⟩⟩
      | true =>
        rcases hev with ⟨rfl, rfl⟩ | ⟨rfl, te, pe, rfl⟩
        rotate_left
        · have HF := Lib.hid (HBAD.out fun g => by have := HG.out.1 g; simp at this)
          go_wp2
          go_ret2
          exact ⟨HB2.out, .inl ⟨HF.out, rfl⟩⟩
        · by_cases h0 : n < 0
          · have HF := Lib.hid (HBAD.out fun g => by have := (HG.out.1 g).2.2.1; omega)
            go_wp2
            go_ret2
            exact ⟨HB2.out, .inl ⟨HF.out, rfl⟩⟩
          · by_cases h1 : 20000 < n
            · have HF := Lib.hid (HBAD.out fun g => by have := (HG.out.1 g).2.2.2.1; omega)
              go_wp2
              go_ret2
              exact ⟨HB2.out, .inl ⟨HF.out, rfl⟩⟩
            · obtain ⟨m, rfl⟩ := Int.eq_ofNat_of_zero_le (show 0 ≤ n by omega)
              have HC := Lib.hid (itoa_any w2 (HE.out.new HB2.out) (m : Int) (by omega) (by omega))
              rw [Jr.itoa_nat _ (by omega)] at HC
              change Hid (Calls _ _ _ _ fun e w' => e = .returned (.string (Dk.str (Jr.decs m))) ∧ Below w2.heap.size w2 w') at HC
              by_cases hd : Jr.decs m = a
              · have hbe := str_eq_beq hd
                have HD := Lib.hid hd
                clear hd
                by_cases hm : b.length < m
                · have HF := Lib.hid (HBAD.out fun g => by have := (HG.out.1 g).2.2.2.2.2; omega)
                  go_wp2_with fail
                  refine HC.out.mono ?_
                  rintro e w3 ⟨rfl, hb⟩
                  have HB3 := Lib.hid (bthen HB2.out HB2.out.size hb)
                  clear hb HC
                  go_wp2
                  go_ret2
                  exact ⟨HB3.out, .inl ⟨HF.out, rfl⟩⟩
                · have HF := Lib.hid (HGOOD.out (HG.out.2 ⟨rfl, rfl, by omega, by omega, by rw [Int.toNat_natCast]; exact HD.out, by omega⟩))
                  rw [Int.toNat_natCast] at HF
                  have hm1 : (m : Int) ≤ (sb.size : Int) := by omega
                  have hm2 : m ≤ sb.size := by omega
                  have hm0 : (0 : Int) ≤ (m : Int) := by omega
                  have hsb2 : sb.size ≤ 100000000 := by omega
                  have e1 : sb.extract 0 m = Dk.str (b.take m) := by rw [← HSB.out, str_extract, List.drop_zero, Nat.sub_zero]
                  have e2 : sb.extract m sb.size = Dk.str (b.drop m) := by
                    rw [← HSB.out, str_extract, Dk.str_size]
                    congr 1
                    exact List.take_of_length_le (Nat.le_of_eq List.length_drop)
                  have HE1 := Lib.hid e1
                  have HE2 := Lib.hid e2
                  have hrl : rs.length ≤ 100000000 := by have := HRL.out; have := HL.out; omega
                  have HBS := Lib.hid hbs
                  clear hbb hbs e1 e2 hm
                  go_wp2_with fail
                  refine HC.out.mono ?_
                  rintro e w3 ⟨rfl, hb⟩
                  have HO3 := Lib.hid ((Touch.of_new (S := fun _ => False) hb).own HO2.out (fun _ _ => id))
                  have HB3 := Lib.hid (bthen HB2.out HB2.out.size hb)
                  have hz3 := HB3.out.size
                  clear hb HC
                  go_wp2_with (at_builtin; (refine wpList_append_own_at _ rfl (.tmp 49) (.tmp 53) _ rfl w.heap.size 9 i0 _ 1 16 Tryd.underlying27 HI.out HZ0.out HZ1.out HZ2.out rfl (by omega) u4 rs.length _ rfl (HO3.out.alloc _) ⟨w3.heap.size, 0, none⟩ 1 1 [.string (sb.extract 0 m)] rfl rfl (cell_one_new _ _ _) (by simp [Value.oneCell']) (by simp only [maxLen]; omega) (by omega) (by simp; omega) ?_); intro v1 w4 hown2 hg2 hnil2 hat2; have HOWN2 := Lib.hid hown2; have HG2 := Lib.hid hg2; clear hown2 hg2 hnil2 hat2)
                  go_roundw
                  case rel =>
                    refine ⟨b.drop m, Lib.hid ?_, by rw [HE2.out], rs ++ [b.take m], ?_, ?_, ?_, ?_⟩
                    · have := HCT.out; have := hk.out; rw [List.length_drop]; omega
                    · rw [HF.out]; cases Jr.parse (b.drop m) <;> simp
                    · have := HRL.out; have := HCT.out; rw [List.length_append, List.length_drop, List.length_singleton]; omega
                    · have h := HOWN2.out
                      rw [HE1.out] at h
                      rw [strL_append, List.length_append]
                      exact h
                    · exact (HB3.out.alloc HB3.out.size _).grown HG2.out (by simp; omega) (fun j hj => (HO3.out.lt j hj).1)
                  case measure =>
                    have h1 := HSZR.out
                    have h2 := HCT.out
                    rw [HE2.out]
                    simp only [strOfV, Dk.str_size, List.length_drop]
                    omega
              · have HF := Lib.hid (HBAD.out fun g => hd (by have := (HG.out.1 g).2.2.2.2.1; rwa [Int.toNat_natCast] at this))
                have hbe := str_ne_beq hd
                clear hd
                go_wp2_with fail
                refine HC.out.mono ?_
                rintro e w3 ⟨rfl, hb⟩
                have HB3 := Lib.hid (bthen HB2.out HB2.out.size hb)
                clear hb HC
                go_wp2
                go_ret2
                exact ⟨HB3.out, .inl ⟨HF.out, rfl⟩⟩
end Go.Proofs.YthhkadeiplbdkaaDoor
