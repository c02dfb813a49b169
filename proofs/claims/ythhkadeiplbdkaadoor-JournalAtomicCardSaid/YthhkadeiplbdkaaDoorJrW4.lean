/- Walks of the journal's functions, part 4: split, text. -/
import Derived.Test.YthhkadeiplbdkaaDoorBuild
import Derived.IntWalk
set_option linter.unusedVariables false
set_option linter.unusedSimpArgs false
namespace Go.Proofs.YthhkadeiplbdkaaDoor
open Go.RowKit

/-- Texts as cells. -/
def strL (xs : List (List UInt8)) : List Value := xs.map fun x => .string (Dk.str x)
theorem strL_length (xs : List (List UInt8)) : (strL xs).length = xs.length := by simp [strL]
theorem strL_append (xs ys : List (List UInt8)) : strL (xs ++ ys) = strL xs ++ strL ys := by simp [strL]
theorem info_strs : (Tryd.prog.info? 9).map (fun i => (i.zero, i.size, i.bytes)) = some (some (.string ⟨#[]⟩), 1, 16) := by kernel_rfl
def strOfV : Value → ByteArray | .string s => s | _ => ⟨#[]⟩
theorem str_some {l : List UInt8} (h : 0 < l.length) : (Dk.str l).toList.isEmpty = false := by
  rw [← decide_eq_emptyBytes, decide_eq_false_iff_not]
  intro e
  have h2 : l.length = 0 := by rw [← Dk.str_size, e]; rfl
  omega

def SplitRel (w : World) (l : List UInt8) (k : Nat) (v : Value) (wr : World) : Prop :=
  wr.ownsRow w.heap.size 9 1 v k (strL ((Jr.pieces l).take k)) ∧ Below w.heap.size w wr
def SplitPost (w : World) (l : List UInt8) (e : Ending) (w' : World) : Prop :=
  ∃ v, e = .returned v ∧ w'.ownsRow w.heap.size 9 1 v (Jr.pieces l).length (strL (Jr.pieces l)) ∧ Below w.heap.size w w'

set_option maxRecDepth 100000 in
set_option maxHeartbeats 400000 in
theorem split_any (w : World) (l : List UInt8) (hl : l.length ≤ 100000000) :
    Calls Tryd.prog 40 #[.string (Dk.str l)] w (SplitPost w l) := by
  obtain ⟨i0, hi, hz0, hz1, hz2⟩ := info_parts info_strs
  have HI := Lib.hid hi
  have HZ0 := Lib.hid hz0
  have HZ1 := Lib.hid hz1
  have HZ2 := Lib.hid hz2
  have hpl : (Jr.pieces l).length = (l.length + 45) / 46 := by simp [Jr.pieces]
  have HPL := Lib.hid hpl
  have HL := Lib.hid hl
  clear hi hz0 hz1 hz2 hpl hl
  go_enter Tryd.func40, Tryd.ntmps40
  go_wp2
  go_loopw [0, 3, 4] (fun t v _ wr => ∃ k : Nat, Hid (k ≤ (l.length + 45) / 46) ∧ t = .string (Dk.str (l.drop (46 * k))) ∧ SplitRel w l k v wr) (fun t _ _ _ => (strOfV t).size)
  case atStart => exact ⟨0, Lib.hid (Nat.zero_le _), by simp, World.ownsRow_nil _ _ _ _, Below.refl _ _⟩
  case round =>
    obtain ⟨k, hk, rfl, hrel⟩ := hrel
    have HR := Lib.hid hrel
    clear hrel
    by_cases hlt : 46 * k < l.length
    · have hlen : (l.drop (46 * k)).length = l.length - 46 * k := List.length_drop
      have hne := str_some (l := l.drop (46 * k)) (by omega)
      have hsz : (Dk.str (l.drop (46 * k))).size = l.length - 46 * k := by rw [Dk.str_size, hlen]
      have hsz2 : (Dk.str (l.drop (46 * k))).size ≤ 100000000 := by have := HL.out; omega
      obtain ⟨n, hn⟩ : ∃ n, min 46 (l.length - 46 * k) = n := ⟨_, rfl⟩
      have hmin : min 46 ((Dk.str (l.drop (46 * k))).size : Int) = (n : Int) := by omega
      have hn1 : (n : Int) ≤ ((Dk.str (l.drop (46 * k))).size : Int) := by omega
      have hn2 : n ≤ (Dk.str (l.drop (46 * k))).size := by omega
      have hn3 : (0 : Int) ≤ (n : Int) := by omega
      have hn4 : 1 ≤ n := by omega
      have e1 : (Dk.str (l.drop (46 * k))).extract 0 n = Dk.str ((l.drop (46 * k)).take 46) := by
        rw [str_extract, List.drop_zero, Nat.sub_zero]
        congr 1
        rw [List.take_eq_take_iff, hlen]; omega
      have e2 : (Dk.str (l.drop (46 * k))).extract n (Dk.str (l.drop (46 * k))).size = Dk.str (l.drop (46 * (k + 1))) := by
        rw [str_extract, List.drop_drop, Dk.str_size, hlen]
        congr 1
        rw [List.take_of_length_le (by rw [List.length_drop]; omega)]
        by_cases h : n = 46
        · rw [h]; congr 1
        · rw [List.drop_of_length_le (by omega), List.drop_of_length_le (by omega)]
      have hkp : k < (Jr.pieces l).length := by rw [HPL.out]; omega
      have e3 : (Jr.pieces l).take (k + 1) = (Jr.pieces l).take k ++ [(l.drop (46 * k)).take 46] := by
        rw [List.take_succ_eq_append_getElem hkp]
        congr 2
        simp [Jr.pieces]
      have HK := Lib.hid (show k + 1 ≤ (l.length + 45) / 46 by rw [HPL.out] at hkp; omega)
      have HE1 := Lib.hid e1
      have HE2 := Lib.hid e2
      have HE3 := Lib.hid e3
      have HN := Lib.hid (show (Dk.str (l.drop (46 * (k + 1)))).size + n = (Dk.str (l.drop (46 * k))).size by rw [Dk.str_size, hsz, List.length_drop]; omega)
      have hk9 : k ≤ 10000000 := by have := HK.out; have := HL.out; omega
      have hwz := HR.out.2.size
      generalize Dk.str (l.drop (46 * k)) = s at hne hsz2 hmin hn1 hn2 HE1 HE2 HN ⊢
      clear hlen hsz hn e1 e2 e3 hkp
      go_wp2_with (at_builtin; refine wpList_append_own_at _ rfl (.tmp 10) (.tmp 14) _ rfl w.heap.size 9 i0 _ 1 16 Tryd.underlying27 HI.out HZ0.out HZ1.out HZ2.out rfl (by omega) u3 k _ rfl (HR.out.1.alloc _) ⟨wr.heap.size, 0, none⟩ 1 1 [.string (s.extract 0 n)] rfl rfl (cell_one_new _ _ _) (by simp [Value.oneCell']) (by simp only [maxLen]; omega) (by omega) (by simp; omega) ?_; intro v1 w2 hown2 hg2 hnil2 hat2; have HOWN2 := Lib.hid hown2; have HG2 := Lib.hid hg2; clear hown2 hg2 hnil2 hat2)
      go_roundw
      case rel =>
        refine ⟨k + 1, Lib.hid HK.out, by rw [HE2.out], ?_, ?_⟩
        · have h := HOWN2.out
          rw [HE3.out, strL_append]
          rw [HE1.out] at h
          exact h
        · exact (HR.out.2.alloc hwz _).grown HG2.out (by simp; omega) (fun j hj => (HR.out.1.lt j hj).1)
      case measure =>
        have := HN.out
        rw [HE2.out]
        simp only [strOfV]
        omega
    · have hd : l.drop (46 * k) = [] := List.drop_of_length_le (by omega)
      rw [hd]
      have hk2 : k = (Jr.pieces l).length := by rw [HPL.out]; have := hk.out; omega
      have HK2 := Lib.hid hk2
      rw [show Dk.str [] = (⟨#[]⟩ : ByteArray) from rfl]
      clear hlt hd hk2
      go_wp2
      go_ret
      have h := HR.out.1
      rw [HK2.out, List.take_length] at h
      exact ⟨u3, rfl, h, HR.out.2⟩
end Go.Proofs.YthhkadeiplbdkaaDoor
