/- Walks of the digest: blocks. -/
import Derived.Test.YthhkadeiplbdkaaDoorDigW1
set_option linter.unusedVariables false
set_option linter.unusedSimpArgs false
namespace Go.Proofs.YthhkadeiplbdkaaDoor
open Go.RowKit

/-- 'copy(dst, s)', s a string, dst lying in row g from place o on: as many bytes as fit go over. -/
theorem run_copy_row_min {P : Program} (w : World) (dT sT ty elem : TypeId) (g o dLen dCap : Nat) (s : ByteArray) (cur : Array Value) (t : TypeId) (n : Nat) (hn : Nat.min s.size dLen = n)
    (hu : P.underlying dT = some (.slice elem)) (hs : (P.info? elem).map (·.size) = some 1) (hg : w.heap[g]? = some (.cells cur t (0, 0))) (hfit : o + n ≤ cur.size) :
    (Builtin.copy_ #[dT, sT] ty #[.slice (some ⟨g, o, none⟩) dLen dCap, .string s]).run P w =
      .ok (goInt n) (w.setRow g (cur.toList.take o ++ Lib.byteCells (s.data.toList.take n) ++ cur.toList.drop (o + n)).toArray) := by
  have hns : n ≤ s.size := by rw [← hn]; exact Nat.min_le_left _ _
  have hlen : (Lib.byteCells (s.data.toList.take n)).length = n := by
    rw [Lib.byteCells_length, List.length_take, Dk.data_len]; omega
  have hst := run_storeCells_at P g o t (Lib.byteCells (s.data.toList.take n)) 0 cur w hg (by rw [hlen]; simpa using hfit) (Lib.byteCells_one _)
  have htk : List.take n (List.map (fun b : UInt8 => Value.int IntKind.u8 (b.toNat : Int)) s.data.toList) = Lib.byteCells (s.data.toList.take n) := by
    rw [← List.map_take]; rfl
  rw [hlen] at hst
  simp only [Nat.add_zero] at hst
  cases hq : P.info? elem with
  | none => simp [hq] at hs
  | some i =>
    simp [Builtin.copy_, run_underlying hu, Builtin.lenOf, Builtin.firstCells, sizeOf, typeInfo, hq, hn]
    rw [htk, hst]
    simp [Result.andThen]

theorem step_copy_min {P : Program} {ops : Array Oper} {o : Oper} {a : Act} {w : World} {K : Act → World → Prop} {Q : Exit → Act → World → Prop} {E : Prop} (hgd : o.guard = none) (d s : Operand) (dT sT : TypeId)
    (ho : o.op = .call { callee := .builtin .copy, args := #[d, s], argTypes := #[dT, sT] }) (elem : TypeId) (hu : P.underlying dT = some (.slice elem)) (hsz : (P.info? elem).map (·.size) = some 1)
    (g off dLen dCap : Nat) (str : ByteArray) (hd : a.eval d = .slice (some ⟨g, off, none⟩) dLen dCap) (hs : a.eval s = .string str) (n : Nat) (hn : Nat.min str.size dLen = n)
    (cur : List Value) (t : TypeId) (hg : w.heap[g]? = some (.cells cur.toArray t (0, 0))) (hfit : off + n ≤ cur.length)
    (h : ∀ w', Hid (w'.heap[g]? = some (.cells (cur.take off ++ Lib.byteCells (str.data.toList.take n) ++ cur.drop (off + n)).toArray t (0, 0))) → Touch (fun k => k = g) w w' → K (a.put o.dst (goInt n)) w') :
    if Region.wanted o (yielded ops a.tmps) = true then Oper.wp P o a w K Q else E := by
  have hw : Region.wanted o (yielded ops a.tmps) = true := by simp [Region.wanted, hgd]
  rw [if_pos hw]
  have hrun := run_copy_row_min (P := P) w dT sT o.type elem g off dLen dCap str cur.toArray t n hn hu hsz hg (by simpa using hfit)
  unfold Oper.wp
  simp [execOp, ho, resolve, invoke, builtin, hd, hs, hrun, Result.andThen]
  refine h _ (show _ = _ by simpa using setRow_heap w g _ _ t _ hg) ⟨rfl, rfl, rfl, by simp [World.setRow], fun k hk hn => setRow_other w g k _ hn⟩

/-- A block as the cells that 'take' takes. -/
theorem blk_eight (s : List UInt8) (k : Nat) : ∃ b0 b1 b2 b3 b4 b5 b6 b7, Hs.blk s k = [b0, b1, b2, b3, b4, b5, b6, b7] := by
  have h := Hs.blk_length s k
  match Hs.blk s k, h with
  | [b0, b1, b2, b3, b4, b5, b6, b7], _ => exact ⟨b0, b1, b2, b3, b4, b5, b6, b7, rfl⟩

def BlocksPost (w : World) (sb : Nat) (l : List UInt8) (k : Nat) (w' : World) : Prop :=
  Blk w' sb 116 #[.int .u64 (Hs.st l k : Int)] ∧ Touch (fun k => k = sb) w w'

set_option maxRecDepth 100000 in
set_option maxHeartbeats 400000 in
theorem blocks_any (w : World) (sb : Nat) (s : ByteArray) (hs : Blk w sb 116 #[.int .u64 (Hs.st s.data.toList 0 : Int)]) (hm : s.size ≤ 140737488351232) :
    Calls Tryd.prog 76 #[.string s, .func (.func 77) #[.pointer (some ⟨sb, 0, none⟩)] #[]] w fun e w' => e = .returned (.tuple #[]) ∧ Blk w' sb 116 #[.int .u64 (Hs.hash s.data.toList : Int)] ∧ Touch (fun k => k = sb) w w' := by
  have HS := Lib.hid hs
  clear hs
  go_enter Tryd.func76, Tryd.ntmps76
  go_wp2
  go_loopw [4] (fun i wr => ∃ k m : Nat, Hid (m = 8 * k) ∧ k ≤ s.size / 8 + 1 ∧ i = .int .i64 (m : Int) ∧ BlocksPost w sb s.data.toList k wr) (fun i _ => s.size + 8 - (intOf i).toNat)
  case atStart => exact ⟨0, 0, Lib.hid rfl, Nat.zero_le _, rfl, HS.out, Touch.refl _ _⟩
  case round =>
    obtain ⟨k, m, H8, hk, rfl, hrel⟩ := hrel
    have HR := Lib.hid hrel
    clear hrel
    have HK := Lib.hid hk
    have hs1 : s.size ≤ 140737488351232 := hm
    have hm1 : m ≤ s.size + 8 := by have := H8.out; omega
    clear hk
    by_cases hlt : m ≤ s.size
    · have hz := Blk.new wr 131 #[.int .u8 0, .int .u8 0, .int .u8 0, .int .u8 0, .int .u8 0, .int .u8 0, .int .u8 0, .int .u8 0]
      have HZ := Lib.hid hz
      have hzl := hz.lt
      have hk3 : (m : Int) ≤ (s.size : Int) := by omega
      have hk4 : (0 : Int) ≤ (m : Int) := by omega
      obtain ⟨n, hn⟩ : ∃ n, Nat.min (s.size - m) 8 = n := ⟨_, rfl⟩
      have hn8 : n ≤ 8 := by rw [← hn]; exact Nat.min_le_right _ _
      have HN := Lib.hid hn
      have HN8 := Lib.hid hn8
      obtain ⟨b0, b1, b2, b3, b4, b5, b6, b7, hblk⟩ := blk_eight s.data.toList k
      have hcells : (List.take 0 [Value.int .u8 0, .int .u8 0, .int .u8 0, .int .u8 0, .int .u8 0, .int .u8 0, .int .u8 0, .int .u8 0] ++ Lib.byteCells ((s.extract m s.size).data.toList.take n) ++ List.drop (0 + n) [Value.int .u8 0, .int .u8 0, .int .u8 0, .int .u8 0, .int .u8 0, .int .u8 0, .int .u8 0, .int .u8 0]).toArray
          = #[.int .u8 b0.toNat, .int .u8 b1.toNat, .int .u8 b2.toNat, .int .u8 b3.toNat, .int .u8 b4.toNat, .int .u8 b5.toNat, .int .u8 b6.toNat, .int .u8 b7.toNat] := by
        have e1 : [Value.int .u8 0, .int .u8 0, .int .u8 0, .int .u8 0, .int .u8 0, .int .u8 0, .int .u8 0, .int .u8 0] = Lib.byteCells (List.replicate 8 0) := rfl
        have e2 : (#[.int .u8 b0.toNat, .int .u8 b1.toNat, .int .u8 b2.toNat, .int .u8 b3.toNat, .int .u8 b4.toNat, .int .u8 b5.toNat, .int .u8 b6.toNat, .int .u8 b7.toNat] : Array Value) = (Lib.byteCells (Hs.blk s.data.toList k)).toArray := by rw [hblk]; rfl
        rw [e1, e2, List.take_zero, List.nil_append, Nat.zero_add]
        congr 1
        unfold Lib.byteCells
        rw [← List.map_drop, ← List.map_append]
        congr 1
        have e3 : (s.extract m s.size).data.toList.take n = (s.data.toList.drop (8 * k)).take 8 := by
          have hds := Dk.data_len s
          rw [ByteArray.data_extract, Array.toList_extract, ← H8.out]
          simp only [List.extract_eq_take_drop]
          have hn' : n = min (s.size - m) 8 := HN.out.symm
          rw [List.take_take, List.take_eq_take_iff, List.length_drop, hds]
          omega
        rw [e3]
        unfold Hs.blk
        congr 1
        rw [List.drop_replicate]
        congr 1
        have hn' : n = min (s.size - m) 8 := HN.out.symm
        rw [List.length_take, List.length_drop, Dk.data_len, ← H8.out]
        omega
      have HC := Lib.hid hcells
      have HBK := Lib.hid hblk
      clear hz hn hcells hblk
      go_wp2
      go_region_law (refine step_copy_min rfl (.tmp 12) (.tmp 15) _ _ rfl 5 Tryd.underlying51 size_u8 wr.heap.size 0 8 8 (s.extract m s.size) (by simp [Act.eval, Act.put]) (by simp [Act.eval, Act.put]) n (by rw [ByteArray.size_extract, Nat.min_self]; exact HN.out) _ 131 HZ.out (by simpa using HN8.out) ?_; intro w2 hg2 ht2)
      all_goals
        have hg3 : Blk w2 wr.heap.size 131 _ := hg2.out
        rw [HC.out] at hg3
        have d0 := hg3.cell 0
        have d1 := hg3.cell 1
        have d2 := hg3.cell 2
        have d3 := hg3.cell 3
        have d4 := hg3.cell 4
        have d5 := hg3.cell 5
        have d6 := hg3.cell 6
        have d7 := hg3.cell 7
        have df0 := hg3.frozen 0
        have df1 := hg3.frozen 1
        have df2 := hg3.frozen 2
        have df3 := hg3.frozen 3
        have df4 := hg3.frozen 4
        have df5 := hg3.frozen 5
        have df6 := hg3.frozen 6
        have df7 := hg3.frozen 7
        have dlt := hg3.lt
        have hzs : wr.heap.size ≤ w2.heap.size := by have := ht2.size; simp at this; omega
        have t0 : Touch (fun _ => False) wr w2 := ((Touch.refl _ _).alloc _).drew.trans ht2 fun j hj e => by omega
        have HT0 := Lib.hid t0
        have hsb := t0.blk HR.out.1 id
        have HSB := Lib.hid hsb
        clear ht2 hg2 hg3 t0 hsb
        go_wp2_with fail
        refine (take_any w2 sb _ b0 b1 b2 b3 b4 b5 b6 b7 HSB.out (Hs.st_lt (by rw [Dk.data_len]; unfold Hs.M; omega) _)).mono ?_
        rintro e w3 ⟨rfl, hb3, ht3⟩
        rw [← HBK.out] at hb3
        have HB3 := Lib.hid hb3
        have HT3 := Lib.hid ht3
        clear hb3 ht3
        go_wp2
        go_roundw
        case rel => exact ⟨k + 1, m + 8, Lib.hid (by have := H8.out; omega), by have := H8.out; omega, by go_num, HB3.out, (HR.out.2.trans HT0.out fun _ _ h => h.elim).trans HT3.out fun _ _ => id⟩
        case measure => simp [intOf]; omega
    · have hk2 : k = s.size / 8 + 1 := by have := H8.out; have := HK.out; omega
      have HK2 := Lib.hid hk2
      clear hk2
      go_wp2
      go_end0
      refine ⟨rfl, ?_, HR.out.2⟩
      have h := HR.out.1
      unfold Hs.hash
      rw [Dk.data_len, ← HK2.out]
      exact h
end Go.Proofs.YthhkadeiplbdkaaDoor
