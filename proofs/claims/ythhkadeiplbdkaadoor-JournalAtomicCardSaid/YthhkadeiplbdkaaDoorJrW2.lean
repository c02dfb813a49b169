/- Walks of the journal's functions, part 2: seal, head, sector. -/
import Derived.Test.YthhkadeiplbdkaaDoorJrW1
set_option linter.unusedVariables false
set_option linter.unusedSimpArgs false
namespace Go.Proofs.YthhkadeiplbdkaaDoor
open Go.RowKit

theorem wpList_copy_min {P : Program} {ops : Array Oper} {rest : List Oper} {o : Oper} {a : Act} {w : World} {Q : Exit → Act → World → Prop} (hgd : o.guard = none) (d s : Operand) (dT sT : TypeId)
    (ho : o.op = .call { callee := .builtin .copy, args := #[d, s], argTypes := #[dT, sT] }) (elem : TypeId) (hu : P.underlying dT = some (.slice elem)) (hsz : (P.info? elem).map (·.size) = some 1)
    (g off dLen dCap : Nat) (str : ByteArray) (hd : a.eval d = .slice (some ⟨g, off, none⟩) dLen dCap) (hs : a.eval s = .string str) (n : Nat) (hn : Nat.min str.size dLen = n)
    (cur : List Value) (t : TypeId) (hg : w.heap[g]? = some (.cells cur.toArray t (0, 0))) (hfit : off + n ≤ cur.length)
    (h : ∀ w', Hid (w'.heap[g]? = some (.cells (cur.take off ++ Lib.byteCells (str.data.toList.take n) ++ cur.drop (off + n)).toArray t (0, 0))) → Touch (fun k => k = g) w w' → wpList P ops Q rest (a.put o.dst (goInt n)) w') :
    wpList P ops Q (o :: rest) a w := by
  refine wpList_plain hgd fun K hK => ?_
  have hrun := run_copy_row_min (P := P) w dT sT o.type elem g off dLen dCap str cur.toArray t n hn hu hsz hg (by simpa using hfit)
  unfold Oper.wp
  simp [execOp, ho, resolve, invoke, builtin, hd, hs, hrun, Result.andThen]
  exact hK _ _ (h _ (show _ = _ by simpa using setRow_heap w g _ _ t _ hg) ⟨rfl, rfl, rfl, by simp [World.setRow], fun k hk hn => setRow_other w g k _ hn⟩)

set_option maxRecDepth 100000 in
set_option maxHeartbeats 400000 in
theorem seal_any (w : World) (hE : Env w) (p : Nat) (hp : p < 10 ^ 8) (c : List UInt8) (hc : c.length ≤ 48) :
    Calls Tryd.prog 52 #[.int .i64 (p : Int), .string (Dk.str c)] w fun e w' => e = .returned (.string (Dk.str (Jr.seal_ p c))) ∧ Below w.heap.size w w' := by
  have HE := Lib.hid hE
  have hz : (#[.int .u8 0, .int .u8 0, .int .u8 0, .int .u8 0, .int .u8 0, .int .u8 0, .int .u8 0, .int .u8 0, .int .u8 0, .int .u8 0, .int .u8 0, .int .u8 0, .int .u8 0, .int .u8 0, .int .u8 0, .int .u8 0, .int .u8 0, .int .u8 0, .int .u8 0, .int .u8 0, .int .u8 0, .int .u8 0, .int .u8 0, .int .u8 0, .int .u8 0, .int .u8 0, .int .u8 0, .int .u8 0, .int .u8 0, .int .u8 0, .int .u8 0, .int .u8 0, .int .u8 0, .int .u8 0, .int .u8 0, .int .u8 0, .int .u8 0, .int .u8 0, .int .u8 0, .int .u8 0, .int .u8 0, .int .u8 0, .int .u8 0, .int .u8 0, .int .u8 0, .int .u8 0, .int .u8 0, .int .u8 0] : Array Value) = (List.replicate 48 (Value.int .u8 0)).toArray := rfl
  have hnb := Blk.new w 101 #[.int .u8 0, .int .u8 0, .int .u8 0, .int .u8 0, .int .u8 0, .int .u8 0, .int .u8 0, .int .u8 0, .int .u8 0, .int .u8 0, .int .u8 0, .int .u8 0, .int .u8 0, .int .u8 0, .int .u8 0, .int .u8 0, .int .u8 0, .int .u8 0, .int .u8 0, .int .u8 0, .int .u8 0, .int .u8 0, .int .u8 0, .int .u8 0, .int .u8 0, .int .u8 0, .int .u8 0, .int .u8 0, .int .u8 0, .int .u8 0, .int .u8 0, .int .u8 0, .int .u8 0, .int .u8 0, .int .u8 0, .int .u8 0, .int .u8 0, .int .u8 0, .int .u8 0, .int .u8 0, .int .u8 0, .int .u8 0, .int .u8 0, .int .u8 0, .int .u8 0, .int .u8 0, .int .u8 0, .int .u8 0]
  have HZ := Lib.hid (show Blk (w.alloc (.cells #[.int .u8 0, .int .u8 0, .int .u8 0, .int .u8 0, .int .u8 0, .int .u8 0, .int .u8 0, .int .u8 0, .int .u8 0, .int .u8 0, .int .u8 0, .int .u8 0, .int .u8 0, .int .u8 0, .int .u8 0, .int .u8 0, .int .u8 0, .int .u8 0, .int .u8 0, .int .u8 0, .int .u8 0, .int .u8 0, .int .u8 0, .int .u8 0, .int .u8 0, .int .u8 0, .int .u8 0, .int .u8 0, .int .u8 0, .int .u8 0, .int .u8 0, .int .u8 0, .int .u8 0, .int .u8 0, .int .u8 0, .int .u8 0, .int .u8 0, .int .u8 0, .int .u8 0, .int .u8 0, .int .u8 0, .int .u8 0, .int .u8 0, .int .u8 0, .int .u8 0, .int .u8 0, .int .u8 0, .int .u8 0] 101)) w.heap.size 101 (List.replicate 48 (Value.int .u8 0)).toArray from hnb)
  have hcs : (Dk.str c).size = c.length := Dk.str_size c
  have hn : Nat.min (Dk.str c).size 48 = c.length := by rw [hcs]; exact Nat.min_eq_left hc
  have HN := Lib.hid hn
  have hcells : (List.take 0 (List.replicate 48 (Value.int .u8 0)) ++ Lib.byteCells ((Dk.str c).data.toList.take c.length) ++ List.drop (0 + c.length) (List.replicate 48 (Value.int .u8 0))).toArray = (Lib.byteCells (Jr.pad c)).toArray := by
    rw [List.take_zero, List.nil_append, Nat.zero_add, List.drop_replicate]
    congr 1
    rw [show (Dk.str c).data.toList = c from rfl, List.take_of_length_le (Nat.le_refl _)]
    unfold Jr.pad Lib.byteCells
    rw [List.map_append, List.map_replicate]
    rfl
  have HC := Lib.hid hcells
  have hpl := Jr.pad_length hc
  have HPL := Lib.hid hpl
  have HP := Lib.hid hp
  obtain ⟨s, hs⟩ : ∃ s, Dk.str c = s := ⟨_, rfl⟩
  rw [hs] at HN HC ⊢
  have hcl : c.length ≤ 48 := hc
  obtain ⟨n, hn2⟩ : ∃ n, c.length = n := ⟨_, rfl⟩
  rw [hn2] at HN HC hcl
  have hb0 : Below w.heap.size w (w.alloc (.cells #[.int .u8 0, .int .u8 0, .int .u8 0, .int .u8 0, .int .u8 0, .int .u8 0, .int .u8 0, .int .u8 0, .int .u8 0, .int .u8 0, .int .u8 0, .int .u8 0, .int .u8 0, .int .u8 0, .int .u8 0, .int .u8 0, .int .u8 0, .int .u8 0, .int .u8 0, .int .u8 0, .int .u8 0, .int .u8 0, .int .u8 0, .int .u8 0, .int .u8 0, .int .u8 0, .int .u8 0, .int .u8 0, .int .u8 0, .int .u8 0, .int .u8 0, .int .u8 0, .int .u8 0, .int .u8 0, .int .u8 0, .int .u8 0, .int .u8 0, .int .u8 0, .int .u8 0, .int .u8 0, .int .u8 0, .int .u8 0, .int .u8 0, .int .u8 0, .int .u8 0, .int .u8 0, .int .u8 0, .int .u8 0] 101)) := (Below.refl _ _).alloc (Nat.le_refl _) _
  have HB0 := Lib.hid hb0
  have HSEAL := Lib.hid (show Jr.seal_ p c = Hs.sum (Jr.dig 8 p ++ Jr.pad c) ++ Jr.pad c from rfl)
  clear hE hz hnb hcs hn hcells hpl hp hs hn2 hc hb0
  generalize Jr.seal_ p c = res at HSEAL ⊢
  generalize Jr.pad c = l at HC HPL HSEAL
  have hgl : w.heap.size < (w.alloc (.cells #[.int .u8 0, .int .u8 0, .int .u8 0, .int .u8 0, .int .u8 0, .int .u8 0, .int .u8 0, .int .u8 0, .int .u8 0, .int .u8 0, .int .u8 0, .int .u8 0, .int .u8 0, .int .u8 0, .int .u8 0, .int .u8 0, .int .u8 0, .int .u8 0, .int .u8 0, .int .u8 0, .int .u8 0, .int .u8 0, .int .u8 0, .int .u8 0, .int .u8 0, .int .u8 0, .int .u8 0, .int .u8 0, .int .u8 0, .int .u8 0, .int .u8 0, .int .u8 0, .int .u8 0, .int .u8 0, .int .u8 0, .int .u8 0, .int .u8 0, .int .u8 0, .int .u8 0, .int .u8 0, .int .u8 0, .int .u8 0, .int .u8 0, .int .u8 0, .int .u8 0, .int .u8 0, .int .u8 0, .int .u8 0] 101)).heap.size := by simp
  go_enter Tryd.func52, Tryd.ntmps52
  go_wp2_with (refine wpList_copy_min rfl (.tmp 7) (.tmp 8) _ _ rfl 5 Tryd.underlying51 size_u8 w.heap.size 0 48 48 s rfl rfl n HN.out _ 101 HZ.out (by simpa using hcl) ?_; intro w2 hg2 ht2; have hk2 : Blk w2 w.heap.size 101 _ := hg2.out; rw [HC.out] at hk2; have hcv := convert_bytes (P := Tryd.prog) w2 51 9 5 Tryd.underlying51 Tryd.underlying5 Tryd.underlying9 w.heap.size 0 48 48 l HPL.out (fun i hi => by rw [Nat.zero_add, hk2.cell i, byteCells_at _ _ (by rw [HPL.out]; exact hi)]); have HB2 := Lib.hid (HB0.out.trans (ht2.below HB0.out.size fun k e => by rw [e]; exact Nat.le_refl _)); have hz2 := HB2.out.size; clear hg2 ht2 hk2)
  refine (digits_any w2 (HE.out.new HB2.out) p 7 HP.out (by omega)).mono ?_
  rintro e w3 ⟨rfl, hb⟩
  have HB3 := Lib.hid (bthen HB2.out hz2 hb)
  have hz3 := Nat.le_trans hz2 hb.size
  have hd8 : (Dk.str (Jr.dig 8 p)).size ≤ 8 := by rw [Dk.str_size, Jr.dig_length]; omega
  have hl48 : (Dk.str l).size ≤ 48 := by rw [Dk.str_size, HPL.out]; omega
  have HCAT := Lib.hid (str_append (Jr.dig 8 p) l)
  have hcs : (Dk.str (Jr.dig 8 p ++ l)).size ≤ 56 := by rw [Dk.str_size, List.length_append, Jr.dig_length, HPL.out]; omega
  have HRES := Lib.hid (show sumB (Dk.str (Jr.dig 8 p ++ l)) ++ Dk.str l = Dk.str res by
    rw [HSEAL.out, ← str_append]; rfl)
  generalize Dk.str (Jr.dig 8 p) = a at hd8 HCAT ⊢
  generalize Dk.str l = b at hl48 HCAT HRES hcv ⊢
  generalize Dk.str (Jr.dig 8 p ++ l) = ab at HCAT HRES hcs
  clear hb hcv
  go_wp2_with fail
  rw [HCAT.out]
  refine (sum_any w3 (HE.out.new HB3.out) ab (by omega)).mono ?_
  rintro e w4 ⟨rfl, hb⟩
  have HB4 := Lib.hid (bthen HB3.out hz3 hb)
  have hs16 : (sumB ab).size ≤ 16 := by rw [sumB_size]; omega
  generalize sumB ab = sm at hs16 HRES ⊢
  clear hb
  go_wp2
  go_ret
  rw [HRES.out]
  exact ⟨rfl, HB4.out⟩

set_option maxHeartbeats 400000 in
theorem head_any (w : World) (hE : Env w) (p c : Nat) (hp : p < 10 ^ 8) (hc : c < 10 ^ 8) :
    Calls Tryd.prog 34 #[.int .i64 (p : Int), .int .i64 (c : Int)] w fun e w' => e = .returned (.string (Dk.str (Jr.head p c))) ∧ Below w.heap.size w w' := by
  have HE := Lib.hid hE
  have HC := Lib.hid (digits_any w hE c 7 hc (by omega))
  have HP := Lib.hid hp
  clear hE hp hc
  go_enter Tryd.func34, Tryd.ntmps34
  go_wp2_with fail
  refine HC.out.mono ?_
  rintro e w1 ⟨rfl, hb⟩
  have HB1 := Lib.hid hb
  have hz1 := hb.size
  clear hb
  go_wp2_with fail
  refine (seal_any w1 (HE.out.new HB1.out) p HP.out _ (by rw [Jr.dig_length]; omega)).mono ?_
  rintro e w2 ⟨rfl, hb⟩
  have HB2 := Lib.hid (bthen HB1.out hz1 hb)
  clear hb
  go_wp2
  go_ret
  exact ⟨rfl, HB2.out⟩

set_option maxHeartbeats 400000 in
theorem sector_any (w : World) (hE : Env w) (p : Nat) (hp : p < 10 ^ 8) (c : List UInt8) (hc : c.length ≤ 46) :
    Calls Tryd.prog 30 #[.int .i64 (p : Int), .string (Dk.str c)] w fun e w' => e = .returned (.string (Dk.str (Jr.sect p c))) ∧ Below w.heap.size w w' := by
  have HE := Lib.hid hE
  have HC := Lib.hid (digits_any w hE c.length 1 (by omega) (by omega))
  rw [← Dk.str_size c] at HC
  have HP := Lib.hid hp
  have HSE := Lib.hid (fun W (h : Env W) => seal_any W h p hp (Jr.dig 2 c.length ++ c) (by rw [List.length_append, Jr.dig_length]; omega))
  rw [← str_append] at HSE
  have hd2 : (Dk.str (Jr.dig 2 c.length)).size ≤ 2 := by rw [Dk.str_size, Jr.dig_length]; omega
  have hc2 : (Dk.str c).size ≤ 46 := by rw [Dk.str_size]; exact hc
  have HRES := Lib.hid (show Jr.seal_ p (Jr.dig 2 c.length ++ c) = Jr.sect p c from rfl)
  rw [HRES.out] at HSE
  rw [Dk.str_size] at HC
  obtain ⟨n, hn⟩ : ∃ n, c.length = n := ⟨_, rfl⟩
  have hsz : (Dk.str c).size = n := by rw [Dk.str_size, hn]
  rw [hn] at HC HSE hd2
  generalize Dk.str c = s at hc2 HSE hsz ⊢
  generalize Dk.str (Jr.dig 2 n) = d at HC HSE hd2
  rw [← hsz] at HC
  clear hE hp hc hn HRES hsz
  go_enter Tryd.func30, Tryd.ntmps30
  go_wp2_with fail
  refine HC.out.mono ?_
  rintro e w1 ⟨rfl, hb⟩
  have HB1 := Lib.hid hb
  have hz1 := hb.size
  clear hb
  go_wp2_with fail
  refine (HSE.out w1 (HE.out.new HB1.out)).mono ?_
  rintro e w2 ⟨rfl, hb⟩
  have HB2 := Lib.hid (bthen HB1.out hz1 hb)
  clear hb
  go_wp2
  go_ret
  exact ⟨rfl, HB2.out⟩
end Go.Proofs.YthhkadeiplbdkaaDoor
