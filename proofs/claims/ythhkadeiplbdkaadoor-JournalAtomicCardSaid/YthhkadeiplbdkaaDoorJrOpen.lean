/- Operations that come in: a slice of operations opened to cells. The law 'open_slice_fields' is copied from the guide's page for copying. -/
import Derived.Test.YthhkadeiplbdkaaDoorJrL2
import Derived.Test.YthhkadeiplbdkaaDoorJrLaid
import Derived.SizedLaws
import Derived.SliceStrings
import Derived.Deep.Slices
import Derived.Deep.Fields
import Derived.ChangeSame
import Derived.Lib.SmallJoins
set_option linter.unusedVariables false
set_option linter.unusedSimpArgs false
namespace Go.Proofs.YthhkadeiplbdkaaDoor
open Go.ChangeShapes Go.WideShapes Go.Deep Go.Joins Go.RowKit
section
variable {H : Type} {enc : TypeId × Value → H} {P : Program} {w : World} {base : Nat} {spare : Nat → Bool} {held : Bool}
theorem open_slice_fields {t e : TypeId} {fs : Array Field} {fuel : Nat} {cs : List Value} {x : DataW H × List MemPlace} (ht : P.underlying t = some (.slice e)) (he : P.underlying e = some (.struct fs))
    (hone : oneCellFields P fs = true) (hC : P.cellsOf e = fs.size) (h : DataW.trod enc P w base spare held fuel t cs = some x) :
    (cs = [.slice none 0 0] ∧ x = (.nil, [])) ∨
    ∃ (a : Addr) (len cap m : Nat) (D : Nat → DataW H) (Pl : Nat → List MemPlace), cs = [.slice (some a) len cap] ∧ base ≤ a.block ∧ len ≤ cap ∧ cap ≤ maxLen ∧ m = (if spare a.block then cap else len) ∧
      x = (.slice ((List.range len).map D) ((List.range (m - len)).map fun j => D (len + j)), MemPlace.row a (m * fs.size) ++ (List.range m).flatMap Pl) ∧
      ∀ i, i < m → ∃ (ys : List (DataW H × List MemPlace)) (n : Nat), D i = .agg (ys.map (·.1)) ∧ Pl i = ys.flatMap (·.2) ∧ ys.length = fs.size ∧
        ∀ (j : Nat) (f : Field), fs[j]? = some f → ∃ (v : Value) (y : DataW H × List MemPlace), w.cell? (a.add (i * fs.size + j)) = some v ∧ ys[j]? = some y ∧ DataW.trod enc P w base spare held n f.type [v] = some y := by
  rcases open_slice ht h with h0 | ⟨a, len, cap, m, n, D, Pl, hcs, hb, hl, hm, hmm, hx, hi⟩
  · exact .inl h0
  · refine .inr ⟨a, len, cap, m, D, Pl, hcs, hb, hl, hm, hmm, by rw [hC] at hx; exact hx, fun i him => ?_⟩
    obtain ⟨cs', hc, ht'⟩ := hi i him
    rw [hC] at hc
    obtain ⟨ys, n', hn', hy, hlen, hyl, hf⟩ := DataW.trod_struct he ht'
    obtain ⟨_, hcl, hat⟩ := World.cells?_some hc
    simp only [Prod.mk.injEq] at hy
    refine ⟨ys, n', hy.1, hy.2, hyl, fun j f hj => ?_⟩
    obtain ⟨ho, hk⟩ := hone_of hone j f hj
    have hjl : j < fs.size := (Array.getElem?_eq_some_iff.1 hj).1
    have hcell := hat j hjl
    have hv : cs'[j]? = some (cs'[j]'(by omega)) := List.getElem?_eq_getElem (by omega)
    have h1 := hf j f hj
    rw [ho, hk] at h1
    have hone' : (cs'.drop j).take 1 = [cs'[j]'(by omega)] := by
      rw [List.drop_eq_getElem_cons (by omega)]
      rfl
    rw [hone'] at h1
    have hys : ys[j]? = some (ys[j]'(by omega)) := List.getElem?_eq_getElem (by omega)
    refine ⟨_, _, ?_, hys, h1.trans hys⟩
    rw [← Go.Deep.add_add, hcell, hv]
end

theorem weights_mem_all {H : Type} {P : Program} {e : TypeId} : ∀ {l : List (DataW H)} {d : DataW H}, d ∈ l → ∀ n ∈ d.weights P e, n ∈ DataW.weightsAll P e l
  | x :: l, d, hd, n, hn => by
    simp only [DataW.weightsAll, List.mem_append]
    rcases List.mem_cons.1 hd with rfl | hd
    · exact .inl hn
    · exact .inr (weights_mem_all hd n hn)
theorem addr_plain {w : World} {a : Addr} {v : Value} (h : w.cell? a = some v) : a = ⟨a.block, a.off, none⟩ := by
  obtain ⟨b, o, s⟩ := a
  unfold World.cell? at h
  split at h
  · split at h
    · cases h
    · rename_i hs
      cases s with
      | none => rfl
      | some x => simp at hs
  · cases h
theorem add_plain' (b o n : Nat) : (⟨b, o, none⟩ : Addr).add n = ⟨b, o + n, none⟩ := by unfold Addr.add; split <;> simp_all
/-- A string in a list in a field of an element of a slice. -/
theorem sized_deep {H : Type} {P : Program} {ts : List TypeId} {ds : List (DataW H)} (h : (DataW.weightsEach P ts ds).all (· ≤ reachBytes) = true) {j : Nat} {t e : TypeId} {elems spare : List (DataW H)} (ht : ts[j]? = some t) (hd : ds[j]? = some (.slice elems spare)) (hu : P.underlying t = some (.slice e))
    {parts : List (DataW H)} (hp : .agg parts ∈ elems) {fs : Array Field} (he : P.underlying e = some (.struct fs)) {i : Nat} {f : Field} {el sp : List (DataW H)} {u : TypeId} (hf : fs[i]? = some f) (hi : parts[i]? = some (.slice el sp)) (hfu : P.underlying f.type = some (.slice u)) {bytes : List UInt8} (hb : .lit (.string bytes) ∈ el) : bytes.length ≤ reachBytes := by
  have h0 : bytes.length ∈ (DataW.slice el sp : DataW H).weights P f.type := by
    simp only [DataW.weights, hfu, List.mem_cons, List.mem_append]
    exact .inr (.inl (weights_mem_all hb _ (by simp [DataW.weights])))
  have h1 : bytes.length ∈ (DataW.agg parts).weights P e := by
    simp only [DataW.weights, he]
    exact DataW.weights_mem_each (j := i) (t := f.type) (by simp [hf]) hi _ h0
  have h2 := weights_mem_all hp _ h1
  have h3 : bytes.length ∈ (DataW.slice elems spare).weights P t := by
    simp only [DataW.weights, hu, List.mem_cons, List.mem_append]
    exact .inr (.inl h2)
  have := List.all_eq_true.1 h _ (DataW.weights_mem_each ht hd _ h3)
  simpa using this
instance : Inhabited Op := ⟨⟨0, none, 0, [], 0, 0, 0⟩⟩
theorem cells_string1 : Tryd.prog.cellsOf 9 = 1 := by kernel_rfl
theorem strs_at {ss : List ByteArray} {W : World} {a : Addr} {len cap : Nat} (hl : len ≤ ss.length) (hm : len ≤ maxLen) (hc : ∀ i, i < ss.length → W.cell? (a.add i) = some (.string (ss.getD i ByteArray.empty))) : Strs W (some a) ((ss.take len).map fun s => s.data.toList) := by
  have hlen : ((ss.take len).map fun s => s.data.toList).length = len := by rw [List.length_map, List.length_take]; omega
  refine ⟨by rw [hlen]; simp only [maxLen] at hm; omega, fun h0 => ?_⟩
  rw [hlen] at h0
  have c0 := hc 0 (by omega)
  have hp : a = ⟨a.block, a.off, none⟩ := addr_plain (w := W) (a := a) (v := .string (ss.getD 0 ByteArray.empty)) (by simpa [Addr.add] using c0)
  refine ⟨a.block, a.off, by rw [← hp], World.block_lt_of_cell? W a (u := .string (ss.getD 0 ByteArray.empty)) (by simpa [Addr.add] using c0), fun k hk => ?_⟩
  rw [hlen] at hk
  have ck := hc k (by omega)
  rw [hp, add_plain'] at ck
  rw [ck]
  have : ((ss.take len).map fun s => s.data.toList)[k]'(by rw [hlen]; exact hk) = (ss.getD k ByteArray.empty).data.toList := by
    rw [List.getElem_map, List.getElem_take, List.getD_eq_getElem?_getD, List.getElem?_eq_getElem (show k < ss.length by omega)]
    rfl
  rw [this, Dk.str_data]
theorem strs_none (W : World) : Strs W none [] := ⟨by simp, fun h => absurd h (by simp)⟩
theorem ops_open {H : Type} {enc : TypeId × Value → H} {W : World} {spare : Nat → Bool} {a : Option Addr} {len cap : Nat} {d : DataW H} {ps : List MemPlace} {ts : List TypeId} {ds : List (DataW H)} {j : Nat}
    (hsz : (DataW.weightsEach Tryd.prog ts ds).all (· ≤ reachBytes) = true) (ht : ts[j]? = some 22) (hd : ds[j]? = some d) (h : DataW.Trod enc Tryd.prog W 0 spare true 22 (.slice a len cap) d ps) : ∃ l, OpsAt W a len l := by
  obtain ⟨fuel, hf⟩ := h
  rcases open_slice_fields Tryd.underlying22 Tryd.underlying46 (by kernel_rfl) (by kernel_rfl) hf with ⟨hcs, hx⟩ | ⟨x, l, c, m, D, Pl, hcs, hb, hl, hm, hmm, hx, hi⟩
  · simp [Value.cells] at hcs
    obtain ⟨rfl, rfl, rfl⟩ := hcs
    exact ⟨[], rfl, by omega, by simp, fun h => absurd h (by omega), by simp, by simp⟩
  · simp [Value.cells] at hcs
    obtain ⟨rfl, rfl, rfl⟩ := hcs
    have hlm : len ≤ m := by rw [hmm]; split <;> omega
    obtain ⟨hxd, _⟩ := Prod.mk.inj hx
    have hex : ∀ i, i < len → ∃ q : Op, (Dk.i64 q.kind ∧ Dk.i64 q.at_ ∧ Dk.i64 q.writes ∧ Dk.i64 q.bytes) ∧ Strs W q.A q.list ∧ (∀ x ∈ q.list, x.length ≤ 140737488351232) ∧ ∀ j, j < 5 → W.cell? (x.add (i * 5 + j)) = q.cells[j]? := by
      intro i hil
      obtain ⟨ys, n, hD, _, hyl, hg⟩ := hi i (by omega)
      obtain ⟨v0, y0, c0, g0, t0⟩ := hg 0 _ rfl
      obtain ⟨v1, y1, c1, g1, t1⟩ := hg 1 _ rfl
      obtain ⟨v2, y2, c2, g2, t2⟩ := hg 2 _ rfl
      obtain ⟨v3, y3, c3, g3, t3⟩ := hg 3 _ rfl
      obtain ⟨v4, y4, c4, g4, t4⟩ := hg 4 _ rfl
      obtain ⟨a0, e0, _, w0⟩ := DataW.trod_int Tryd.underlying3 t0
      obtain ⟨a2, e2, _, w2⟩ := DataW.trod_int Tryd.underlying3 t2
      obtain ⟨a3, e3, _, w3⟩ := DataW.trod_int Tryd.underlying3 t3
      obtain ⟨a4, e4, _, w4⟩ := DataW.trod_int Tryd.underlying3 t4
      simp only [List.cons.injEq, and_true] at e0 e2 e3 e4
      subst e0; subst e2; subst e3; subst e4
      have hmem : DataW.agg (ys.map (·.1)) ∈ (List.range len).map D := by
        rw [← hD]; exact List.mem_map.2 ⟨i, by simpa using hil, rfl⟩
      have hlist : ∃ A cc xs, v1 = .slice A xs.length cc ∧ Strs W A xs ∧ ∀ x ∈ xs, x.length ≤ 140737488351232 := by
        rcases open_strings Tryd.underlying27 Tryd.underlying9 cells_string1 t1 with ⟨hcs, _⟩ | ⟨ad, len', cap', ss, hcs, _, hl', hm', hz', hx', hcell, hws⟩
        · simp only [List.cons.injEq, and_true] at hcs
          exact ⟨none, 0, [], hcs, strs_none W, by simp⟩
        · simp only [List.cons.injEq, and_true] at hcs
          have hls : len' ≤ ss.length := by rw [hz']; split <;> omega
          have hlen : ((ss.take len').map fun s => s.data.toList).length = len' := by rw [List.length_map, List.length_take]; omega
          refine ⟨some ad, cap', (ss.take len').map fun s => s.data.toList, by rw [hlen]; exact hcs, strs_at (cap := cap') hls (Nat.le_trans hl' hm') hcell, ?_⟩
          intro x hx
          obtain ⟨s, hs, rfl⟩ := List.mem_map.1 hx
          have := sized_deep hsz ht (by rw [hd, hxd]) Tryd.underlying22 hmem Tryd.underlying46 (i := 1) rfl (by rw [List.getElem?_map, g1, hx']; rfl) Tryd.underlying27 (bytes := s.data.toList) (by
            unfold strs
            exact List.mem_map.2 ⟨s, hs, rfl⟩)
          exact this
      obtain ⟨A, cc, xs, rfl, hst, hsm⟩ := hlist
      refine ⟨⟨a0, A, cc, xs, a2, a3, a4⟩, ⟨bounds_i64 w0, bounds_i64 w2, bounds_i64 w3, bounds_i64 w4⟩, hst, hsm, fun j hj => ?_⟩
      match j, hj with
      | 0, _ => exact c0
      | 1, _ => exact c1
      | 2, _ => exact c2
      | 3, _ => exact c3
      | 4, _ => exact c4
    obtain ⟨f, hf'⟩ := Go.Deep.choose_lt hex
    refine ⟨(List.range len).map f, by simp, by simp only [maxLen] at hm; omega, ?_, fun hlen => ?_, ?_, ?_⟩
    · intro q hq
      obtain ⟨i, hi', rfl⟩ := List.mem_map.1 hq
      exact (hf' i (by simpa using hi')).1
    · have hp0 := (hf' 0 hlen).2.2.2 0 (by omega)
      have hx0 : x = ⟨x.block, x.off, none⟩ := addr_plain (w := W) (a := x) (v := .int .i64 (f 0).kind) (by simpa [Addr.add, Op.cells] using hp0)
      refine ⟨x.block, x.off, by rw [← hx0], World.block_lt_of_cell? W x (u := .int .i64 (f 0).kind) (by simpa [Addr.add, Op.cells] using hp0), fun k hk j hj => ?_⟩
      have hk' : k < len := by simpa using hk
      have := (hf' k hk').2.2.2 j hj
      rw [hx0, add_plain'] at this
      simp only [List.getElem_map, List.getElem_range]
      rw [show x.off + k * 5 + j = x.off + (k * 5 + j) by omega]
      exact this
    · intro q hq
      obtain ⟨i, hi', rfl⟩ := List.mem_map.1 hq
      exact (hf' i (by simpa using hi')).2.1
    · intro q hq
      obtain ⟨i, hi', rfl⟩ := List.mem_map.1 hq
      exact (hf' i (by simpa using hi')).2.2.1
/-- A string in a slice of strings. -/
theorem sized_list {H : Type} {P : Program} {ts : List TypeId} {ds : List (DataW H)} (h : (DataW.weightsEach P ts ds).all (· ≤ reachBytes) = true) {j : Nat} {t e : TypeId} {elems spare : List (DataW H)} (ht : ts[j]? = some t) (hd : ds[j]? = some (.slice elems spare)) (hu : P.underlying t = some (.slice e))
    {bytes : List UInt8} (hb : .lit (.string bytes) ∈ elems) : bytes.length ≤ reachBytes := by
  have h3 : bytes.length ∈ (DataW.slice elems spare).weights P t := by
    simp only [DataW.weights, hu, List.mem_cons, List.mem_append]
    exact .inr (.inl (weights_mem_all hb _ (by simp [DataW.weights])))
  have := List.all_eq_true.1 h _ (DataW.weights_mem_each ht hd _ h3)
  simpa using this
theorem strs_open {H : Type} {enc : TypeId × Value → H} {W : World} {spare : Nat → Bool} {a : Option Addr} {len cap : Nat} {d : DataW H} {ps : List MemPlace} {ts : List TypeId} {ds : List (DataW H)} {j : Nat}
    (hsz : (DataW.weightsEach Tryd.prog ts ds).all (· ≤ reachBytes) = true) (ht : ts[j]? = some 27) (hd : ds[j]? = some d) (h : DataW.Trod enc Tryd.prog W 0 spare true 27 (.slice a len cap) d ps) : ∃ l : List (List UInt8), l.length = len ∧ Strs W a l ∧ ∀ x ∈ l, x.length ≤ 140737488351232 := by
  obtain ⟨fuel, hf⟩ := h
  rcases open_strings Tryd.underlying27 Tryd.underlying9 cells_string1 hf with ⟨hcs, hx⟩ | ⟨ad, len', cap', ss, hcs, _, hl', hm', hz', hx', hcell, hws⟩
  · simp [Value.cells] at hcs
    obtain ⟨rfl, rfl, rfl⟩ := hcs
    exact ⟨[], rfl, strs_none W, by simp⟩
  · simp [Value.cells] at hcs
    obtain ⟨rfl, rfl, rfl⟩ := hcs
    have hls : len ≤ ss.length := by rw [hz']; split <;> omega
    obtain ⟨hxd, _⟩ := Prod.mk.inj hx'
    refine ⟨(ss.take len).map fun s => s.data.toList, by rw [List.length_map, List.length_take]; omega, strs_at (cap := cap) hls (Nat.le_trans hl' hm') hcell, ?_⟩
    intro x hx
    obtain ⟨s, hs, rfl⟩ := List.mem_map.1 hx
    exact sized_list hsz ht (by rw [hd, hxd]) Tryd.underlying27 (bytes := s.data.toList) (by
      unfold strs
      exact List.mem_map.2 ⟨s, hs, rfl⟩)
end Go.Proofs.YthhkadeiplbdkaaDoor
