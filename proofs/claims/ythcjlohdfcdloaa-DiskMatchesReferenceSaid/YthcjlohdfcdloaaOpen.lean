/- Acts that come in: slices of acts and single acts opened to cells. The two laws 'open_slice_fields' and 'open_agg6' are copied from the guide's page for copying. -/
import Derived.Test.YthcjlohdfcdloaaLone
import Derived.ProofKit
import Derived.OpenShut
import Derived.SizedLaws
import Derived.Deep.Slices
import Derived.Deep.Fields
import Derived.ChangeSame
import Derived.Lib.SmallJoins
set_option linter.unusedVariables false
set_option linter.unusedSimpArgs false
namespace Go.Proofs.Ythcjlohdfcdloaa
open Go.ChangeShapes Go.WideShapes Go.Deep Go.Joins Go.RowKit
section
variable {H : Type} {enc : TypeId × Value → H} {P : Program} {w : World} {base : Nat} {spare : Nat → Bool} {held : Bool}
theorem open_slice_fields {t e : TypeId} {fs : Array Field} {fuel : Nat} {cs : List Value} {x : DataW H × List MemPlace} (ht : P.underlying t = some (.slice e)) (he : P.underlying e = some (.struct fs))
    (hone : oneCellFields P fs = true) (hC : P.cellsOf e = fs.size) (h : DataW.trod enc P w base spare held fuel t cs = some x) :
    (cs = [.slice none 0 0] ∧ x = (.nil, [])) ∨
    ∃ (a : Addr) (len cap m : Nat) (D : Nat → DataW H) (Pl : Nat → List MemPlace), cs = [.slice (some a) len cap] ∧ base ≤ a.block ∧ len ≤ cap ∧ cap ≤ maxLen ∧ m = (if spare a.block then cap else len) ∧
      x = (.slice ((List.range len).map D) ((List.range (m - len)).map fun j => D (len + j)), MemPlace.row a (m * fs.size) ++ (List.range m).flatMap Pl) ∧
      ∀ i, i < m → ∃ (ys : List (DataW H × List MemPlace)) (n : Nat), D i = .agg (ys.map (·.1)) ∧ Pl i = ys.flatMap (·.2) ∧ ys.length = fs.size ∧
        ∀ (j : Nat) (f : Field), fs[j]? = some f → ∃ (v : Value) (y : DataW H × List MemPlace), w.cell? (a.add (i * fs.size + j)) = some v ∧ ys[j]? = some y ∧ DataW.trod enc P w base spare held n f.type [v] = some y := by
  rcases open_slice ht h with h0 | ⟨a, len, cap, m, n, D, Pl, hcs, hb, hl, hm, hmm, hx, hi⟩
  · exact .inl h0
  · refine .inr ⟨a, len, cap, m, D, Pl, hcs, hb, hl, hm, hmm, by rw [hC] at hx; exact hx, fun i him => ?_⟩
    obtain ⟨cs', hc, ht'⟩ := hi i him
    rw [hC] at hc
    obtain ⟨ys, n', hn', hy, hlen, hyl, hf⟩ := DataW.trod_struct he ht'
    obtain ⟨_, hcl, hat⟩ := World.cells?_some hc
    simp only [Prod.mk.injEq] at hy
    refine ⟨ys, n', hy.1, hy.2, hyl, fun j f hj => ?_⟩
    obtain ⟨ho, hk⟩ := hone_of hone j f hj
    have hjl : j < fs.size := (Array.getElem?_eq_some_iff.1 hj).1
    have hcell := hat j hjl
    have hv : cs'[j]? = some (cs'[j]'(by omega)) := List.getElem?_eq_getElem (by omega)
    have h1 := hf j f hj
    rw [ho, hk] at h1
    have hone' : (cs'.drop j).take 1 = [cs'[j]'(by omega)] := by
      rw [List.drop_eq_getElem_cons (by omega)]
      rfl
    rw [hone'] at h1
    have hys : ys[j]? = some (ys[j]'(by omega)) := List.getElem?_eq_getElem (by omega)
    refine ⟨_, _, ?_, hys, h1.trans hys⟩
    rw [← Go.Deep.add_add, hcell, hv]
end

section
variable {H : Type} {enc : TypeId × Value → H} {P : Program} {w : World} {base : Nat} {spare : Nat → Bool} {held : Bool}
theorem open_agg6 {r : Reach} {b0 : Nat} {t : TypeId} {f0 f1 f2 f3 f4 f5 : Field} {v : Value} {d : DataW H} {p : List MemPlace} (hs : P.underlying t = some (.struct #[f0, f1, f2, f3, f4, f5])) (hone : oneCellFields P #[f0, f1, f2, f3, f4, f5] = true) (hC : P.cellsOf t = 6)
    (hv : Value.okWide P w r b0 t v) (h : DataW.Trod enc P w base spare held t v d p) :
    ∃ (v0 v1 v2 v3 v4 v5 : Value) (y0 y1 y2 y3 y4 y5 : DataW H × List MemPlace) (n : Nat), v = .agg #[v0, v1, v2, v3, v4, v5] ∧ d = .agg [y0.1, y1.1, y2.1, y3.1, y4.1, y5.1] ∧ p = y0.2 ++ (y1.2 ++ (y2.2 ++ (y3.2 ++ (y4.2 ++ y5.2)))) ∧
      DataW.trod enc P w base spare held n f0.type [v0] = some y0 ∧ DataW.trod enc P w base spare held n f1.type [v1] = some y1 ∧ DataW.trod enc P w base spare held n f2.type [v2] = some y2 ∧ DataW.trod enc P w base spare held n f3.type [v3] = some y3 ∧ DataW.trod enc P w base spare held n f4.type [v4] = some y4 ∧ DataW.trod enc P w base spare held n f5.type [v5] = some y5 := by
  obtain ⟨cs, rfl, hsz⟩ := okWide_struct hs hv
  obtain ⟨l⟩ := cs
  match l, hsz.trans hC with
  | [c0, c1, c2, c3, c4, c5], _ =>
    obtain ⟨fuel, hf⟩ := h
    obtain ⟨xs, n, _, hx, _, hlen, hg⟩ := DataW.trod_struct hs hf
    obtain ⟨o0, k0⟩ := hone_of hone 0 f0 rfl
    obtain ⟨o1, k1⟩ := hone_of hone 1 f1 rfl
    obtain ⟨o2, k2⟩ := hone_of hone 2 f2 rfl
    obtain ⟨o3, k3⟩ := hone_of hone 3 f3 rfl
    obtain ⟨o4, k4⟩ := hone_of hone 4 f4 rfl
    obtain ⟨o5, k5⟩ := hone_of hone 5 f5 rfl
    match xs, hlen with
    | [y0, y1, y2, y3, y4, y5], _ =>
      simp only [Prod.mk.injEq] at hx
      exact ⟨c0, c1, c2, c3, c4, c5, y0, y1, y2, y3, y4, y5, n, rfl, by simpa using hx.1, by simpa using hx.2, by simpa [Value.cells, o0, k0] using hg 0 f0 rfl, by simpa [Value.cells, o1, k1] using hg 1 f1 rfl, by simpa [Value.cells, o2, k2] using hg 2 f2 rfl, by simpa [Value.cells, o3, k3] using hg 3 f3 rfl, by simpa [Value.cells, o4, k4] using hg 4 f4 rfl, by simpa [Value.cells, o5, k5] using hg 5 f5 rfl⟩
end

theorem weights_mem_all {H : Type} {P : Program} {e : TypeId} : ∀ {l : List (DataW H)} {d : DataW H}, d ∈ l → ∀ n ∈ d.weights P e, n ∈ DataW.weightsAll P e l
  | x :: l, d, hd, n, hn => by
    simp only [DataW.weightsAll, List.mem_append]
    rcases List.mem_cons.1 hd with rfl | hd
    · exact .inl hn
    · exact .inr (weights_mem_all hd n hn)
/-- A string in a field of an element of a slice. -/
theorem sized_field {H : Type} {P : Program} {ts : List TypeId} {ds : List (DataW H)} (h : (DataW.weightsEach P ts ds).all (· ≤ reachBytes) = true) {j : Nat} {t e : TypeId} {elems spare : List (DataW H)} (ht : ts[j]? = some t) (hd : ds[j]? = some (.slice elems spare)) (hu : P.underlying t = some (.slice e))
    {parts : List (DataW H)} (hp : .agg parts ∈ elems) {fs : Array Field} (he : P.underlying e = some (.struct fs)) {i : Nat} {f : Field} {bytes : List UInt8} (hf : fs[i]? = some f) (hi : parts[i]? = some (.lit (.string bytes))) : bytes.length ≤ reachBytes := by
  have h1 : bytes.length ∈ (DataW.agg parts).weights P e := by
    simp only [DataW.weights, he]
    exact DataW.weights_mem_each (j := i) (t := f.type) (by simp [hf]) hi _ (by simp [DataW.weights])
  have h2 := weights_mem_all hp _ h1
  have h3 : bytes.length ∈ (DataW.slice elems spare).weights P t := by
    simp only [DataW.weights, hu, List.mem_cons, List.mem_append]
    exact .inr (.inl h2)
  have := List.all_eq_true.1 h _ (DataW.weights_mem_each ht hd _ h3)
  simpa using this
/-- A string in a field of a struct by value. -/
theorem sized_part {H : Type} {P : Program} {ts : List TypeId} {ds : List (DataW H)} (h : (DataW.weightsEach P ts ds).all (· ≤ reachBytes) = true) {j : Nat} {e : TypeId} {parts : List (DataW H)} (ht : ts[j]? = some e) (hd : ds[j]? = some (.agg parts))
    {fs : Array Field} (he : P.underlying e = some (.struct fs)) {i : Nat} {f : Field} {bytes : List UInt8} (hf : fs[i]? = some f) (hi : parts[i]? = some (.lit (.string bytes))) : bytes.length ≤ reachBytes := by
  have h1 : bytes.length ∈ (DataW.agg parts).weights P e := by
    simp only [DataW.weights, he]
    exact DataW.weights_mem_each (j := i) (t := f.type) (by simp [hf]) hi _ (by simp [DataW.weights])
  have := List.all_eq_true.1 h _ (DataW.weights_mem_each ht hd _ h1)
  simpa using this

theorem addr_plain {w : World} {a : Addr} {v : Value} (h : w.cell? a = some v) : a = ⟨a.block, a.off, none⟩ := by
  obtain ⟨b, o, s⟩ := a
  unfold World.cell? at h
  split at h
  · split at h
    · cases h
    · rename_i hs
      cases s with
      | none => rfl
      | some x => simp at hs
  · cases h
theorem add_plain' (b o n : Nat) : (⟨b, o, none⟩ : Addr).add n = ⟨b, o + n, none⟩ := by unfold Addr.add; split <;> simp_all
instance : Inhabited Ac := ⟨⟨0, 0, 0, ⟨#[]⟩, false, 0⟩⟩

theorem acts_open {H : Type} {enc : TypeId × Value → H} {W : World} {spare : Nat → Bool} {a : Option Addr} {len cap : Nat} {d : DataW H} {ps : List MemPlace} {ts : List TypeId} {ds : List (DataW H)} {j : Nat}
    (hsz : (DataW.weightsEach Try.prog ts ds).all (· ≤ reachBytes) = true) (ht : ts[j]? = some 22) (hd : ds[j]? = some d) (h : DataW.Trod enc Try.prog W 0 spare true 22 (.slice a len cap) d ps) : ∃ l, ActsAt W a len l := by
  obtain ⟨fuel, hf⟩ := h
  rcases open_slice_fields Try.underlying22 Try.underlying34 (by kernel_rfl) (by kernel_rfl) hf with ⟨hcs, hx⟩ | ⟨x, l, c, m, D, Pl, hcs, hb, hl, hm, hmm, hx, hi⟩
  · simp [Value.cells] at hcs
    obtain ⟨rfl, rfl, rfl⟩ := hcs
    exact ⟨[], rfl, by omega, by simp, fun h => absurd h (by omega)⟩
  · simp [Value.cells] at hcs
    obtain ⟨rfl, rfl, rfl⟩ := hcs
    have hlm : len ≤ m := by rw [hmm]; split <;> omega
    obtain ⟨hxd, _⟩ := Prod.mk.inj hx
    have hex : ∀ i, i < len → ∃ q : Ac, q.Wf ∧ ∀ j, j < 6 → W.cell? (x.add (i * 6 + j)) = q.cells[j]? := by
      intro i hil
      obtain ⟨ys, n, hD, _, hyl, hg⟩ := hi i (by omega)
      obtain ⟨v0, y0, c0, g0, t0⟩ := hg 0 _ rfl
      obtain ⟨v1, y1, c1, g1, t1⟩ := hg 1 _ rfl
      obtain ⟨v2, y2, c2, g2, t2⟩ := hg 2 _ rfl
      obtain ⟨v3, y3, c3, g3, t3⟩ := hg 3 _ rfl
      obtain ⟨v4, y4, c4, g4, t4⟩ := hg 4 _ rfl
      obtain ⟨v5, y5, c5, g5, t5⟩ := hg 5 _ rfl
      obtain ⟨a0, e0, _, w0⟩ := DataW.trod_int Try.underlying3 t0
      obtain ⟨a1, e1, _, w1⟩ := DataW.trod_int Try.underlying3 t1
      obtain ⟨a2, e2, _, w2⟩ := DataW.trod_int Try.underlying3 t2
      obtain ⟨a3, e3, x3, w3⟩ := DataW.trod_string Try.underlying9 t3
      obtain ⟨a4, e4, _⟩ := DataW.trod_bool Try.underlying4 t4
      obtain ⟨a5, e5, _, w5⟩ := DataW.trod_int Try.underlying3 t5
      simp only [List.cons.injEq, and_true] at e0 e1 e2 e3 e4 e5
      subst e0; subst e1; subst e2; subst e3; subst e4; subst e5
      have hs : a3.size ≤ 140737488351232 := by
        have hmem : DataW.agg (ys.map (·.1)) ∈ (List.range len).map D := by
          rw [← hD]; exact List.mem_map.2 ⟨i, by simpa using hil, rfl⟩
        have := sized_field hsz ht (by rw [hd, hxd]) Try.underlying22 hmem Try.underlying34 (i := 3) rfl (bytes := a3.data.toList) (by rw [List.getElem?_map, g3, x3]; rfl)
        rw [Array.length_toList] at this
        exact this
      refine ⟨⟨a0, a1, a2, a3, a4, a5⟩, ⟨bounds_i64 w0, bounds_i64 w1, bounds_i64 w2, hs, bounds_i64 w5⟩, fun j hj => ?_⟩
      match j, hj with
      | 0, _ => exact c0
      | 1, _ => exact c1
      | 2, _ => exact c2
      | 3, _ => exact c3
      | 4, _ => exact c4
      | 5, _ => exact c5
    obtain ⟨f, hf'⟩ := Go.Deep.choose_lt hex
    refine ⟨(List.range len).map f, by simp, by simp only [maxLen] at hm; omega, ?_, fun hlen => ?_⟩
    · intro q hq
      obtain ⟨i, hi', rfl⟩ := List.mem_map.1 hq
      exact (hf' i (by simpa using hi')).1
    · have hp0 := (hf' 0 hlen).2 0 (by omega)
      have hx0 : x = ⟨x.block, x.off, none⟩ := addr_plain (w := W) (a := x) (v := .int .i64 (f 0).kind) (by simpa [Addr.add, Ac.cells] using hp0)
      refine ⟨x.block, x.off, by rw [← hx0], World.block_lt_of_cell? W x (u := .int .i64 (f 0).kind) (by simpa [Addr.add, Ac.cells] using hp0), fun k hk j hj => ?_⟩
      have hk' : k < len := by simpa using hk
      have := (hf' k hk').2 j hj
      rw [hx0, add_plain'] at this
      simp only [List.getElem_map, List.getElem_range]
      rw [show x.off + k * 6 + j = x.off + (k * 6 + j) by omega]
      exact this

theorem act_open {H : Type} {enc : TypeId × Value → H} {W : World} {base : Nat} {spare : Nat → Bool} {v : Value} {d : DataW H} {ps : List MemPlace} {ts : List TypeId} {ds : List (DataW H)} {j : Nat}
    (hsz : (DataW.weightsEach Try.prog ts ds).all (· ≤ reachBytes) = true) (ht : ts[j]? = some 34) (hd : ds[j]? = some d) (hv : Value.okWide Try.prog W .any base 34 v) (h : DataW.Trod enc Try.prog W 0 spare true 34 v d ps) : ∃ q : Ac, q.Wf ∧ v = .agg q.cells := by
  obtain ⟨v0, v1, v2, v3, v4, v5, y0, y1, y2, y3, y4, y5, n, rfl, hdd, _, t0, t1, t2, t3, t4, t5⟩ := open_agg6 Try.underlying34 (by kernel_rfl) (by kernel_rfl) hv h
  obtain ⟨a0, e0, _, w0⟩ := DataW.trod_int Try.underlying3 t0
  obtain ⟨a1, e1, _, w1⟩ := DataW.trod_int Try.underlying3 t1
  obtain ⟨a2, e2, _, w2⟩ := DataW.trod_int Try.underlying3 t2
  obtain ⟨a3, e3, x3, w3⟩ := DataW.trod_string Try.underlying9 t3
  obtain ⟨a4, e4, _⟩ := DataW.trod_bool Try.underlying4 t4
  obtain ⟨a5, e5, _, w5⟩ := DataW.trod_int Try.underlying3 t5
  simp only [List.cons.injEq, and_true] at e0 e1 e2 e3 e4 e5
  subst e0; subst e1; subst e2; subst e3; subst e4; subst e5
  have hs : a3.size ≤ 140737488351232 := by
    have := sized_part hsz ht (by rw [hd, hdd]) Try.underlying34 (i := 3) rfl (bytes := a3.data.toList) (by simp [x3])
    rw [Array.length_toList] at this
    exact this
  exact ⟨⟨a0, a1, a2, a3, a4, a5⟩, ⟨bounds_i64 w0, bounds_i64 w1, bounds_i64 w2, hs, bounds_i64 w5⟩, rfl⟩

theorem own : ownKnob Try.prog.godebug = none := by kernel_rfl
theorem laidOut : laidOutB Try.prog = true := by kernel_rfl
end Go.Proofs.Ythcjlohdfcdloaa
