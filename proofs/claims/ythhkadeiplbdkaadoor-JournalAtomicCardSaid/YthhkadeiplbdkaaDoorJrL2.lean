/- The journal's laws: what comes in; text, Same, light. -/
import Derived.Test.YthhkadeiplbdkaaDoorJrL1
set_option linter.unusedVariables false
set_option linter.unusedSimpArgs false
namespace Go.Proofs.YthhkadeiplbdkaaDoor
open Go.RowKit

structure Op where
  kind : Int
  A : Option Addr
  c : Nat
  list : List (List UInt8)
  at_ : Int
  writes : Int
  bytes : Int
def Op.cells (o : Op) : Array Value := #[.int .i64 o.kind, .slice o.A o.list.length o.c, .int .i64 o.at_, .int .i64 o.writes, .int .i64 o.bytes]
structure OpsAt (w : World) (A : Option Addr) (n : Nat) (l : List Op) : Prop where
  len : l.length = n
  max : n ≤ 9223372036854775807
  wf : ∀ o ∈ l, Dk.i64 o.kind ∧ Dk.i64 o.at_ ∧ Dk.i64 o.writes ∧ Dk.i64 o.bytes
  at_ : 0 < n → ∃ b o, A = some ⟨b, o, none⟩ ∧ b < w.heap.size ∧ ∀ k (h : k < l.length) j, j < 5 → w.cell? ⟨b, o + k * 5 + j, none⟩ = l[k].cells[j]?
  lists : ∀ o ∈ l, Strs w o.A o.list
  small : ∀ o ∈ l, ∀ x ∈ o.list, x.length ≤ 140737488351232
theorem OpsAt.below {w w' : World} {A : Option Addr} {n : Nat} {l : List Op} (h : OpsAt w A n l) (hb : Below w.heap.size w w') : OpsAt w' A n l :=
  ⟨h.len, h.max, h.wf, fun hn => by
    obtain ⟨b, o, e, hlt, hc⟩ := h.at_ hn
    exact ⟨b, o, e, Nat.lt_of_lt_of_le hlt hb.size, fun k hk j hj => by rw [hb.cell (p := ⟨b, _, none⟩) hlt]; exact hc k hk j hj⟩, fun o ho => (h.lists o ho).new hb, h.small⟩
theorem OpsAt.get {w w' : World} {A : Option Addr} {n : Nat} {l : List Op} (h : OpsAt w A n l) (hb : Below w.heap.size w w') {k : Nat} (hk : k < n) : ∃ b o x, A = some ⟨b, o, none⟩ ∧ b < w'.heap.size ∧ l[k]? = some x ∧ x ∈ l ∧
    w'.cell? ⟨b, o + k * 5 + 0, none⟩ = some (.int .i64 x.kind) ∧ w'.cell? ⟨b, o + k * 5 + 1, none⟩ = some (.slice x.A x.list.length x.c) ∧ w'.cell? ⟨b, o + k * 5 + 2, none⟩ = some (.int .i64 x.at_) ∧ w'.cell? ⟨b, o + k * 5 + 3, none⟩ = some (.int .i64 x.writes) ∧ w'.cell? ⟨b, o + k * 5 + 4, none⟩ = some (.int .i64 x.bytes) ∧
    Strs w' x.A x.list ∧ (0 < x.list.length → ∀ b o, x.A = some ⟨b, o, none⟩ → b < w.heap.size) ∧ Dk.i64 x.kind ∧ Dk.i64 x.at_ ∧ Dk.i64 x.writes ∧ Dk.i64 x.bytes := by
  have h' := h.below hb
  obtain ⟨b, o, e, hlt, hc⟩ := h'.at_ (by omega)
  have hkl : k < l.length := by rw [h.len]; exact hk
  refine ⟨b, o, l[k], e, hlt, List.getElem?_eq_getElem hkl, List.getElem_mem hkl, hc k hkl 0 (by omega), hc k hkl 1 (by omega), hc k hkl 2 (by omega), hc k hkl 3 (by omega), hc k hkl 4 (by omega), h'.lists _ (List.getElem_mem hkl), ?_, h.wf _ (List.getElem_mem hkl)⟩
  intro h0 b o e2
  obtain ⟨b2, o2, e3, hlt2, _⟩ := (h.lists _ (List.getElem_mem hkl)).at_ h0
  rw [e2] at e3
  injection e3 with e3
  injection e3 with e3
  rw [e3]; exact hlt2

/-! Sizes. -/
def sz (rs : List (List UInt8)) : Nat := (rs.map List.length).sum
theorem sz_append (a b : List (List UInt8)) : sz (a ++ b) = sz a + sz b := by simp [sz]
theorem sz_cons (x : List UInt8) (b : List (List UInt8)) : sz (x :: b) = x.length + sz b := by simp [sz]
def recsOf (l : List Op) : List (List UInt8) := l.flatMap (·.list)
theorem recsOf_snoc (l : List Op) (x : Op) : recsOf (l ++ [x]) = recsOf l ++ x.list := by simp [recsOf]
theorem take_snoc {l : List Op} {k : Nat} {x : Op} (h : l[k]? = some x) : l.take (k + 1) = l.take k ++ [x] := by rw [List.take_add_one, h]; rfl
theorem strs_snoc {l : List (List UInt8)} {k : Nat} {x : List UInt8} (h : l[k]? = some x) : l.take (k + 1) = l.take k ++ [x] := by rw [List.take_add_one, h]; rfl
structure Light (n : Int) (l : List Op) : Prop where
  n : n ≤ 40
  len : l.length ≤ 16
  lists : ∀ o ∈ l, o.list.length ≤ 20
  size : sz (recsOf l) ≤ 6000
theorem decs_short {n : Nat} (h : n < 10 ^ 17) : (Jr.decs n).length ≤ 18 := by
  obtain ⟨w, h1, _, h3⟩ := Jr.decs_dig n h
  rw [h3, Jr.dig_length]; omega
theorem text_size (rs : List (List UInt8)) (h : sz rs ≤ 6000) : (Jr.text rs).length ≤ sz rs + 19 * rs.length := by
  induction rs with
  | nil => simp [sz, Jr.text]
  | cons r rs ih =>
    rw [sz_cons] at h ⊢
    rw [Jr.text_cons]
    have := decs_short (n := r.length) (by omega)
    have := ih (by omega)
    simp only [List.length_append, List.length_cons]
    omega
theorem Light.one {n : Int} {l : List Op} (h : Light n l) {x : Op} (hx : x ∈ l) : (Jr.text x.list).length ≤ 10000 ∧ x.list.length ≤ 20 ∧ sz x.list ≤ 6000 := by
  have h1 := h.lists x hx
  have h2 : sz x.list ≤ sz (recsOf l) := by
    obtain ⟨a, b, e⟩ := List.append_of_mem hx
    have : recsOf l = recsOf a ++ (x.list ++ recsOf b) := by rw [e]; simp [recsOf]
    rw [this, sz_append, sz_append]; omega
  have h3 := h.size
  have h4 := text_size x.list (by omega)
  exact ⟨by omega, h1, by omega⟩

set_option maxHeartbeats 400000 in
theorem ltext_any (w : World) (n : Nat) (hn : n ≤ 100000) : Calls Tryd.prog 23 #[.int .i64 (n : Int)] w fun e w' => e = .returned (.string (Dk.str (List.replicate n 0))) ∧ Below w.heap.size w w' := by
  have hmk := fun W => new_run n (by omega) W
  have hcv : ∀ W : World, (convert 51 9 (.slice (some ⟨W.heap.size, 0, none⟩) n n)).run Tryd.prog (W.alloc (.cells (madeCells #[.int .u8 0] n) 5)) = .ok (.string (Dk.str (List.replicate n 0))) (W.alloc (.cells (madeCells #[.int .u8 0] n) 5)) := by
    intro W
    refine convert_bytes _ _ _ 5 Tryd.underlying51 Tryd.underlying5 Tryd.underlying9 W.heap.size 0 n n (List.replicate n 0) (by simp) fun i hi => ?_
    have h1 := toList_madeCells_one (.int .u8 0) n
    have h2 := (Blk.new W 5 (madeCells #[.int .u8 0] n)).cell i
    rw [Nat.zero_add, h2, ← Array.getElem?_toList, h1]
    simp [hi, List.getD_eq_getElem?_getD]
  go_enter Tryd.func23, Tryd.ntmps23
  go_wp2
  go_ret
  exact ⟨rfl, (Below.refl _ _).alloc (Nat.le_refl _) _⟩

def LightPost (w : World) (n : Int) (l : List Op) (e : Ending) (w' : World) : Prop := (∃ b, e = .returned (.bool b) ∧ (b = true → Light n l)) ∧ w = w'
set_option maxHeartbeats 800000 in
theorem light_any (w : World) (n : Int) (A : Option Addr) (N c : Nat) (l : List Op) (hl : OpsAt w A N l) :
    Calls Tryd.prog 9 #[.int .i64 n, .slice A N c] w (LightPost w n l) := by
  have HL := Lib.hid hl
  have hm := hl.max
  clear hl
  by_cases h1 : 40 < n
  · go_enter Tryd.func9, Tryd.ntmps9
    go_wp2
    go_ret
    exact ⟨⟨false, rfl, fun h => by cases h⟩, rfl⟩
  · by_cases h2 : 16 < N
    · have hd1 : decide (40 < n) = false := decide_eq_false h1
      go_enter Tryd.func9, Tryd.ntmps9
      go_wp2
      go_ret
      exact ⟨⟨false, rfl, fun h => by cases h⟩, rfl⟩
    · have H1 := Lib.hid h1
      have H2 := Lib.hid h2
      go_enter Tryd.func9, Tryd.ntmps9
      go_wp2
      go_loop [5, 6] (fun t i => ∃ k : Nat, k ≤ N ∧ i = .int .i64 (k : Int) ∧ t = .int .i64 (sz (recsOf (l.take k)) : Int) ∧ sz (recsOf (l.take k)) ≤ 6000 ∧ ∀ o ∈ l.take k, o.list.length ≤ 20) (fun _ i => N - (intOf i).toNat)
      case atStart => exact ⟨0, Nat.zero_le _, rfl, rfl, Nat.zero_le _, fun o ho => by simp at ho⟩
      case round =>
        obtain ⟨k, hk, rfl, rfl, hs, hlo⟩ := hrel
        have HS := Lib.hid hs
        have HLO := Lib.hid hlo
        clear hs hlo
        by_cases hlt : k < N
        · obtain ⟨b, o, x, rfl, hbl, hget, hmem, _, c1, _, _, _, hst, _⟩ := HL.out.get (Below.refl _ _) hlt
          have HG := Lib.hid hget
          have HST := Lib.hid hst
          have hxl := hst.len
          clear hget hmem hst
          have k0 : (0 : Int) ≤ (k : Int) := by omega
          have k1 : (k : Int) < (N : Int) := by omega
          by_cases h20 : 20 < x.list.length
          · go_wp2
            go_ret
            exact ⟨⟨false, rfl, fun h => by cases h⟩, rfl⟩
          · have HX := Lib.hid h20
            have hd20 : decide ((20 : Int) < (x.list.length : Int)) = false := decide_eq_false (by omega)
            obtain ⟨M, hM⟩ : ∃ M, x.list.length = M := ⟨_, rfl⟩
            have HM := Lib.hid hM
            rw [hM] at c1 hxl hd20 h20
            clear hM
            go_wp2
            go_loop [5, 7] (fun t i => ∃ m : Nat, m ≤ M ∧ i = .int .i64 (m : Int) ∧ t = .int .i64 ((sz (recsOf (l.take k)) + sz (x.list.take m) : Nat) : Int) ∧ sz (recsOf (l.take k)) + sz (x.list.take m) ≤ 6000) (fun _ i => M - (intOf i).toNat)
            case atStart => exact ⟨0, Nat.zero_le _, rfl, by simp [sz], by have := HS.out; simpa [sz] using this⟩
            case round =>
              obtain ⟨m, hm2, rfl, rfl, hs2⟩ := hrel
              have HS2 := Lib.hid hs2
              have HLT := Lib.hid hlt
              by_cases hlt2 : m < M
              · obtain ⟨b2, o2, e2, hb2, hc2⟩ := HST.out.at_ (by rw [HM.out]; omega)
                have hmx : m < x.list.length := by rw [HM.out]; exact hlt2
                have c2 := hc2 m hmx
                have HG2 := Lib.hid (List.getElem?_eq_getElem hmx)
                obtain ⟨y, hy⟩ : ∃ y, x.list[m] = y := ⟨_, rfl⟩
                rw [hy] at c2 HG2
                have hyl : (Dk.str y).size = y.length := Dk.str_size y
                obtain ⟨sy, hsy⟩ : ∃ sy, Dk.str y = sy := ⟨_, rfl⟩
                rw [hsy] at c2 hyl
                rw [e2] at c1
                have HYL := Lib.hid hyl
                clear hc2 hmx hy hyl hsy e2 hs2
                have hsm : sy.size ≤ 140737488351232 := by
                  rw [HYL.out]
                  exact HL.out.small x (List.mem_of_getElem? HG.out) y (List.mem_of_getElem? HG2.out)
                have hnx : sz (recsOf (l.take k)) + sz (x.list.take (m + 1)) = sz (recsOf (l.take k)) + sz (x.list.take m) + sy.size := by
                  rw [strs_snoc HG2.out, sz_append, HYL.out]
                  simp [sz]
                  omega
                have HNX := Lib.hid hnx
                obtain ⟨T, hT⟩ : ∃ T, sz (recsOf (l.take k)) + sz (x.list.take m) = T := ⟨_, rfl⟩
                have hT6 := HS2.out
                rw [hT] at hT6 HNX ⊢
                clear hnx hT
                have e1 : IntKind.i64.wrap ((T : Int) + (sy.size : Int)) = ((T + sy.size : Nat) : Int) := by rw [IntKind.wrap_i64]; omega
                have m0 : (0 : Int) ≤ (m : Int) := by omega
                have m1 : (m : Int) < (M : Int) := by omega
                by_cases h6 : 6000 < T + sy.size
                · go_wp2
                  go_ret
                  exact ⟨⟨false, rfl, fun h => by cases h⟩, rfl⟩
                · go_wp2
                  go_round
                  case rel => exact ⟨m + 1, by omega, by go_num, by rw [HNX.out, Int.natCast_add], by rw [HNX.out]; omega⟩
                  case measure => simp [intOf]; omega
              · obtain rfl : m = M := by omega
                have e1 : x.list.take m = x.list := List.take_of_length_le (by rw [HM.out]; omega)
                have e2 : recsOf (l.take (k + 1)) = recsOf (l.take k) ++ x.list := by rw [take_snoc HG.out, recsOf_snoc]
                have HN : Hid (sz (recsOf (l.take (k + 1))) = sz (recsOf (l.take k)) + sz (x.list.take m)) := Lib.hid (by rw [e2, sz_append, e1])
                have HLN : Hid (∀ o ∈ l.take (k + 1), o.list.length ≤ 20) := Lib.hid (by
                  intro o ho
                  rw [take_snoc HG.out] at ho
                  rcases List.mem_append.1 ho with ho | ho
                  · exact HLO.out o ho
                  · rw [List.mem_singleton.1 ho]; have := HX.out; omega)
                clear e1 e2 hlt2 hm2 hs2
                go_wp2
                go_round
                case rel => exact ⟨k + 1, by omega, by go_num, by rw [HN.out], by rw [HN.out]; exact HS2.out, HLN.out⟩
                case measure => simp [intOf]; omega
        · obtain rfl : k = N := by omega
          have hF : Hid (Light n l) := Lib.hid (by
            have e : l.take k = l := List.take_of_length_le (Nat.le_of_eq HL.out.len)
            have hs := HS.out
            have ho := HLO.out
            rw [e] at hs ho
            exact ⟨by have := H1.out; omega, by have := H2.out; have := HL.out.len; omega, ho, hs⟩)
          clear hlt hk
          go_wp2
          go_ret
          exact ⟨⟨true, rfl, fun _ => hF.out⟩, rfl⟩

/-- Same: are two lists of texts one? -/
def SamePost (w : World) (xs ys : List (List UInt8)) (e : Ending) (w' : World) : Prop := e = .returned (.bool (decide (xs = ys))) ∧ Below w.heap.size w w'
set_option maxHeartbeats 800000 in
theorem same_any (w : World) (A1 A2 : Option Addr) (c1 c2 : Nat) (xs ys : List (List UInt8)) (ha : Strs w A1 xs) (hb : Strs w A2 ys) :
    Calls Tryd.prog 11 #[.slice A1 xs.length c1, .slice A2 ys.length c2] w (SamePost w xs ys) := by
  have HA := Lib.hid ha
  have HB := Lib.hid hb
  have hm1 := ha.len
  have hm2 := hb.len
  obtain ⟨r, hr⟩ : ∃ r, decide (xs = ys) = r := ⟨_, rfl⟩
  have HR := Lib.hid hr
  obtain ⟨n, hn⟩ : ∃ n, xs.length = n := ⟨_, rfl⟩
  obtain ⟨m, hm⟩ : ∃ m, ys.length = m := ⟨_, rfl⟩
  rw [hn] at hm1 ⊢
  rw [hm] at hm2 ⊢
  unfold SamePost
  rw [hr]
  have HN := Lib.hid hn
  have HM := Lib.hid hm
  clear ha hb hr hn hm
  by_cases hnm : n = m
  · subst hnm
    have b1 : ((n : Int) != (n : Int)) = false := by simp
    go_enter Tryd.func11, Tryd.ntmps11
    go_wp2
    go_loopw [5] (fun i wr => ∃ k : Nat, k ≤ n ∧ i = .int .i64 (k : Int) ∧ Below w.heap.size w wr ∧ xs.take k = ys.take k) (fun i _ => n - (intOf i).toNat)
    case atStart => exact ⟨0, Nat.zero_le _, rfl, Below.refl _ _, rfl⟩
    case round =>
      obtain ⟨k, hk, rfl, hb, hx⟩ := hrel
      have HBE := Lib.hid hb
      have HX := Lib.hid hx
      clear hb hx
      by_cases hlt : k < n
      · obtain ⟨b, o, e1, hbl, hc⟩ := HA.out.at_ (by rw [HN.out]; omega)
        obtain ⟨b', o', e2, hbl', hc'⟩ := HB.out.at_ (by rw [HM.out]; omega)
        have hkx : k < xs.length := by rw [HN.out]; exact hlt
        have hky : k < ys.length := by rw [HM.out]; exact hlt
        have q1 := (HBE.out.cell (p := ⟨b, o + k, none⟩) hbl).trans (hc k hkx)
        have q2 := (HBE.out.cell (p := ⟨b', o' + k, none⟩) hbl').trans (hc' k hky)
        have GX := Lib.hid (List.getElem?_eq_getElem hkx)
        have GY := Lib.hid (List.getElem?_eq_getElem hky)
        subst e1
        subst e2
        obtain ⟨x, hx⟩ : ∃ x, xs[k] = x := ⟨_, rfl⟩
        obtain ⟨y, hy⟩ : ∃ y, ys[k] = y := ⟨_, rfl⟩
        rw [hx] at q1 GX
        rw [hy] at q2 GY
        have k0 : (0 : Int) ≤ (k : Int) := by omega
        have k1 : (k : Int) < (n : Int) := by omega
        clear hc hc' hkx hky hx hy
        by_cases hst : x = y
        · have hbe := str_eq_beq hst
          have HT : Hid (xs.take (k + 1) = ys.take (k + 1)) := Lib.hid (by rw [strs_snoc GX.out, strs_snoc GY.out, HX.out, hst])
          clear hst
          obtain ⟨s, hs⟩ : ∃ s, Dk.str x = s := ⟨_, rfl⟩
          obtain ⟨t, ht⟩ : ∃ t, Dk.str y = t := ⟨_, rfl⟩
          rw [hs] at q1 hbe
          rw [ht] at q2 hbe
          clear hs ht
          go_wp2_with fail
          go_quiet (fail)
          go_wp2
          go_roundw
          case rel => exact ⟨k + 1, by omega, by go_num, below_drewN HBE.out _, HT.out⟩
          case measure => simp [intOf]; omega
        · have hbe := str_ne_beq hst
          have HF : Hid (r = false) := Lib.hid (by
            rw [← HR.out]
            refine decide_eq_false fun e => hst ?_
            have h1 := GX.out
            rw [e, GY.out] at h1
            exact (Option.some.inj h1).symm)
          clear hst
          obtain ⟨s, hs⟩ : ∃ s, Dk.str x = s := ⟨_, rfl⟩
          obtain ⟨t, ht⟩ : ∃ t, Dk.str y = t := ⟨_, rfl⟩
          rw [hs] at q1 hbe
          rw [ht] at q2 hbe
          clear hs ht
          go_wp2_with fail
          go_quiet (fail)
          go_wp2
          go_ret
          rw [HF.out]
          exact ⟨rfl, below_drewN HBE.out _⟩
      · obtain rfl : n = k := by omega
        have HF : Hid (r = true) := Lib.hid (by
          rw [← HR.out]
          refine decide_eq_true ?_
          have h1 := HX.out
          rwa [List.take_of_length_le (Nat.le_of_eq HN.out), List.take_of_length_le (Nat.le_of_eq HM.out)] at h1)
        clear hlt hk
        go_wp2
        go_ret
        rw [HF.out]
        exact ⟨rfl, HBE.out⟩
  · have HF : Hid (r = false) := Lib.hid (by
      rw [← HR.out]
      refine decide_eq_false fun e => hnm ?_
      rw [← HN.out, ← HM.out, e])
    have b1 : ((n : Int) != (m : Int)) = true := by simp; omega
    clear hnm
    go_enter Tryd.func11, Tryd.ntmps11
    go_wp2
    go_ret
    rw [HF.out]
    exact ⟨rfl, Below.refl _ _⟩
end Go.Proofs.YthhkadeiplbdkaaDoor
