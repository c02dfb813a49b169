/- The journal as plain data: what its steps do to a disk that is on and not armed. -/
import Derived.Test.YthhkadeiplbdkaaDoorJrQ
import Derived.Test.YthhkadeiplbdkaaDoorDkN
set_option linter.unusedVariables false
set_option linter.unusedSimpArgs false
namespace Go.Proofs.YthhkadeiplbdkaaDoor
namespace Jr

/-- The sectors as they are read. -/
def view (D : Dk) : List (List UInt8) := Dk.settle D.st D.q
def Ready (D : Dk) : Prop := D.off = false ∧ D.al = none
def pend : Nat → List (List UInt8) → List (Nat × ByteArray)
  | _, [] => []
  | p, x :: r => (p, Dk.str x) :: pend (p + 1) r
def lay : List (List UInt8) → Nat → List (List UInt8) → List (List UInt8)
  | V, _, [] => V
  | V, p, x :: r => lay (V.set p x) (p + 1) r
def Sec (V : List (List UInt8)) : Prop := ∀ s ∈ V, s.length = 64
theorem view_length (D : Dk) : (view D).length = D.st.length := Dk.settle_length _ _
theorem view_sec {D : Dk} (h : D.Inv) : Sec (view D) := Dk.settle_sec _ _ h.sec h.pend
theorem put_full {V : List (List UInt8)} (h : Sec V) {i : Nat} {x : List UInt8} (hx : x.length = 64) : Dk.put V i x = V.set i x := by
  unfold Dk.put Dk.over
  by_cases hi : i < V.length
  · rw [List.drop_of_length_le (by rw [Dk.getD_len h hi]; omega), List.append_nil]
  · rw [List.set_eq_of_length_le (by omega), List.set_eq_of_length_le (by omega)]
theorem set_sec {V : List (List UInt8)} (h : Sec V) {i : Nat} {x : List UInt8} (hx : x.length = 64) : Sec (V.set i x) := by
  intro s hs
  rcases List.mem_or_eq_of_mem_set hs with hs | rfl
  · exact h s hs
  · exact hx
theorem lay_length (xs : List (List UInt8)) : ∀ V p, (lay V p xs).length = V.length := by
  induction xs with
  | nil => intro V p; rfl
  | cons x xs ih => intro V p; simp only [lay]; rw [ih, List.length_set]
theorem lay_sec (xs : List (List UInt8)) : ∀ V p, Sec V → (∀ x ∈ xs, x.length = 64) → Sec (lay V p xs) := by
  induction xs with
  | nil => intro V p h _; exact h
  | cons x xs ih => intro V p h hx; exact ih _ _ (set_sec h (hx x (by simp))) fun y hy => hx y (by simp [hy])
theorem settle_pend (xs : List (List UInt8)) : ∀ V p, Sec V → (∀ x ∈ xs, x.length = 64) → Dk.settle V (pend p xs) = lay V p xs := by
  induction xs with
  | nil => intro V p _ _; rfl
  | cons x xs ih =>
    intro V p h hx
    have h1 := hx x (by simp)
    show Dk.settle (Dk.put V p (Dk.str x).data.toList) (pend (p + 1) xs) = lay (V.set p x) (p + 1) xs
    rw [show (Dk.str x).data.toList = x from rfl, put_full h h1]
    exact ih _ _ (set_sec h h1) fun y hy => hx y (by simp [hy])
theorem getD_set (V : List (List UInt8)) (p i : Nat) (x : List UInt8) (hp : p < V.length) : (V.set p x).getD i [] = if i = p then x else V.getD i [] := by
  simp only [List.getD_eq_getElem?_getD, List.getElem?_set]
  by_cases h : p = i
  · subst h; rw [if_pos rfl, if_pos hp, if_pos rfl]; rfl
  · rw [if_neg h, if_neg (fun e => h e.symm)]
theorem lay_get (xs : List (List UInt8)) : ∀ V p i, p + xs.length ≤ V.length → (lay V p xs).getD i [] = if p ≤ i ∧ i < p + xs.length then xs.getD (i - p) [] else V.getD i [] := by
  induction xs with
  | nil => intro V p i _; rw [if_neg (by simp only [List.length_nil]; omega)]; rfl
  | cons x xs ih =>
    intro V p i h
    simp only [List.length_cons] at h
    simp only [lay]
    rw [ih _ _ _ (by rw [List.length_set]; omega), getD_set _ _ _ _ (by omega)]
    by_cases h1 : i = p
    · subst h1
      rw [if_neg (by omega), if_pos rfl, if_pos ⟨Nat.le_refl _, by simp only [List.length_cons]; omega⟩, Nat.sub_self]
      rfl
    · rw [if_neg h1]
      by_cases h2 : p + 1 ≤ i ∧ i < p + 1 + xs.length
      · rw [if_pos h2, if_pos ⟨by omega, by simp only [List.length_cons]; omega⟩]
        obtain ⟨k, rfl⟩ : ∃ k, i = p + 1 + k := ⟨i - (p + 1), by omega⟩
        rw [show p + 1 + k - (p + 1) = k by omega, show p + 1 + k - p = k + 1 by omega]
        rfl
      · rw [if_neg h2, if_neg (by simp only [List.length_cons]; omega)]
theorem cur_settle (q : List (Nat × ByteArray)) (st : List (List UInt8)) (hs : Sec st) (i : Nat) : (∀ p ∈ q, p.1 < st.length ∧ p.2.size = 64) →
    ((match q.reverse.find? (fun p => p.1 == i) with | some p => p.2 | none => Dk.str (st.getD i []) : ByteArray)).data.toList = (Dk.settle st q).getD i [] := by
  have key : ∀ n (q : List (Nat × ByteArray)), q.length = n → (∀ p ∈ q, p.1 < st.length ∧ p.2.size = 64) → ((match q.reverse.find? (fun p => p.1 == i) with | some p => p.2 | none => Dk.str (st.getD i []) : ByteArray)).data.toList = (Dk.settle st q).getD i [] := by
    intro n
    induction n with
    | zero =>
      intro q hq _
      rw [List.eq_nil_of_length_eq_zero hq]
      rfl
    | succ n ih =>
      intro q hq hp
      rcases List.eq_nil_or_concat q with rfl | ⟨m, c, rfl⟩
      · simp at hq
      · rw [List.concat_eq_append] at hp hq ⊢
        have h1 := hp c (by simp)
        have hm : ∀ p ∈ m, p.1 < st.length ∧ p.2.size = 64 := fun p h => hp p (by simp [h])
        have h2 : Sec (Dk.settle st m) := Dk.settle_sec _ _ hs hm
        rw [Dk.settle_snoc, put_full h2 (by rw [Dk.data_len]; exact h1.2), getD_set _ _ _ _ (by rw [Dk.settle_length]; exact h1.1), List.reverse_append, List.reverse_singleton, List.singleton_append, List.find?_cons]
        by_cases h : c.1 = i
        · rw [show (c.1 == i) = true by simpa using h, if_pos h.symm]
        · rw [show (c.1 == i) = false by simpa using h, if_neg (fun e => h e.symm)]
          exact ih m (by simpa using hq) hm
  exact key _ q rfl
theorem curL_view {D : Dk} (h : D.Inv) (i : Nat) : curL D i = (view D).getD i [] := cur_settle D.q D.st h.sec i h.pend

theorem write_ready {D : Dk} (h : Ready D) {i : Nat} (hi : i < D.st.length) {x : List UInt8} (hx : x.length = 64) : D.write (i : Int) (Dk.str x) = ({ D with q := D.q ++ [(i, Dk.str x)] }, 0) := by
  unfold Dk.write Dk.valid
  rw [h.1]
  simp only [Bool.false_eq_true, if_false]
  rw [if_pos (by simp; omega), if_pos (by rw [Dk.str_size]; exact hx)]
  unfold Dk.count
  simp only [h.2, Int.toNat_natCast]
theorem sync_ready {D : Dk} (h : Ready D) : D.sync = ({ D with st := view D, q := [] }, 0) := by
  obtain ⟨st, q, off, al⟩ := D
  obtain ⟨h1, h2⟩ := h
  simp only at h1 h2
  subst h1
  subst h2
  rfl
theorem wr_ready (xs : List (List UInt8)) : ∀ {D : Dk} (p : Nat), Ready D → p + xs.length ≤ D.st.length → (∀ x ∈ xs, x.length = 64) → wr D p xs = ({ D with st := Dk.settle D.st (D.q ++ pend p xs), q := [] }, 0) := by
  induction xs with
  | nil => intro D p h _ _; simp only [wr, pend, List.append_nil]; exact sync_ready h
  | cons x xs ih =>
    intro D p h hp hx
    simp only [List.length_cons] at hp
    have e := write_ready h (i := p) (by omega) (hx x (by simp))
    simp only [wr]
    rw [e]
    simp only [if_true]
    rw [ih (D := { D with q := D.q ++ [(p, Dk.str x)] }) (p + 1) h (by show _ ≤ D.st.length; omega) fun y hy => hx y (by simp [hy])]
    simp [pend]
theorem wr_inv (xs : List (List UInt8)) : ∀ {D : Dk} (p : Nat), D.Inv → (wr D p xs).1.Inv := by
  induction xs with
  | nil => intro D p h; exact Dk.sync_inv h
  | cons x xs ih =>
    intro D p h
    simp only [wr]
    split
    · exact ih _ (Dk.write_inv h _ _)
    · exact Dk.write_inv h _ _
theorem wr_len (xs : List (List UInt8)) : ∀ (D : Dk) (p : Nat), (wr D p xs).1.st.length = D.st.length := by
  induction xs with
  | nil => intro D p; exact Dk.sync_n D
  | cons x xs ih =>
    intro D p
    simp only [wr]
    split
    · rw [ih, Dk.write_n]
    · exact Dk.write_n _ _ _
/-- What a write leaves on a disk that is on and not armed. -/
structure Wrote (D : Dk) (p : Nat) (xs : List (List UInt8)) (D' : Dk) : Prop where
  eq : wr D p xs = (D', 0)
  ready : Ready D'
  inv : D'.Inv
  q : D'.q = []
  view : view D' = lay (view D) p xs
  n : D'.st.length = D.st.length
theorem wr_view {D : Dk} (p : Nat) (xs : List (List UInt8)) (h : Ready D) (hi : D.Inv) (hp : p + xs.length ≤ D.st.length) (hx : ∀ x ∈ xs, x.length = 64) : ∃ D', Wrote D p xs D' := by
  have e := wr_ready xs p h hp hx
  have h1 := wr_inv xs p hi
  have h2 := wr_len xs D p
  rw [e] at h1 h2
  refine ⟨_, e, h, h1, rfl, ?_, h2⟩
  show Dk.settle D.st (D.q ++ pend p xs) = lay (view D) p xs
  rw [← settle_pend xs _ p (view_sec hi) hx]
  unfold view Dk.settle
  rw [List.foldl_append]

/-! Sound sectors. -/
structure Sound (V : List (List UInt8)) (c : Nat) (recs : List (List UInt8)) : Prop where
  room : 2 + c ≤ V.length
  data : ∃ ps : List (List UInt8), ps.length = c ∧ (∀ i, i < c → V.getD (2 + i) [] = sect (2 + i) (ps.getD i [])) ∧ (∀ p ∈ ps, 1 ≤ p.length ∧ p.length ≤ 46) ∧ ps.flatten = text recs
  short : short recs
def Hd (V : List (List UInt8)) (p c : Nat) : Prop := V.getD p [] = head p c ∨ (c = 0 ∧ V.getD p [] = zeros)
structure Good (V : List (List UInt8)) (c : Nat) (recs : List (List UInt8)) : Prop where
  sound : Sound V c recs
  h0 : Hd V 0 c
  h1 : Hd V 1 c
theorem cnt_hd {V : List (List UInt8)} {p c : Nat} {room : Int} (h : Hd V p c) (hc : c < 10 ^ 8) (hr : (c : Int) ≤ room) : cnt p (V.getD p []) room = (c : Int) := by
  rcases h with h | ⟨rfl, h⟩
  · rw [h]; exact cnt_head p c room hc hr
  · rw [h]; exact cnt_zeros p room
theorem flatten_take_succ (ps : List (List UInt8)) {i : Nat} (hi : i < ps.length) : (ps.take (i + 1)).flatten = (ps.take i).flatten ++ ps.getD i [] := by
  rw [List.take_add_one, List.getElem?_eq_getElem hi, List.getD_eq_getElem?_getD, List.getElem?_eq_getElem hi]
  simp only [Option.toList_some, List.flatten_append, List.flatten_singleton, Option.getD_some]
theorem getD_app_left {a b : List (List UInt8)} {i : Nat} (h : i < a.length) : (a ++ b).getD i [] = a.getD i [] := by
  rw [List.getD_eq_getElem?_getD, List.getD_eq_getElem?_getD, List.getElem?_append_left h]
theorem getD_app_right {a b : List (List UInt8)} {i : Nat} (h : a.length ≤ i) : (a ++ b).getD i [] = b.getD (i - a.length) [] := by
  rw [List.getD_eq_getElem?_getD, List.getD_eq_getElem?_getD, List.getElem?_append_right h]
theorem getD_mem {ps : List (List UInt8)} {i : Nat} (hi : i < ps.length) : ps.getD i [] ∈ ps := by
  rw [List.getD_eq_getElem?_getD, List.getElem?_eq_getElem hi]; exact List.getElem_mem hi
theorem found_sound {D : Dk} (hi : D.Inv) {c : Nat} {ps : List (List UInt8)} (h1 : ps.length = c) (h2 : ∀ i, i < c → (view D).getD (2 + i) [] = sect (2 + i) (ps.getD i [])) (h3 : ∀ p ∈ ps, 1 ≤ p.length ∧ p.length ≤ 46) : found D c = some ps.flatten := by
  have key : ∀ k, k ≤ c → found D k = some (ps.take k).flatten := by
    intro k
    induction k with
    | zero => intro _; simp [found]
    | succ k ih =>
      intro hk
      have hm := h3 _ (getD_mem (ps := ps) (i := k) (by omega))
      simp only [found]
      rw [ih (by omega), curL_view hi, h2 k (by omega), piece_sect _ _ hm.1 hm.2, flatten_take_succ _ (by omega)]
      rfl
  rw [key c (Nat.le_refl _), List.take_of_length_le (by omega)]
theorem found_back {D : Dk} (hi : D.Inv) : ∀ (c : Nat) (t : List UInt8), 2 + c ≤ D.st.length → found D c = some t → ∃ ps : List (List UInt8), ps.length = c ∧ (∀ i, i < c → (view D).getD (2 + i) [] = sect (2 + i) (ps.getD i [])) ∧ (∀ p ∈ ps, 1 ≤ p.length ∧ p.length ≤ 46) ∧ ps.flatten = t := by
  intro c
  induction c with
  | zero => intro t _ h; simp only [found, Option.some.injEq] at h; exact ⟨[], rfl, fun i h => by omega, fun p hp => by simp at hp, by rw [← h]; rfl⟩
  | succ c ih =>
    intro t hn h
    simp only [found] at h
    cases hf : found D c with
    | none => rw [hf] at h; cases h
    | some a =>
      rw [hf] at h
      simp only at h
      cases hp : piece (2 + c) (curL D (2 + c)) with
      | none => rw [hp] at h; cases h
      | some x =>
        rw [hp] at h
        simp only [Option.map_some, Option.some.injEq] at h
        obtain ⟨ps, e1, e2, e3, e4⟩ := ih a (by omega) hf
        have hl : (curL D (2 + c)).length = 64 := by
          rw [curL_view hi]; exact Dk.getD_len (view_sec hi) (by rw [view_length]; omega)
        obtain ⟨f1, f2, f3⟩ := piece_some hl hp
        refine ⟨ps ++ [x], by simp [e1], ?_, ?_, by simp [e4, h]⟩
        · intro i hlt
          by_cases h' : i < c
          · rw [e2 i h', getD_app_left (by omega)]
          · obtain rfl : i = c := by omega
            rw [← curL_view hi, f1, getD_app_right (by omega), e1, Nat.sub_self]
            rfl
        · intro p hp
          rcases List.mem_append.1 hp with hp | hp
          · exact e3 p hp
          · rw [List.mem_singleton.1 hp]; exact ⟨f2, f3⟩
theorem pieces_flatten (l : List UInt8) : (pieces l).flatten = l := by
  have key : ∀ k, ((List.range k).map fun i => (l.drop (46 * i)).take 46).flatten = l.take (46 * k) := by
    intro k
    induction k with
    | zero => simp
    | succ k ih =>
      rw [List.range_succ, List.map_append, List.flatten_append, ih]
      simp only [List.map_singleton, List.flatten_singleton]
      rw [show 46 * (k + 1) = 46 * k + 46 by omega, List.take_add]
  unfold pieces
  rw [key, List.take_of_length_le (by omega)]
theorem pieces_length (l : List UInt8) : (pieces l).length = (l.length + 45) / 46 := by simp [pieces]
theorem pieces_mem (l : List UInt8) : ∀ p ∈ pieces l, 1 ≤ p.length ∧ p.length ≤ 46 := by
  intro p hp
  simp only [pieces, List.mem_map, List.mem_range] at hp
  obtain ⟨i, hi, rfl⟩ := hp
  rw [List.length_take, List.length_drop]
  omega
theorem full_len (p : Nat) (ps : List (List UInt8)) : (full p ps).length = ps.length := by simp [full]
theorem full_get (p : Nat) (ps : List (List UInt8)) {i : Nat} (hi : i < ps.length) : (full p ps).getD i [] = sect (p + i) (ps.getD i []) := by
  simp [full, List.getD_eq_getElem?_getD, hi]
theorem full_sec (p : Nat) {ps : List (List UInt8)} (h : ∀ x ∈ ps, 1 ≤ x.length ∧ x.length ≤ 46) : ∀ x ∈ full p ps, x.length = 64 := by
  intro x hx
  simp only [full, List.mem_map, List.mem_range] at hx
  obtain ⟨i, hi, rfl⟩ := hx
  exact sect_length _ (h _ (getD_mem hi)).2
theorem zeros_sec (ps : List (List UInt8)) : ∀ x ∈ ps.map (fun _ => zeros), x.length = 64 := by
  intro x hx
  simp only [List.mem_map] at hx
  obtain ⟨_, _, rfl⟩ := hx
  rfl
/-- More pieces behind sound ones. -/
theorem Sound.more {V V' : List (List UInt8)} {c : Nat} {recs rs : List (List UInt8)} {ps : List (List UInt8)} (h : Sound V c recs) (hroom : 2 + c + ps.length ≤ V'.length) (hold : ∀ i, i < c → V'.getD (2 + i) [] = V.getD (2 + i) [])
    (hnew : ∀ i, i < ps.length → V'.getD (2 + c + i) [] = sect (2 + c + i) (ps.getD i [])) (hp : ∀ p ∈ ps, 1 ≤ p.length ∧ p.length ≤ 46) (hf : ps.flatten = text rs) (hs : Jr.short rs) : Sound V' (c + ps.length) (recs ++ rs) := by
  obtain ⟨qs, e1, e2, e3, e4⟩ := h.data
  refine ⟨by omega, ⟨qs ++ ps, by simp [e1], ?_, ?_, by rw [List.flatten_append, e4, hf, text_append]⟩, ?_⟩
  · intro i hi
    by_cases h' : i < c
    · rw [hold i h', e2 i h', getD_app_left (by omega)]
    · obtain ⟨k, rfl⟩ : ∃ k, i = c + k := ⟨i - c, by omega⟩
      rw [← Nat.add_assoc, hnew k (by omega), getD_app_right (by omega), e1, Nat.add_sub_cancel_left]
  · intro p hp'
    rcases List.mem_append.1 hp' with h' | h'
    · exact e3 p h'
    · exact hp p h'
  · intro r hr
    rcases List.mem_append.1 hr with h' | h'
    · exact h.short r h'
    · exact hs r h'
theorem Sound.same {V V' : List (List UInt8)} {c : Nat} {recs : List (List UInt8)} (h : Sound V c recs) (hl : V'.length = V.length) (hold : ∀ i, i < c → V'.getD (2 + i) [] = V.getD (2 + i) []) : Sound V' c recs := by
  obtain ⟨qs, e1, e2, e3, e4⟩ := h.data
  exact ⟨by rw [hl]; exact h.room, ⟨qs, e1, fun i hi => by rw [hold i hi, e2 i hi], e3, e4⟩, h.short⟩
/-- A disk and the journal on it, all in order. -/
structure Right (D : Dk) (J : Jn) : Prop where
  inv : D.Inv
  on : D.off = false
  n : J.n = D.st.length
  n3 : 3 ≤ J.n
  good : Good (view D) J.c J.recs
  br : J.br = false
theorem Right.c {D : Dk} {J : Jn} (h : Right D J) : 2 + J.c ≤ J.n := by have := h.good.sound.room; rw [view_length, ← h.n] at this; exact this
theorem Right.n4 {D : Dk} {J : Jn} (h : Right D J) : J.n ≤ 4000 := by rw [h.n]; exact h.inv.hi
theorem long_short {rs : List (List UInt8)} (h : long rs = false) : short rs := by
  intro r hr
  unfold long at h
  have := List.any_eq_false.1 h r hr
  simpa using this
/-- Append where all goes well. -/
theorem app_ok {D : Dk} {J : Jn} {rs : List (List UInt8)} (h : Right D J) (ha : D.al = none) (hL : long rs = false) (hf : 2 + J.c + (pieces (text rs)).length ≤ J.n) (h0 : rs ≠ []) :
    ∃ D', app D J rs = (D', { J with c := J.c + (pieces (text rs)).length, recs := J.recs ++ rs }, 0) ∧ Right D' { J with c := J.c + (pieces (text rs)).length, recs := J.recs ++ rs } ∧ D'.al = none ∧ D'.q = [] := by
  have hn := h.n
  have hr : Ready D := ⟨h.on, ha⟩
  have hpm := pieces_mem (text rs)
  have hpf := pieces_flatten (text rs)
  have hrr := long_short hL
  generalize hps : pieces (text rs) = ps at *
  obtain ⟨Da, wa⟩ := wr_view (2 + J.c) (ps.map fun _ => zeros) hr h.inv (by simp; omega) (zeros_sec ps)
  obtain ⟨Db, wb⟩ := wr_view (2 + J.c) (full (2 + J.c) ps) wa.ready wa.inv (by rw [full_len, wa.n]; omega) (full_sec _ hpm)
  obtain ⟨Dc, wc⟩ := wr_view 1 [head 1 (J.c + ps.length)] wb.ready wb.inv (by rw [wb.n, wa.n]; have := h.n3; simp; omega) (by simp [head_length])
  obtain ⟨Dd, wd⟩ := wr_view 0 [head 0 (J.c + ps.length)] wc.ready wc.inv (by rw [wc.n, wb.n, wa.n]; have := h.n3; simp; omega) (by simp [head_length])
  have he : app D J rs = (Dd, { J with c := J.c + ps.length, recs := J.recs ++ rs }, 0) := by
    have hst : steps D J ps = (Dd, 0) := by
      unfold steps
      simp only [wa.eq, wb.eq, wc.eq, wd.eq, ne_eq, not_true_eq_false, if_false]
    unfold app
    rw [hps, h.br, if_neg (by simp), hL, if_neg (by simp), if_neg (by omega), if_neg h0, hst]
    simp
  have hlen : (view Dd).length = D.st.length := by rw [view_length, wd.n, wc.n, wb.n, wa.n]
  have l1 : (view D).length = D.st.length := view_length D
  have l2 : (lay (view D) (2 + J.c) (ps.map fun _ => zeros)).length = D.st.length := by rw [lay_length, l1]
  have l3 : (lay (lay (view D) (2 + J.c) (ps.map fun _ => zeros)) (2 + J.c) (full (2 + J.c) ps)).length = D.st.length := by rw [lay_length, l2]
  have l4 : (lay (lay (lay (view D) (2 + J.c) (ps.map fun _ => zeros)) (2 + J.c) (full (2 + J.c) ps)) 1 [head 1 (J.c + ps.length)]).length = D.st.length := by rw [lay_length, l3]
  have n3 := h.n3
  have hv : ∀ i, (view Dd).getD i [] = if i = 0 then head 0 (J.c + ps.length) else if i = 1 then head 1 (J.c + ps.length) else if 2 + J.c ≤ i ∧ i < 2 + J.c + ps.length then (full (2 + J.c) ps).getD (i - (2 + J.c)) [] else (view D).getD i [] := by
    intro i
    rw [wd.view, wc.view, wb.view, wa.view, lay_get _ _ _ _ (by rw [l4]; simp; omega)]
    by_cases i0 : i = 0
    · subst i0; rw [if_pos (by simp), if_pos rfl]; rfl
    · rw [if_neg (by simp; omega), if_neg i0, lay_get _ _ _ _ (by rw [l3]; simp; omega)]
      by_cases i1 : i = 1
      · subst i1; rw [if_pos (by simp), if_pos rfl]; rfl
      · rw [if_neg (by simp; omega), if_neg i1, lay_get _ _ _ _ (by rw [l2, full_len]; omega), full_len]
        by_cases i2 : 2 + J.c ≤ i ∧ i < 2 + J.c + ps.length
        · rw [if_pos i2, if_pos i2]
        · rw [if_neg i2, if_neg i2, lay_get _ _ _ _ (by rw [l1]; simp; omega), List.length_map, if_neg i2]
  refine ⟨Dd, he, ⟨wd.inv, wd.ready.1, ?_, n3, ⟨?_, ?_, ?_⟩, h.br⟩, wd.ready.2, wd.q⟩
  · show J.n = _; rw [wd.n, wc.n, wb.n, wa.n]; exact hn
  · refine Sound.more h.good.sound (by rw [hlen]; omega) ?_ ?_ hpm hpf hrr
    · intro i hi
      rw [hv, if_neg (by omega), if_neg (by omega), if_neg (by omega)]
    · intro i hi
      rw [hv, if_neg (by omega), if_neg (by omega), if_pos ⟨by omega, by omega⟩, Nat.add_sub_cancel_left, full_get _ _ hi]
  · exact .inl (by rw [hv, if_pos rfl])
  · exact .inl (by rw [hv, if_neg (by omega), if_pos rfl])
/-- Append whatever comes, on a disk that is on and not armed. -/
theorem app_any {D : Dk} {J : Jn} (rs : List (List UInt8)) (h : Right D J) (ha : D.al = none) :
    ∃ D' J', app D J rs = (D', J', if long rs then 2 else if J.n < 2 + J.c + (pieces (text rs)).length then 29 else 0) ∧ Right D' J' ∧ D'.al = none ∧ J'.n = J.n ∧
      ((long rs = true ∨ J.n < 2 + J.c + (pieces (text rs)).length) ∧ D' = D ∧ J' = J ∨ long rs = false ∧ 2 + J.c + (pieces (text rs)).length ≤ J.n ∧ J'.c = J.c + (pieces (text rs)).length ∧ J'.recs = J.recs ++ rs ∧ (D.q = [] → D'.q = [])) := by
  by_cases hL : long rs = true
  · refine ⟨D, J, ?_, h, ha, rfl, .inl ⟨.inl hL, rfl, rfl⟩⟩
    unfold app
    rw [h.br, if_neg (by simp), if_pos hL, if_pos hL]
  · have hL' : long rs = false := by simpa using hL
    by_cases hf : J.n < 2 + J.c + (pieces (text rs)).length
    · refine ⟨D, J, ?_, h, ha, rfl, .inl ⟨.inr hf, rfl, rfl⟩⟩
      unfold app
      rw [h.br, if_neg (by simp), if_neg hL, if_pos hf, if_neg hL, if_pos hf]
    · by_cases h0 : rs = []
      · subst h0
        refine ⟨D, J, ?_, h, ha, rfl, .inr ⟨hL', by omega, ?_, by simp, id⟩⟩
        · unfold app
          rw [h.br, if_neg (by simp), if_neg hL, if_neg hf, if_pos rfl, if_neg hL, if_neg hf]
        · show J.c = _; rw [pieces_length]; simp [text]
      · obtain ⟨D', e, hr, h1, h2⟩ := app_ok h ha hL' (by omega) h0
        exact ⟨D', _, by rw [e, if_neg hL, if_neg hf], hr, h1, rfl, .inr ⟨hL', by omega, rfl, rfl, fun _ => h2⟩⟩

/-- Open on a journal in order. -/
theorem opn_right {D : Dk} {J : Jn} (h : Right D J) : opn D = (D, some J, 0) := by
  have hc := h.c
  have hn := h.n
  have h4 := h.n4
  have hi := h.inv
  have v0 : curL D 0 = (view D).getD 0 [] := curL_view hi 0
  have v1 : curL D 1 = (view D).getD 1 [] := curL_view hi 1
  have c0 := cnt_hd (room := (D.st.length : Int) - 2) h.good.h0 (by omega) (by omega)
  have c1 := cnt_hd (room := (D.st.length : Int) - 2) h.good.h1 (by omega) (by omega)
  obtain ⟨ps, e1, e2, e3, e4⟩ := h.good.sound.data
  have hf := found_sound hi e1 e2 e3
  rw [e4] at hf
  have hrest : ∀ p, Hd (view D) p J.c → rest D p ((view D).getD p []) J.c = (D, 0) := by
    intro p hp
    unfold rest
    exact if_pos hp
  unfold opn
  rw [h.on, if_neg (by simp), if_neg (by have := h.n3; omega), v0, v1, c0, c1]
  have hmax : max ((J.c : Int)) (J.c : Int) = (J.c : Int) := by omega
  simp only [hmax, Int.toNat_natCast]
  rw [if_neg (by omega), hf]
  simp only
  rw [parse_text _ h.good.sound.short]
  simp only [hrest 0 h.good.h0, hrest 1 h.good.h1, ne_eq, not_true_eq_false, if_false]
  have hb := h.br
  cases J
  simp only at hn hb ⊢
  subst hn
  subst hb
  rfl
/-- A new disk. -/
theorem new_right (n : Nat) (h1 : 3 ≤ n) (h2 : n ≤ 4000) : Right (Dk.new n) ⟨n, 0, [], false⟩ := by
  have hv : view (Dk.new n) = List.replicate n zeros := rfl
  have hz : ∀ p, p < n → (view (Dk.new n)).getD p [] = zeros := by
    intro p hp
    rw [hv, List.getD_eq_getElem?_getD, List.getElem?_replicate, if_pos hp]
    rfl
  refine ⟨Dk.new_inv n (by omega) h2, rfl, by simp [Dk.new], h1, ⟨⟨by rw [hv]; simp; omega, ⟨[], rfl, fun i h => absurd h (Nat.not_lt_zero i), fun p hp => by simp at hp, rfl⟩, fun r hr => by simp at hr⟩, .inr ⟨rfl, hz 0 (by omega)⟩, .inr ⟨rfl, hz 1 (by omega)⟩⟩, rfl⟩
end Jr
end Go.Proofs.YthhkadeiplbdkaaDoor
