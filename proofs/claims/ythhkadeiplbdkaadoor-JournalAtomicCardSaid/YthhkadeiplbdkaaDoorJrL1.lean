/- Lists of things in memory, and the calls of disk and journal in these words. -/
import Derived.Test.YthhkadeiplbdkaaDoorJrW17
import Derived.Test.YthhkadeiplbdkaaDoorJrA
set_option linter.unusedVariables false
set_option linter.unusedSimpArgs false
namespace Go.Proofs.YthhkadeiplbdkaaDoor
open Go.RowKit

namespace Th
def all : List Th → Th
  | [] => emp
  | a :: l => a.star (all l)
variable {w : World} {S : Nat → Prop}
theorem star_swap {a b c : Th} (h : (a.star (b.star c)).at_ w S) : (b.star (a.star c)).at_ w S := by
  have h1 := star_assoc' h
  have h2 : ((b.star a).star c).at_ w S := star_mono h1 fun h => star_comm h
  exact star_assoc h2
theorem star_mono_right {a b b' : Th} (h : (a.star b).at_ w S) (f : ∀ {S}, b.at_ w S → b'.at_ w S) : (a.star b').at_ w S := star_comm (star_mono (star_comm h) f)
theorem all_focus : ∀ (l : List Th) (i : Nat) (hi : i < l.length) {S : Nat → Prop}, (all l).at_ w S → (all (l[i] :: l.eraseIdx i)).at_ w S
  | a :: l, 0, _, S, h => h
  | a :: l, i + 1, hi, S, h => by
    have hi' : i < l.length := by simpa using hi
    have h1 : (a.star (l[i].star (all (l.eraseIdx i)))).at_ w S := star_mono_right h fun h => all_focus l i hi' h
    exact star_swap h1
theorem all_perm {l l' : List Th} (h : l.Perm l') : ∀ {S : Nat → Prop}, (all l).at_ w S → (all l').at_ w S := by
  induction h with
  | nil => intro S h; exact h
  | cons a _ ih => intro S h; exact star_mono_right h fun h => ih h
  | swap a b l => intro S h; exact star_swap h
  | trans _ _ ih1 ih2 => intro S h; exact ih2 (ih1 h)
end Th
section
variable {B : Nat} {w0 w w' w1 : World} {F l : List Th}
/-- The things in another order. -/
theorem Hp.pick (h : Hp B w0 (Th.all l) w) (is : List Nat) (hp : is.isPerm (List.range l.length) = true) : Hp B w0 (Th.all (is.map fun i => l.getD i Th.emp)) w := by
  refine h.conv fun S => Th.all_perm ?_
  have h1 : ((List.range l.length).map fun i => l.getD i Th.emp) = l := by
    apply List.ext_getElem? fun i => ?_
    rw [List.getElem?_map]
    rcases Nat.lt_or_ge i l.length with hi | hi
    · rw [List.getElem?_range hi, Option.map_some, List.getD_eq_getElem?_getD, List.getElem?_eq_getElem hi]; rfl
    · rw [List.getElem?_eq_none (by simpa using hi), List.getElem?_eq_none hi]; rfl
  have h2 := (List.isPerm_iff.1 hp).map fun i => l.getD i Th.emp
  rw [h1] at h2
  exact h2.symm
theorem Hp.focus (h : Hp B w0 (Th.all l) w) (i : Nat) (hi : i < l.length) : Hp B w0 (Th.all (l[i] :: l.eraseIdx i)) w := h.conv fun S => Th.all_focus l i hi
theorem Hp.drop {a : Th} (h : Hp B w0 (Th.all (a :: F)) w) : Hp B w0 (Th.all F) w := h.conv fun S ⟨A, C, _, h2, _, _, h5⟩ => (Th.all F).mono h2 h5
theorem Hp.addc {a : Th} (h : Hp B w0 (Th.all F) w) (hb : Below w.heap.size w w') (hR : a.at_ w' (fun k => w.heap.size ≤ k)) : Hp B w0 (Th.all (a :: F)) w' := h.add hb hR
theorem Hp.lift {B' : Nat} {w1 : World} {R : Th} (h : Hp B' w1 R w) (hb : Below B w0 w1) (hB : B ≤ B') (hz : B' = w1.heap.size) : Hp B w0 R w := by
  obtain ⟨⟨S, h1, h2⟩, h3, h4⟩ := h
  exact ⟨⟨S, h1, fun k hk => ⟨Nat.le_trans hB (h2 k hk).1, (h2 k hk).2⟩⟩, hb.trans (h3.mono hB), Nat.le_trans hB h4⟩
/-- What a callee has made behind other things. -/
theorem Hp.join {B' : Nat} {l' : List Th} (h0 : Hp B w0 (Th.all F) w1) (h : Hp w1.heap.size w1 (Th.all l') w) : Hp B w0 ((Th.all l').star (Th.all F)) w := by
  obtain ⟨⟨S, h1, h2⟩, h3, h4⟩ := h
  exact h0.add h3 ((Th.all l').mono h1 fun k hk => (h2 k hk).1)
theorem Hp.start0 (w : World) : Hp w.heap.size w (Th.all []) w := Hp.start w
theorem Hp.newer (h : Hp B w0 (Th.all F) w) (hb : Below w.heap.size w w') : Hp B w0 (Th.all F) w' := h.below hb
theorem Hp.env {R : Th} (h : Hp B w0 R w) (hE : Env w0) (hB : nG ≤ B) : Env w := hE.below h.bel hB
/-- The things behind a call that is about the first thing alone. -/
theorem Hp.put {R' : Th} {S C : Nat → Prop} {FF : Th} (hw : B ≤ w.heap.size) (hb : Below w.heap.size w w1) (hbel : Below B w0 w) (hS : ∀ k, S k → B ≤ k ∧ k < w.heap.size) (hF : FF.at_ w C) (hC : ∀ k, C k → B ≤ k ∧ k < w.heap.size) (hd : ∀ k, S k → ¬ C k)
    (hR' : R'.at_ w' (Plus S w1 w')) (ht : Touch S w1 w') : Hp B w0 (R'.star FF) w' := by
  have hz := hb.size
  have hz2 := ht.size
  refine ⟨⟨fun k => B ≤ k ∧ k < w'.heap.size, ⟨_, C, R'.tight hR', FF.touch (Th.below hF hb) ht fun k hk hs => hd k hs hk, fun k hk hs => ?_, fun k hk => ?_, fun k hk => ?_⟩, fun k hk => hk⟩, (bthen hbel hw hb).trans (ht.below (by omega) fun k hk => (hS k hk).1), by omega⟩
  · rcases hk.1 with h | h
    · exact hd k h hs
    · have := (hC k hs).2; omega
  · refine ⟨?_, hk.2⟩
    rcases hk.1 with h | h
    · exact (hS k h).1
    · omega
  · have := hC k hk; omega
/-- The blocks of a list that is handed in: not of the things. -/
def Out (B : Nat) (w : World) (n : Nat) (A : Option Addr) : Prop := 0 < n → ∀ b o, A = some ⟨b, o, none⟩ → b < B ∨ w.heap.size ≤ b
theorem c_append {jb db : Nat} {J : Jn} {D : Dk} {A : Option Addr} {c : Nat} {xs : List (List UInt8)} (h : Hp B w0 (Th.all (jnT jb db J :: diskT db D :: F)) w) (hb : Below w.heap.size w w1) (hE : Env w0) (hB : nG ≤ B)
    (hx : Strs w1 A xs) (hA : Out B w xs.length A) (hn : J.n ≤ 4000) (hc : J.c ≤ 4000) (ht : (Jr.text xs).length ≤ 1000000) (hq : D.q.length ≤ 100000) (hrl : J.recs.length ≤ 100000) {D' : Dk} {J' : Jn} {x : Int} (hr : Jr.app D J xs = (D', J', x)) :
    Calls Tryd.prog 18 #[.pointer (some ⟨jb, 0, none⟩), .slice A xs.length c] w1 fun e w' => e = .returned (.int .i64 x) ∧ Hp B w0 (Th.all (jnT jb db J' :: diskT db D' :: F)) w' ∧ w1.heap.size ≤ w'.heap.size := by
  have hE1 : Env w1 := (h.env hE hB).new hb
  obtain ⟨S, hS, h6⟩ := h.look
  obtain ⟨A2, C, h1, h2, h3, h4, h5⟩ : (((jnT jb db J).star (diskT db D)).star (Th.all F)).at_ w S := Th.star_assoc' hS
  have hz := hb.size
  have hsz := h.size
  refine (append_any w1 hE1 A2 jb db D J A c xs (Th.below h1 hb) (fun k hk => ?_) hx (fun h0 b o e hk => ?_) hn hc ht hq hrl).mono ?_
  · have := h6 k (h4 k hk); omega
  · have := h6 b (h4 b hk)
    rcases hA h0 b o e with h' | h' <;> omega
  · rintro e w' ⟨rfl, hR, hT⟩
    rw [hr] at hR
    refine ⟨by rw [hr], ?_, hT.size⟩
    have hp := Hp.put (w := w) (w1 := w1) (w' := w') hsz hb h.bel (fun k hk => h6 k (h4 k hk)) h2 (fun k hk => h6 k (h5 k hk)) h3 hR hT
    exact hp.conv fun S h => Th.star_assoc h
theorem c_open {db : Nat} {D : Dk} (h : Hp B w0 (Th.all (diskT db D :: F)) w) (hE : Env w0) (hB : nG ≤ B) (hq : D.q.length ≤ 100000) {D' : Dk} {J : Jn} {x : Int} (hr : Jr.opn D = (D', some J, x)) :
    Calls Tryd.prog 15 #[.pointer (some ⟨db, 0, none⟩)] w fun e w' => ∃ jb v, e = .returned (.tuple #[.pointer (some ⟨jb, 0, none⟩), v, .int .i64 x]) ∧ Hp B w0 (Th.all (jnT jb db J :: rowT v J.recs :: diskT db D' :: F)) w' ∧ w.heap.size ≤ w'.heap.size := by
  have hE1 : Env w := h.env hE hB
  obtain ⟨S, ⟨A2, C, h1, h2, h3, h4, h5⟩, h6⟩ := h.look
  have hsz := h.size
  refine (open_any w hE1 A2 db D h1 (fun k hk => ?_) hq).mono ?_
  · have := h6 k (h4 k hk); omega
  · rintro e w' ⟨hT, hR⟩
    rw [hr] at hR
    obtain ⟨jb, v, rfl, hR⟩ := hR
    have hp := Hp.put (w := w) (w1 := w) (w' := w') hsz (Below.refl _ _) h.bel (fun k hk => h6 k (h4 k hk)) h2 (fun k hk => h6 k (h5 k hk)) h3 hR hT
    exact ⟨jb, v, rfl, hp.conv fun S h => Th.star_assoc (Th.star_assoc h), hT.size⟩
theorem c_open_no {db : Nat} {D : Dk} (h : Hp B w0 (Th.all (diskT db D :: F)) w) (hE : Env w0) (hB : nG ≤ B) (hq : D.q.length ≤ 100000) {D' : Dk} {x : Int} (hr : Jr.opn D = (D', none, x)) :
    Calls Tryd.prog 15 #[.pointer (some ⟨db, 0, none⟩)] w fun e w' => e = .returned (.tuple #[.pointer none, .slice none 0 0, .int .i64 x]) ∧ Hp B w0 (Th.all (diskT db D' :: F)) w' ∧ w.heap.size ≤ w'.heap.size := by
  have hE1 : Env w := h.env hE hB
  obtain ⟨S, ⟨A2, C, h1, h2, h3, h4, h5⟩, h6⟩ := h.look
  have hsz := h.size
  refine (open_any w hE1 A2 db D h1 (fun k hk => ?_) hq).mono ?_
  · have := h6 k (h4 k hk); omega
  · rintro e w' ⟨hT, hR⟩
    rw [hr] at hR
    obtain ⟨rfl, hR⟩ := hR
    exact ⟨rfl, Hp.put (w := w) (w1 := w) (w' := w') (R' := diskT db D') hsz (Below.refl _ _) h.bel (fun k hk => h6 k (h4 k hk)) h2 (fun k hk => h6 k (h5 k hk)) h3 hR hT, hT.size⟩
/-- A call of the disk's. -/
theorem c_disk {db : Nat} {D D' : Dk} {f : FuncId} {args : Array Value} {v : Value} (h : Hp B w0 (Th.all (diskT db D :: F)) w) (hb : Below w.heap.size w w1) (hc : ∀ S, DiskAt w1 S db D → Calls Tryd.prog f args w1 (DPost S w1 db D' v)) :
    Calls Tryd.prog f args w1 fun e w' => e = .returned v ∧ Hp B w0 (Th.all (diskT db D' :: F)) w' ∧ w1.heap.size ≤ w'.heap.size := by
  obtain ⟨S, ⟨A2, C, h1, h2, h3, h4, h5⟩, h6⟩ := h.look
  refine (hc A2 (DiskAt.below h1 hb)).mono ?_
  rintro e w' ⟨rfl, hR, hT⟩
  exact ⟨rfl, Hp.put (w := w) (w1 := w1) (w' := w') (R' := diskT db D') h.size hb h.bel (fun k hk => h6 k (h4 k hk)) h2 (fun k hk => h6 k (h5 k hk)) h3 hR hT, hT.size⟩
theorem c_new (n : Nat) (h1 : 1 ≤ n) (h2 : n ≤ 4000) (h : Hp B w0 (Th.all F) w) :
    Calls Tryd.prog 19 #[.int .i64 (n : Int)] w fun e w' => ∃ db, e = .returned (.pointer (some ⟨db, 0, none⟩)) ∧ Hp B w0 (Th.all (diskT db (Dk.new n) :: F)) w' ∧ w.heap.size ≤ w'.heap.size := by
  refine (new_yes w n h1 h2).mono ?_
  rintro e w' ⟨rfl, hd, hb⟩
  exact ⟨_, rfl, h.addc hb hd, hb.size⟩
theorem c_room {jb db : Nat} {J : Jn} (h : Hp B w0 (Th.all (jnT jb db J :: F)) w) (hn : J.n ≤ 4000) (hc : J.c ≤ 4000) :
    Calls Tryd.prog 16 #[.pointer (some ⟨jb, 0, none⟩)] w fun e w' => e = .returned (.int .i64 ((J.n : Int) - 2 - (J.c : Int))) ∧ Hp B w0 (Th.all (jnT jb db J :: F)) w' ∧ w.heap.size ≤ w'.heap.size := by
  obtain ⟨S, ⟨A2, C, ⟨v, A3, A4, ⟨hj, _⟩, _⟩, _⟩, h6⟩ := h.look
  refine (room_any w jb db J.n J.c v J.br (by omega) (by omega) hj).mono ?_
  rintro e w' ⟨rfl, hb⟩
  exact ⟨rfl, h.newer hb, hb.size⟩
theorem c_records {jb db : Nat} {J : Jn} (h : Hp B w0 (Th.all (jnT jb db J :: F)) w) (hl : J.recs.length ≤ 100000) :
    Calls Tryd.prog 12 #[.pointer (some ⟨jb, 0, none⟩)] w fun e w' => ∃ v, e = .returned v ∧ Hp B w0 (Th.all (rowT v J.recs :: jnT jb db J :: F)) w' ∧ w.heap.size ≤ w'.heap.size := by
  obtain ⟨S, ⟨A2, C, ⟨v, A3, A4, ⟨hj, _⟩, ⟨hr, _⟩, _⟩, _⟩, h6⟩ := h.look
  refine (records_any w jb db J.n J.c v J.br J.recs (by omega) hj hr).mono ?_
  rintro e w' ⟨v', rfl, ho, hb⟩
  exact ⟨v', rfl, h.addc hb ⟨own_low ho (Nat.zero_le _), fun k hk => (ho.lt k hk).1⟩, hb.size⟩
/-- A row of one's own as a list of texts. -/
theorem Hp.row {v : Value} {xs : List (List UInt8)} (h : Hp B w0 (Th.all (rowT v xs :: F)) w) : w.ownsRow 0 9 1 v xs.length (strL xs) ∧ ∀ k, v.ownBlock = some k → B ≤ k ∧ k < w.heap.size := by
  obtain ⟨S, ⟨A2, C, ⟨hr, hs⟩, _, _, h4, _⟩, h6⟩ := h.look
  exact ⟨hr, fun k hk => h6 k (h4 k (hs k hk))⟩
theorem row_shape {v : Value} {xs : List (List UInt8)} {b : Nat} (h : w.ownsRow b 9 1 v xs.length (strL xs)) : ∃ A c, v = .slice A xs.length c := by
  rcases h.2 with ⟨h1, h0⟩ | ⟨g, cap, cur, h1, _⟩
  · exact ⟨none, 0, by rw [h0]; exact h1⟩
  · exact ⟨_, _, h1⟩
end
end Go.Proofs.YthhkadeiplbdkaaDoor
