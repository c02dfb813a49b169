/- Walks of the journal's functions, part 14: Append, whatever comes. -/
import Derived.Test.YthhkadeiplbdkaaDoorJrW13
set_option linter.unusedVariables false
set_option linter.unusedSimpArgs false
namespace Go.Proofs.YthhkadeiplbdkaaDoor
open Go.RowKit

/-- What Append leaves, in the words of Th. -/
def JPost (S : Nat → Prop) (w : World) (jb db : Nat) (r : Dk × Jn × Int) (e : Ending) (w' : World) : Prop :=
  e = .returned (.int .i64 r.2.2) ∧ ((jnT jb db r.2.1).star (diskT db r.1)).at_ w' (Plus S w w') ∧ Touch S w w'
theorem JPost.still {S : Nat → Prop} {w w' : World} {jb db : Nat} {D : Dk} {J : Jn} {x : Int} {e : Ending} (hR : ((jnT jb db J).star (diskT db D)).at_ w S) (h : e = .returned (.int .i64 x) ∧ Below w.heap.size w w') : JPost S w jb db (D, J, x) e w' :=
  ⟨h.1, Th.mono _ (Th.below hR h.2) fun _ => .inl, Touch.of_new h.2⟩
theorem append_any (w : World) (hE : Env w) (S : Nat → Prop) (jb db : Nat) (D : Dk) (J : Jn) (A : Option Addr) (c : Nat) (xs : List (List UInt8)) (hR : ((jnT jb db J).star (diskT db D)).at_ w S) (hS : ∀ k, S k → nG ≤ k ∧ k < w.heap.size)
    (hx : Strs w A xs) (hxS : 0 < xs.length → ∀ b o, A = some ⟨b, o, none⟩ → ¬ S b) (hn : J.n ≤ 4000) (hc : J.c ≤ 4000) (ht : (Jr.text xs).length ≤ 1000000) (hq : D.q.length ≤ 100000) (hrl : J.recs.length ≤ 100000) :
    Calls Tryd.prog 18 #[.pointer (some ⟨jb, 0, none⟩), .slice A xs.length c] w (JPost S w jb db (Jr.app D J xs)) := by
  obtain ⟨X, Y, ⟨v, X1, X2, ⟨hj, hjX⟩, ⟨hrow, hrX⟩, hd1, hs1, hs2⟩, hD, hd2, hs3, hs4⟩ := hR
  have hR' : ((jnT jb db J).star (diskT db D)).at_ w S := ⟨X, Y, ⟨v, X1, X2, ⟨hj, hjX⟩, ⟨hrow, hrX⟩, hd1, hs1, hs2⟩, hD, hd2, hs3, hs4⟩
  by_cases hb : J.br = true
  · have e : Jr.app D J xs = (D, J, 11) := by unfold Jr.app; rw [if_pos hb]
    rw [e]
    rw [hb] at hj
    exact (append_broken w jb db J.n J.c v _ hj).mono fun e w' h => JPost.still hR' h
  · have hP : AppPre w jb db J v A xs := ⟨hE, hj, by simpa using hb, hx, hn, hc, ht⟩
    by_cases hL : Jr.long xs = true
    · have e : Jr.app D J xs = (D, J, 2) := by unfold Jr.app; rw [if_neg hb, if_pos hL]
      rw [e]
      exact (append_long w jb db J v A c xs hP hL).mono fun e w' h => JPost.still hR' h
    · have hL' : Jr.long xs = false := by simpa using hL
      by_cases hf : J.n < 2 + J.c + (Jr.pieces (Jr.text xs)).length
      · have e : Jr.app D J xs = (D, J, 29) := by unfold Jr.app; rw [if_neg hb, if_neg hL, if_pos hf]
        rw [e]
        exact (append_full w jb db J v A c xs hP hL' hf).mono fun e w' h => JPost.still hR' h
      · by_cases h0 : xs.length = 0
        · have e : Jr.app D J xs = (D, J, 0) := by unfold Jr.app; rw [if_neg hb, if_neg hL, if_neg hf, if_pos (List.length_eq_zero_iff.1 h0)]
          rw [e]
          exact (append_none w jb db J v A c xs hP hL' hf h0).mono fun e w' h => JPost.still hR' h
        · have hin : ∀ k, (Y k ∨ k = jb ∨ v.ownBlock = some k) → S k := by
            rintro k (h | h | h)
            · exact hs4 k h
            · exact hs3 k (hs1 k (h ▸ hjX))
            · exact hs3 k (hs2 k (hrX k h))
          refine (append_main w Y jb db D J v A c xs hP hD (fun k hk => ⟨(hS k (hs4 k hk)).1, (hS k (hs4 k hk)).2, fun e => hd2 k (hs1 k (e ▸ hjX)) hk, fun e => hd2 k (hs2 k (hrX k e)) hk⟩) hrow
            (fun b o e => ⟨fun h => hxS (by omega) b o e (hs4 b h), fun h => hxS (by omega) b o e (hs3 b (hs1 b (h ▸ hjX))), fun h => hxS (by omega) b o e (hs3 b (hs2 b (hrX b h)))⟩) hq hrl hL' hf (by omega)).mono ?_
          rintro e w' ⟨h1, h2, h3⟩
          exact ⟨h1, Th.mono _ h2 fun k hk => hk.elim (fun h => .inl (hin k h)) .inr, h3.mono fun k _ h => hin k h⟩
end Go.Proofs.YthhkadeiplbdkaaDoor
