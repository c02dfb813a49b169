/- The journal's laws: filled. -/
import Derived.Test.YthhkadeiplbdkaaGreatDoorJrL3
import Derived.Deep.AppendSrc
set_option linter.unusedVariables false
set_option linter.unusedSimpArgs false
namespace Go.Proofs.YthhkadeiplbdkaaGreatDoor
open Go.RowKit

theorem add_at (b o n : Nat) : (⟨b, o, none⟩ : Addr).add n = ⟨b, o + n, none⟩ := by unfold Addr.add; split <;> simp_all
theorem append_none_run {w : World} (t ty e : TypeId) (i : TypeInfo) (ht : Tryz.prog.underlying t = some (.slice e)) (hi : Tryz.prog.info? e = some i) (v : Value) (n size base : Nat) (xs : List Value) (hown : w.ownsRow base e size v n xs) (c : Nat) :
    (Builtin.append_ #[t, t] ty #[v, .slice none 0 c]).run Tryz.prog w = .ok v w := by
  rcases hown.2 with ⟨rfl, rfl⟩ | ⟨g, cap, cur, rfl, hbg, hg, hnc, hcm, hcs, htake⟩
  · simp [Builtin.append_, run_underlying ht, sizeOf, typeInfo, hi, Builtin.lenOf, Builtin.firstCells, loadCells, loadCellsFrom]
  · exact run_append_room_src (P := Tryz.prog) w t t ty e i ht hi g 0 n cap (.slice none 0 c) 0 [] (Src.ofNil w ht c) (by omega) (fun j hj => absurd hj (by simp)) (fun j hj => absurd hj (by simp))
/-- append(dst, src...): dst a row of one's own, src whatever list of texts. -/
theorem wpList_append_strs {w : World} {ops : Array Oper} {rest : List Oper} {o : Oper} {a : Act} {Q : Exit → Act → World → Prop} (hgd : o.guard = none) (s x : Operand)
    (ho : o.op = .call { callee := .builtin .append, args := #[s, x], argTypes := #[26, 26] }) (v : Value) (rs : List (List UInt8)) (hs : a.eval s = v) (hown : w.ownsRow 0 9 1 v rs.length (strL rs))
    (A : Option Addr) (c : Nat) (xs : List (List UInt8)) (hx : a.eval x = .slice A xs.length c) (hst : Strs w A xs) (hl : rs.length + xs.length ≤ 1000000)
    (h : ∀ v' w', w'.ownsRow 0 9 1 v' (rs ++ xs).length (strL (rs ++ xs)) → w.grownBy w' v.ownBlock → (v'.ownBlock = v.ownBlock ∨ v'.ownBlock = some w.heap.size) → wpList Tryz.prog ops Q rest (a.put o.dst v') w') :
    wpList Tryz.prog ops Q (o :: rest) a w := by
  obtain ⟨i0, hi, hz0, hz1, hz2⟩ := info_parts info_strs
  match A, hx, hst with
  | some ad, hx, hst =>
    refine wpList_append_own_at (P := Tryz.prog) w hgd s x 26 ho 0 9 i0 _ 1 16 Tryz.underlying26 hi hz0 hz1 hz2 rfl (by omega) v rs.length (strL rs) hs hown ad xs.length c (strL xs) hx (by rw [strL_length, Nat.mul_one]) ?_ ?_ (by simp only [maxLen]; omega) (by omega) (Nat.zero_le _) ?_
    · intro j u hu
      have hj : j < xs.length := by
        rcases Nat.lt_or_ge j xs.length with h1 | h1
        · exact h1
        · rw [List.getElem?_eq_none (by rw [strL_length]; exact h1)] at hu; cases hu
      obtain ⟨b, o', e, _, hc⟩ := hst.at_ (by omega)
      rw [Option.some.inj e, add_at, hc j hj]
      simpa [strL, hj] using hu
    · intro u hu
      simp only [strL, List.mem_map] at hu
      obtain ⟨y, _, rfl⟩ := hu
      rfl
    · intro v' w' h1 h2 _ h4
      refine h v' w' ?_ h2 h4
      rw [strL_append, List.length_append]
      exact h1
  | none, hx, hst =>
    have hxs : xs = [] := by
      rcases Nat.eq_zero_or_pos xs.length with h0 | h0
      · exact List.length_eq_zero_iff.1 h0
      · obtain ⟨b, o', e, _⟩ := hst.at_ h0
        cases e
    subst hxs
    refine wpList_plain hgd fun K hK => ?_
    have hr := append_none_run (w := w) 26 o.type 9 i0 Tryz.underlying26 hi v rs.length 1 0 (strL rs) hown c
    unfold Oper.wp execOp
    simp only [ho, resolve, invoke, builtin, Sem.run_bind, Sem.run_pure, Result.andThen_ok, List.map_toArray, List.map_cons, List.map_nil, hs, hx, List.length_nil, hr]
    exact hK _ _ (h v w (by simpa using hown) ⟨rfl, rfl, rfl, Nat.le_refl _, fun _ _ _ => rfl⟩ (.inl rfl))
section
variable {B : Nat} {w0 w w' : World} {F : List Th} {v v' : Value} {rs ys : List (List UInt8)}
theorem Hp.append (h : Hp B w0 (Th.all (rowT v rs :: F)) w) (hg : w.grownBy w' v.ownBlock) (ho : w'.ownsRow 0 9 1 v' ys.length (strL ys)) (hat : v'.ownBlock = v.ownBlock ∨ v'.ownBlock = some w.heap.size) : Hp B w0 (Th.all (rowT v' ys :: F)) w' := by
  obtain ⟨S, ⟨A2, C, ⟨h1, h1'⟩, h2, h3, h4, h5⟩, h6⟩ := h.look
  have ht : Touch (fun k => v.ownBlock = some k) w w' := (Touch.refl _ w).grown hg fun k hk => .inr hk
  refine Hp.put (w := w) (w1 := w) (w' := w') (R' := rowT v' ys) (S := fun k => v.ownBlock = some k) h.size (Below.refl _ _) h.bel (fun k hk => h6 k (h4 k (h1' k hk))) h2 (fun k hk => h6 k (h5 k hk)) (fun k hk => h3 k (h1' k hk)) ⟨ho, ?_⟩ ht
  intro k hk
  have hlt := (ho.lt k hk).2
  rcases hat with e | e
  · exact .inl (e ▸ hk)
  · refine .inr ⟨?_, hlt⟩
    rw [e] at hk
    injection hk with hk
    omega
end
end Go.Proofs.YthhkadeiplbdkaaGreatDoor
