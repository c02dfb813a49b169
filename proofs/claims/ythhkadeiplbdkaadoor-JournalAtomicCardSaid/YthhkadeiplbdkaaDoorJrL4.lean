/- The journal's laws: filled. -/
import Derived.Test.YthhkadeiplbdkaaDoorJrL3
import Derived.Deep.AppendSrc
set_option linter.unusedVariables false
set_option linter.unusedSimpArgs false
namespace Go.Proofs.YthhkadeiplbdkaaDoor
open Go.RowKit

theorem add_at (b o n : Nat) : (⟨b, o, none⟩ : Addr).add n = ⟨b, o + n, none⟩ := by unfold Addr.add; split <;> simp_all
theorem append_none_run {w : World} (t ty e : TypeId) (i : TypeInfo) (ht : Tryd.prog.underlying t = some (.slice e)) (hi : Tryd.prog.info? e = some i) (v : Value) (n size base : Nat) (xs : List Value) (hown : w.ownsRow base e size v n xs) (c : Nat) :
    (Builtin.append_ #[t, t] ty #[v, .slice none 0 c]).run Tryd.prog w = .ok v w := by
  rcases hown.2 with ⟨rfl, rfl⟩ | ⟨g, cap, cur, rfl, hbg, hg, hnc, hcm, hcs, htake⟩
  · simp [Builtin.append_, run_underlying ht, sizeOf, typeInfo, hi, Builtin.lenOf, Builtin.firstCells, loadCells, loadCellsFrom]
  · exact run_append_room_src (P := Tryd.prog) w t t ty e i ht hi g 0 n cap (.slice none 0 c) 0 [] (Src.ofNil w ht c) (by omega) (fun j hj => absurd hj (by simp)) (fun j hj => absurd hj (by simp))
/-- append(dst, src...): dst a row of one's own, src whatever list of texts. -/
theorem wpList_append_strs {w : World} {ops : Array Oper} {rest : List Oper} {o : Oper} {a : Act} {Q : Exit → Act → World → Prop} (hgd : o.guard = none) (s x : Operand)
    (ho : o.op = .call { callee := .builtin .append, args := #[s, x], argTypes := #[27, 27] }) (v : Value) (rs : List (List UInt8)) (hs : a.eval s = v) (hown : w.ownsRow 0 9 1 v rs.length (strL rs))
    (A : Option Addr) (c : Nat) (xs : List (List UInt8)) (hx : a.eval x = .slice A xs.length c) (hst : Strs w A xs) (hl : rs.length + xs.length ≤ 1000000)
    (h : ∀ v' w', w'.ownsRow 0 9 1 v' (rs ++ xs).length (strL (rs ++ xs)) → w.grownBy w' v.ownBlock → (v'.ownBlock = v.ownBlock ∨ v'.ownBlock = some w.heap.size) → wpList Tryd.prog ops Q rest (a.put o.dst v') w') :
    wpList Tryd.prog ops Q (o :: rest) a w := by
  obtain ⟨i0, hi, hz0, hz1, hz2⟩ := info_parts info_strs
  match A, hx, hst with
  | some ad, hx, hst =>
    refine wpList_append_own_at (P := Tryd.prog) w hgd s x 27 ho 0 9 i0 _ 1 16 Tryd.underlying27 hi hz0 hz1 hz2 rfl (by omega) v rs.length (strL rs) hs hown ad xs.length c (strL xs) hx (by rw [strL_length, Nat.mul_one]) ?_ ?_ (by simp only [maxLen]; omega) (by omega) (Nat.zero_le _) ?_
    · intro j u hu
      have hj : j < xs.length := by
        rcases Nat.lt_or_ge j xs.length with h1 | h1
        · exact h1
        · rw [List.getElem?_eq_none (by rw [strL_length]; exact h1)] at hu; cases hu
      obtain ⟨b, o', e, _, hc⟩ := hst.at_ (by omega)
      rw [Option.some.inj e, add_at, hc j hj]
      simpa [strL, hj] using hu
    · intro u hu
      simp only [strL, List.mem_map] at hu
      obtain ⟨y, _, rfl⟩ := hu
      rfl
    · intro v' w' h1 h2 _ h4
      refine h v' w' ?_ h2 h4
      rw [strL_append, List.length_append]
      exact h1
  | none, hx, hst =>
    have hxs : xs = [] := by
      rcases Nat.eq_zero_or_pos xs.length with h0 | h0
      · exact List.length_eq_zero_iff.1 h0
      · obtain ⟨b, o', e, _⟩ := hst.at_ h0
        cases e
    subst hxs
    refine wpList_plain hgd fun K hK => ?_
    have hr := append_none_run (w := w) 27 o.type 9 i0 Tryd.underlying27 hi v rs.length 1 0 (strL rs) hown c
    unfold Oper.wp execOp
    simp only [ho, resolve, invoke, builtin, Sem.run_bind, Sem.run_pure, Result.andThen_ok, List.map_toArray, List.map_cons, List.map_nil, hs, hx, List.length_nil, hr]
    exact hK _ _ (h v w (by simpa using hown) ⟨rfl, rfl, rfl, Nat.le_refl _, fun _ _ _ => rfl⟩ (.inl rfl))
section
variable {B : Nat} {w0 w w' : World} {F : List Th} {v v' : Value} {rs ys : List (List UInt8)}
theorem Hp.append (h : Hp B w0 (Th.all (rowT v rs :: F)) w) (hg : w.grownBy w' v.ownBlock) (ho : w'.ownsRow 0 9 1 v' ys.length (strL ys)) (hat : v'.ownBlock = v.ownBlock ∨ v'.ownBlock = some w.heap.size) : Hp B w0 (Th.all (rowT v' ys :: F)) w' := by
  obtain ⟨S, ⟨A2, C, ⟨h1, h1'⟩, h2, h3, h4, h5⟩, h6⟩ := h.look
  have ht : Touch (fun k => v.ownBlock = some k) w w' := (Touch.refl _ w).grown hg fun k hk => .inr hk
  refine Hp.put (w := w) (w1 := w) (w' := w') (R' := rowT v' ys) (S := fun k => v.ownBlock = some k) h.size (Below.refl _ _) h.bel (fun k hk => h6 k (h4 k (h1' k hk))) h2 (fun k hk => h6 k (h5 k hk)) (fun k hk => h3 k (h1' k hk)) ⟨ho, ?_⟩ ht
  intro k hk
  have hlt := (ho.lt k hk).2
  rcases hat with e | e
  · exact .inl (e ▸ hk)
  · refine .inr ⟨?_, hlt⟩
    rw [e] at hk
    injection hk with hk
    omega
end
/-- What filled leaves: no journal. -/
def FillNo (w : World) (e : Ending) (w' : World) : Prop := (∃ d, e = .returned (.tuple #[d, .pointer none, .slice none 0 0])) ∧ Below w.heap.size w w'
/-- What filled leaves: a disk, a journal in order, the records. -/
def FillYes (w : World) (n : Nat) (e : Ending) (w' : World) : Prop :=
  ∃ db jb v J D, e = .returned (.tuple #[.pointer (some ⟨db, 0, none⟩), .pointer (some ⟨jb, 0, none⟩), v]) ∧ Hp w.heap.size w (Th.all [jnT jb db J, diskT db D, rowT v J.recs]) w' ∧ Jr.Right D J ∧ D.al = none ∧ D.q = [] ∧ J.n = n ∧ J.recs.length ≤ 320 ∧ sz J.recs ≤ 6000
set_option maxHeartbeats 800000 in
theorem filled_no (w : World) (hE : Env w) (n : Int) (hn : n < 3) (A : Option Addr) (N c : Nat) : Calls Tryd.prog 10 #[.int .i64 n, .slice A N c] w (FillNo w) := by
  have HE := Lib.hid hE
  by_cases h1 : n < 1
  · have HC := Lib.hid (new_no w n (by omega))
    clear hE hn h1
    go_enter Tryd.func10, Tryd.ntmps10
    go_wp2_with fail
    refine HC.out.mono ?_
    rintro e w1 ⟨rfl, rfl⟩
    go_wp2_with fail
    refine (open_nil _).mono ?_
    rintro e w2 ⟨rfl, hb⟩
    have HB := Lib.hid hb
    clear hb
    go_wp2_with fail
    go_ret3
    exact ⟨⟨_, rfl⟩, HB.out⟩
  · obtain ⟨m, rfl⟩ := Int.eq_ofNat_of_zero_le (show 0 ≤ n by omega)
    have H0 := Lib.hid (c_new (F := []) m (by omega) (by omega) (Hp.start0 w))
    have H1 : Hid (Jr.opn (Dk.new m) = (Dk.new m, none, 1)) := Lib.hid (by
      have hlt : (Dk.new m).st.length < 3 := by simp [Dk.new]; omega
      unfold Jr.opn
      rw [if_neg (by simp [Dk.new]), if_pos hlt])
    have HB := Lib.hid hE.size
    clear hE hn h1
    go_enter Tryd.func10, Tryd.ntmps10
    go_wp2_with fail
    refine H0.out.mono ?_
    rintro e w1 ⟨db, rfl, h1, _⟩
    have HH := Lib.hid h1
    clear h1
    go_wp2_with fail
    refine (c_open_no HH.out HE.out HB.out (by simp [Dk.new]) H1.out).mono ?_
    rintro e w2 ⟨rfl, h2, _⟩
    have HH2 := Lib.hid h2.bel
    clear h2
    go_wp2_with fail
    go_ret3
    exact ⟨⟨_, rfl⟩, HH2.out⟩
/-- Filled, behind k Appends. -/
def FillAt (w : World) (n : Nat) (l : List Op) (db jb : Nat) (v : Value) (k : Nat) (wr : World) : Prop :=
  ∃ J D, Hp w.heap.size w (Th.all [jnT jb db J, diskT db D, rowT v J.recs]) wr ∧ Jr.Right D J ∧ D.al = none ∧ D.q = [] ∧ J.n = n ∧ J.recs.length ≤ 20 * k ∧ sz J.recs ≤ sz (recsOf (l.take k))
set_option maxRecDepth 100000 in
set_option maxHeartbeats 1600000 in
theorem filled_yes (w : World) (hE : Env w) (n : Nat) (h3 : 3 ≤ n) (A : Option Addr) (N c : Nat) (l : List Op) (hl : OpsAt w A N l) (hL : Light (n : Int) l) : Calls Tryd.prog 10 #[.int .i64 (n : Int), .slice A N c] w (FillYes w n) := by
  have h40 : n ≤ 40 := by have := hL.n; omega
  have HE := Lib.hid hE
  have HB := Lib.hid hE.size
  have HL := Lib.hid hl
  have HLT := Lib.hid hL
  have HN := Lib.hid hl.len
  have HN16 : Hid (N ≤ 16) := Lib.hid (by have := hL.len; have := hl.len; omega)
  have H0 := Lib.hid (c_new (F := []) n (by omega) (by omega) (Hp.start0 w))
  have H1 := Lib.hid (Jr.opn_right (Jr.new_right n h3 (by omega)))
  have HR0 := Lib.hid (Jr.new_right n h3 (by omega))
  have H40 := Lib.hid h40
  have hm := hl.max
  clear hE hl hL h3 h40
  go_enter Tryd.func10, Tryd.ntmps10
  go_wp2_with fail
  refine H0.out.mono ?_
  rintro e w1 ⟨db, rfl, h1, _⟩
  have HH := Lib.hid h1
  clear h1 H0
  go_wp2_with fail
  refine (c_open HH.out HE.out HB.out (by simp [Dk.new]) H1.out).mono ?_
  rintro e w2 ⟨jb, v2, rfl, h2, _⟩
  have HH2 : Hid (FillAt w n l db jb (.slice none 0 0) 0 w2) := Lib.hid ⟨_, _, (h2.pick [0, 2, 1] rfl : Hp w.heap.size w (Th.all [jnT jb db _, diskT db _, rowT v2 _]) w2).pick [2, 0, 1] rfl |>.drop |>.addc (Below.refl _ _) (a := rowT (.slice none 0 0) []) ⟨World.ownsRow_nil _ _ _ _, fun k hk => by simp [Value.ownBlock] at hk⟩ |>.pick [1, 2, 0] rfl, HR0.out, rfl, rfl, rfl, Nat.zero_le _, Nat.zero_le _⟩
  clear h2 HH H1 HR0
  go_wp2_with fail
  go_loopw [11, 12] (fun v i wr => ∃ k : Nat, k ≤ N ∧ i = .int .i64 (k : Int) ∧ FillAt w n l db jb v k wr) (fun _ i _ => N - (intOf i).toNat)
  case atStart => exact ⟨0, Nat.zero_le _, rfl, HH2.out⟩
  case round =>
    obtain ⟨k, hk, rfl, J, D, hp, hr, ha, hq, hn, hrl, hrs⟩ := hrel
    have HP := Lib.hid hp
    have HR := Lib.hid hr
    have HA := Lib.hid ha
    have HQ := Lib.hid hq
    have HJN := Lib.hid hn
    have HRL := Lib.hid hrl
    have HRS := Lib.hid hrs
    clear hp hr ha hq hn hrl hrs
    by_cases hlt : k < N
    · obtain ⟨b, o, x, rfl, hbl, hget, hmem, _, c1, _, _, _, hst, hout, _⟩ := HL.out.get HP.out.bel hlt
      have HG := Lib.hid hget
      have HST := Lib.hid hst
      have HOU := Lib.hid hout
      have HONE := Lib.hid (HLT.out.one hmem)
      have hxl : x.list.length ≤ 20 := HONE.out.2.1
      have k0 : (0 : Int) ≤ (k : Int) := by omega
      have k1 : (k : Int) < (N : Int) := by omega
      have hJc := HR.out.c
      obtain ⟨D', J', e1, hr', ha', hn', hcase⟩ := Jr.app_any x.list HR.out HA.out
      have HC := Lib.hid (c_append (c := x.c) HP.out (Below.refl _ _) HE.out HB.out HST.out (fun h0 b o e => .inl (HOU.out h0 b o e)) (by have := HJN.out; have := H40.out; omega) (by have := HJN.out; have := H40.out; omega) (by have := HONE.out.1; omega) (by rw [HQ.out]; simp) (by have := HRL.out; have := HN16.out; omega) e1)
      have HR' := Lib.hid hr'
      have HA' := Lib.hid ha'
      have HN' := Lib.hid hn'
      have HCA := Lib.hid hcase
      clear hget hmem hst hout hr' ha' hn' hcase e1 hJc
      rcases HCA.out with ⟨hno, rfl, rfl⟩ | ⟨hL, hf, hc', hrec, hq'⟩
      · obtain ⟨y, hy, hy0⟩ : ∃ y : Int, (if Jr.long x.list = true then 2 else if J'.n < 2 + J'.c + (Jr.pieces (Jr.text x.list)).length then 29 else 0) = y ∧ (y == 0) = false := by
          refine ⟨_, rfl, ?_⟩
          by_cases h1 : Jr.long x.list = true
          · rw [if_pos h1]; rfl
          · rw [if_neg h1, if_pos (hno.resolve_left h1)]; rfl
        rw [hy] at HC
        clear hy hno
        go_wp2_with fail
        refine HC.out.mono ?_
        rintro e w3 ⟨rfl, h3, _⟩
        have HP3 := Lib.hid h3
        clear h3 HC
        go_wp2_with fail
        go_roundw
        case rel => exact ⟨k + 1, by omega, by go_num, J', D', HP3.out, HR.out, HA.out, HQ.out, HJN.out, by have := HRL.out; omega, Nat.le_trans HRS.out (by rw [take_snoc HG.out, recsOf_snoc, sz_append]; omega)⟩
        case measure => simp [intOf]; omega
      · have hy : (if Jr.long x.list = true then (2 : Int) else if J.n < 2 + J.c + (Jr.pieces (Jr.text x.list)).length then 29 else 0) = 0 := by
          rw [if_neg (by rw [hL]; simp), if_neg (by omega)]
        rw [hy] at HC
        have HREC := Lib.hid hrec
        have HQ' := Lib.hid (hq' HQ.out)
        clear hy hL hf hc' hrec hq'
        go_wp2_with fail
        refine HC.out.mono ?_
        rintro e w3 ⟨rfl, h3, _⟩
        have HP3 : Hid (Hp w.heap.size w (Th.all [rowT u11 J.recs, jnT jb db J', diskT db D']) w3) := Lib.hid (h3.pick [2, 0, 1] rfl)
        have d1 := (HL.out.get HP3.out.bel hlt)
        obtain ⟨b', o', x', he', hbl3, hget', _, _, c13, _, _, _, hst3, _⟩ := d1
        injection he' with he'
        injection he' with he1 he2
        subst he1
        subst he2
        have hxx := HG.out
        rw [hget'] at hxx
        injection hxx with hxx
        subst hxx
        have HST3 := Lib.hid hst3
        have HGX := Lib.hid hget'
        have HLEN : Hid (J.recs.length + x'.list.length ≤ 1000000) := Lib.hid (by have := HRL.out; have := HN16.out; omega)
        clear h3 HC c1 hst3 hget'
        go_wp2_with (at_builtin; (refine wpList_append_strs rfl (.tmp 38) (.tmp 43) rfl u11 J.recs rfl HP3.out.row.1 x'.A x'.c x'.list rfl HST3.out HLEN.out ?_); intro v4 w4 hown4 hg4 hat4; have HP4 := Lib.hid (HP3.out.append hg4 hown4 hat4); clear hown4 hg4 hat4)
        have hfin : FillAt w n l db jb v4 (k + 1) w4 := by
          refine ⟨J', D', ?_, HR'.out, HA'.out, HQ'.out, HN'.out.trans HJN.out, ?_, ?_⟩
          · have h := HP4.out
            rw [← HREC.out] at h
            exact h.pick [1, 2, 0] rfl
          · rw [HREC.out, List.length_append]; have := HRL.out; omega
          · rw [HREC.out, sz_append, take_snoc HGX.out, recsOf_snoc, sz_append]; have := HRS.out; omega
        exact ⟨⟨k + 1, by omega, by go_num, hfin⟩, by simp [intOf]; omega⟩
    · obtain rfl : k = N := by omega
      have HF : Hid (J.recs.length ≤ 320 ∧ sz J.recs ≤ 6000) := Lib.hid (by
        have h1 := HRS.out
        rw [List.take_of_length_le (Nat.le_of_eq HN.out)] at h1
        exact ⟨by have := HRL.out; have := HN16.out; omega, Nat.le_trans h1 HLT.out.size⟩)
      clear hlt hk
      go_wp2_with fail
      go_ret3
      exact ⟨db, jb, _, J, D, rfl, HP.out, HR.out, HA.out, HQ.out, HJN.out, HF.out⟩
end Go.Proofs.YthhkadeiplbdkaaDoor
