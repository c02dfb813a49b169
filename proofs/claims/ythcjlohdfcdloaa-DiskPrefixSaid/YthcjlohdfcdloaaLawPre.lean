/- prefix: the contents behind the first writes. -/
import Derived.Test.YthcjlohdfcdloaaLawReads
set_option linter.unusedVariables false
set_option linter.unusedSimpArgs false
namespace Go.Proofs.Ythcjlohdfcdloaa
open Go.RowKit

namespace Dk
theorem wrs_append (D : Dk) (a b : List Ac) : D.wrs (a ++ b) = (D.wrs a).wrs b := by simp [wrs, List.foldl_append]
theorem wrs_ext (l : List Ac) : ∀ {D : Dk}, D.Plain → ∃ e, (D.wrs l).q = D.q ++ e := by
  induction l with
  | nil => intro D h; exact ⟨[], by simp [wrs]⟩
  | cons a l ih =>
    intro D h
    obtain ⟨e, he⟩ := ih (write_plain_keep h a.sector a.txt).1
    have hw := write_plain h a.sector a.txt
    show ∃ e, ((D.write a.sector a.txt).1.wrs l).q = _
    rw [he, hw]
    split
    · exact ⟨(a.sector.toNat, a.txt) :: e, by simp⟩
    · exact ⟨e, rfl⟩
theorem wrs_q_take (l : List Ac) {D : Dk} (h : D.Plain) (k : Nat) : (D.wrs (l.take k)).q = (D.wrs l).q.take (D.wrs (l.take k)).q.length := by
  obtain ⟨e, he⟩ := wrs_ext (l.drop k) (wrs_plain (l.take k) h).1
  rw [← wrs_append, List.take_append_drop] at he
  rw [he, List.take_left]
theorem str_toList (s : ByteArray) : str s.data.toList = s := by cases s; rfl
theorem find_settle (st : List (List UInt8)) (i : Nat) (hs : ∀ s ∈ st, s.length = 64) (hi : i < st.length) : ∀ r : List (Nat × ByteArray), (∀ p ∈ r, p.1 < st.length ∧ p.2.size = 64) →
    (match r.find? (fun p => p.1 == i) with | some p => p.2 | none => str (st.getD i [])) = str ((settle st r.reverse).getD i []) := by
  intro r
  induction r with
  | nil => intro _; rfl
  | cons p r ih =>
    intro hr
    have ih := ih fun x hx => hr x (by simp [hx])
    have hp := hr p (by simp)
    rw [List.reverse_cons, settle_snoc, List.find?_cons]
    by_cases e : p.1 = i
    · rw [beq_iff_eq.2 e]
      simp only
      subst e
      have hl : p.1 < (settle st r.reverse).length := by rw [settle_length]; exact hi
      have h64 : ((settle st r.reverse).getD p.1 []).length = 64 := by
        refine getD_len (settle_sec _ _ hs fun x hx => hr x (by simp at hx; simp [hx])) hl
      unfold put
      rw [List.getD_eq_getElem?_getD, List.getElem?_set_self hl, Option.getD_some]
      unfold over
      rw [List.drop_eq_nil_of_le (by rw [h64, data_len]; omega), List.append_nil, str_toList]
    · rw [show (p.1 == i) = false from by simpa using e]
      simp only
      rw [put_keep _ _ e]
      exact ih
theorem cur_settle (D : Dk) (hI : D.Inv) {i : Nat} (hi : i < D.st.length) : D.cur i = str ((settle D.st D.q).getD i []) := by
  have h := find_settle D.st i hI.sec hi D.q.reverse fun p hp => hI.pend p (by simpa using hp)
  rw [List.reverse_reverse] at h
  exact h
theorem put_self (st : List (List UInt8)) {i : Nat} (bs : List UInt8) (h : i < st.length) : (put st i bs).getD i [] = over bs (st.getD i []) := by
  unfold put
  rw [List.getD_eq_getElem?_getD, List.getElem?_set_self h, Option.getD_some]
theorem str_append (a b : List UInt8) : str (a ++ b) = str a ++ str b := by
  apply ByteArray.ext
  simp [str]
theorem str_extract (l : List UInt8) (a b : Nat) : (str l).extract a b = str ((l.take b).drop a) := by
  apply ByteArray.ext
  apply Array.ext'
  simp [str, List.drop_take]

/-- What DiskPrefix compares: the disk that failed, and the one with just the first writes. -/
theorem prefix_none {D : Dk} (h : D.Plain) (hq : D.q = []) (hI : D.Inv) (l : List Ac) (W b : Nat) {E : Dk} (hE : E.Plain ∧ E.st = D.st) (hEI : E.Inv) (hEq : E.q = (D.wrs l).q.take W) (hlen : (D.wrs l).q.length ≤ W) :
    curs ((D.wrs l).fail (W : Int) (b : Int)).start = curs E := by
  have h1 := wrs_plain l h
  rw [fail_start h1.1.1]
  unfold curs
  simp only
  rw [failSt_length, h1.2, hE.2]
  apply List.map_congr_left
  intro i hi
  rw [List.mem_range] at hi
  rw [cur_quiet _ rfl, cur_settle E hEI (by rw [hE.2]; exact hi)]
  simp only
  unfold failSt clamp
  rw [show min (W : Int).toNat (D.wrs l).q.length = (D.wrs l).q.length from by rw [Int.toNat_natCast]; omega]
  rw [List.getElem?_eq_none (Nat.le_refl _)]
  simp only
  rw [hEq, hE.2, h1.2, List.take_of_length_le (Nat.le_refl _), List.take_of_length_le hlen]
theorem prefix_some {D : Dk} (h : D.Plain) (hq : D.q = []) (hI : D.Inv) (l : List Ac) (W b : Nat) (hb : b ≤ 32) {E : Dk} (hE : E.Plain ∧ E.st = D.st) (hEI : E.Inv) (hEq : E.q = (D.wrs l).q.take W) (i : Nat) (s : ByteArray) (hs : s.size = 64) (hi : i < D.st.length) (hp : (D.wrs l).q[W]? = some (i, s)) :
    curs ((D.wrs l).fail (W : Int) (b : Int)).start = (curs E).set i (s.extract 0 b ++ (E.cur i).extract b 64) := by
  have h1 := wrs_plain l h
  have hlt : W < (D.wrs l).q.length := (List.getElem?_eq_some_iff.1 hp).1
  rw [fail_start h1.1.1]
  unfold curs
  simp only
  rw [failSt_length, h1.2, hE.2]
  have hset : (settle D.st E.q).length = D.st.length := settle_length _ _
  have h64 : ((settle D.st E.q).getD i []).length = 64 := by
    refine getD_len (settle_sec _ _ hI.sec fun x hx => ?_) (by rw [hset]; exact hi)
    have := hEI.pend x hx
    rw [hE.2] at this; exact this
  apply List.ext_getElem
  · simp
  · intro j hj1 hj2
    simp only [List.length_map, List.length_range] at hj1
    rw [List.getElem_map, List.getElem_range, List.getElem_set, cur_quiet _ rfl]
    simp only
    have hf : (D.wrs l).failSt (W : Int) (b : Int) = put (settle D.st E.q) i (s.data.toList.take b) := by
      unfold failSt clamp
      rw [show min (W : Int).toNat (D.wrs l).q.length = W from by rw [Int.toNat_natCast]; omega, hp, show min (b : Int).toNat 64 = b from by rw [Int.toNat_natCast]; omega]
      simp only
      rw [h1.2, hEq]
    rw [hf]
    by_cases e : i = j
    · subst e
      rw [if_pos rfl, put_self _ _ (by rw [hset]; exact hi), cur_settle E hEI (by rw [hE.2]; exact hi), hE.2, str_extract]
      unfold over
      rw [str_append]
      rw [List.length_take, data_len, hs, show min b 64 = b by omega, List.take_of_length_le (by rw [h64]; omega : _ ≤ 64)]
      congr 1
      rw [← str_toList s, str_extract, str_toList, List.drop_zero]
    · rw [if_neg e, put_keep _ _ e, List.getElem_map, List.getElem_range, cur_settle E hEI (by rw [hE.2]; exact hj1), hE.2]
end Dk

/-- What prefix leaves: the contents behind the first writes that succeed. -/
def PreRow (w : World) (D1 : Dk) (l : List Ac) (W N : Nat) (e : Ending) (w' : World) : Prop :=
  ∃ j, ((D1.wrs (l.take j)).q.length = W ∨ (j = l.length ∧ (D1.wrs (l.take j)).q.length ≤ W)) ∧ (D1.wrs (l.take j)).Inv ∧ ContRow w (D1.wrs (l.take j)) N e w'
theorem PreRow.mk_ {w w1 w' : World} {D1 : Dk} {l : List Ac} {W N j : Nat} {e : Ending} (h : (D1.wrs (l.take j)).q.length = W ∨ (j = l.length ∧ (D1.wrs (l.take j)).q.length ≤ W)) (hI : (D1.wrs (l.take j)).Inv) (hb : Below w.heap.size w w1) (hc : ContRow w1 (D1.wrs (l.take j)) N e w') : PreRow w D1 l W N e w' := by
  obtain ⟨g, c, rfl, hg, hcell, hown, hb2⟩ := hc
  exact ⟨j, h, hI, g, c, rfl, ⟨Nat.le_trans hb.size hg.1, hg.2⟩, hcell, hown, bthen hb hb.size hb2⟩
def PreRel (w0 : World) (db : Nat) (D1 : Dk) (l : List Ac) (W k d : Nat) (w : World) : Prop :=
  Lone (fun _ => False) w0.heap.size w0 db (D1.wrs (l.take k)) w ∧ (D1.wrs (l.take k)).q.length = d ∧ d ≤ W
theorem PreRel.mk_ {w0 w : World} {db : Nat} {D1 : Dk} {l : List Ac} {W k d' : Nat} {a : Ac} (h : Lone (fun _ => False) w0.heap.size w0 db ((D1.wrs (l.take k)).write a.sector a.txt).1 w) (hget : l[k]? = some a) (hq : ((D1.wrs (l.take k)).write a.sector a.txt).1.q.length = d') (hd : d' ≤ W) : PreRel w0 db D1 l W (k + 1) d' w := by
  unfold PreRel
  rw [Dk.wrs_take _ _ _ _ hget]
  exact ⟨h, hq, hd⟩

set_option maxRecDepth 100000 in
set_option maxHeartbeats 1000000 in
theorem prefix_any (w : World) (N : Nat) (hN1 : 1 ≤ N) (hN2 : N ≤ 12) (A1 : Option Addr) (n1 c1 : Nat) (l1 : List Ac) (hl1 : ActsAt w A1 n1 l1) (A2 : Option Addr) (n2 c2 : Nat) (l2 : List Ac) (hl2 : ActsAt w A2 n2 l2) (W : Nat) (hW : W ≤ 60) (hk_l1 : okA l1 = true) (hk_l2 : okA l2 = true) (D1 : Dk) (hD1 : D1 = ((Dk.new N).run l1).start.sync.1) :
    Calls Try.prog 26 #[.int .i64 (N : Int), .slice A1 n1 c1, .slice A2 n2 c2, .int .i64 (W : Int)] w (PreRow w D1 l2 W N) := by
  have hn1 : n1 ≤ 60 := by have := okA_len hk_l1; rw [hl1.len] at this; exact this
  have hn2 : n2 ≤ 60 := by have := okA_len hk_l2; rw [hl2.len] at this; exact this
  have HL1 := Lib.hid hl1
  have HL2 := Lib.hid hl2
  have HQ1 := Lib.hid (show ∀ k, ((Dk.new N).run (l1.take k)).q.length < 1000000 from fun k => by
    have h := Dk.run_q (l1.take k) (Dk.new N)
    have h2 := List.length_take_le' k l1
    have h3 := okA_len hk_l1
    simp only [Dk.new, List.length_nil] at h
    exact Nat.lt_of_le_of_lt h (by omega))
  have HD1 := Lib.hid hD1
  clear hl1 hl2 hk_l1 hk_l2 hD1
  go_enter Try.func26, Try.ntmps26
  go_wp2_with fail
  refine (new_bound w N hN1 (by omega)).mono ?_
  rintro e w2 ⟨rfl, hd, hb⟩
  have HD := Lib.hid (Lone.new hd (Below.refl _ _) (Nat.le_refl _) hb)
  clear hd hb
  obtain ⟨db, hdb⟩ : ∃ db, db = w.heap.size + 1 := ⟨_, rfl⟩
  rw [← hdb] at HD ⊢
  clear hdb
  go_wp2_with fail
  go_loopw [11] (fun i wr => ∃ k : Nat, k ≤ n1 ∧ i = .int .i64 (k : Int) ∧ Lone (fun _ => False) w.heap.size w db ((Dk.new N).run (l1.take k)) wr) (fun i _ => n1 - (intOf i).toNat)
  case atStart => exact ⟨0, Nat.zero_le _, rfl, HD.out⟩
  case round =>
    obtain ⟨k, hk, rfl, hrel⟩ := hrel
    have HR := Lib.hid hrel
    clear hrel
    by_cases hlt : k < n1
    · obtain ⟨b, o, kind, sector, bytes, t, odd, after, rfl, hbl, hget, hwf, a0, a1, a2, a3, a4, a5⟩ := HL1.out.get HR.out.bel hlt
      have HC := Lib.hid (HR.out.step (fun S hS => do_any wr S _ _ ⟨kind, sector, bytes, t, odd, after⟩ hwf hS (HQ1.out k)))
      have HG := Lib.hid hget
      clear hget hwf
      unfold Ac.cells at HC
      simp only at HC
      go_wp2_with fail
      refine HC.out.mono ?_
      intro e w2 hp
      obtain ⟨rfl, hl, hg, hs⟩ := hp
      have HL2 := Lib.hid hl
      clear hl hg hs HC
      go_wp2
      go_roundw
      case rel => exact ⟨k + 1, by omega, by go_num, by rw [Dk.run_take _ _ _ _ HG.out]; exact HL2.out⟩
      case measure => simp [intOf]; omega
    · obtain rfl : k = n1 := by omega
      have e1 : (Dk.new N).run (l1.take k) = (Dk.new N).run l1 := by rw [List.take_of_length_le (by rw [HL1.out.len]; omega)]
      rw [e1] at HR
      clear hlt hk e1 HD
      obtain ⟨D0, hD0⟩ : ∃ D0, D0 = (Dk.new N).run l1 := ⟨_, rfl⟩
      rw [← hD0] at HR
      have HN0 := Lib.hid (show D0.st.length = N by rw [hD0, Dk.run_n]; simp [Dk.new])
      have HQ0 := Lib.hid (show D0.q.length ≤ 60 by
        have h := Dk.run_q l1 (Dk.new N)
        rw [← hD0] at h
        simp only [Dk.new, List.length_nil] at h
        have := HL1.out.len
        omega)
      have HD0 := Lib.hid hD0
      clear hD0
      go_wp2_with fail
      refine (HR.out.step (fun S hS => start_c _ S _ _ hS)).mono ?_
      intro e w3 hp
      obtain ⟨rfl, hl, hg, hs⟩ := hp
      have HL3 := Lib.hid hl
      clear hl hg hs
      go_wp2_with fail
      refine (HL3.out.step (fun S hS => sync_any w3 S _ _ hS (Nat.le_trans HQ0.out (by omega)))).mono ?_
      intro e w4 hp
      rw [Dk.start_sync] at hp
      simp only at hp
      obtain ⟨rfl, hl, hg, hs⟩ := hp
      have HL4 := Lib.hid hl
      clear hl hg hs
      have hD1 := HD1.out
      rw [← HD0.out, Dk.start_sync] at hD1
      simp only at hD1
      rw [← hD1] at HL4
      have hp1 : D1.Plain := by rw [hD1]; exact ⟨rfl, rfl⟩
      have hq1 : D1.q = [] := by rw [hD1]
      have hN1' : D1.st.length = N := by rw [hD1, ← HN0.out]; exact Dk.settle_length _ _
      have HP1 := Lib.hid hp1
      have HN1 := Lib.hid hN1'
      have HE1 := Lib.hid hq1
      have HW2 := Lib.hid (show ∀ k, (D1.wrs (l2.take k)).q.length < 1000000 from fun k => by
        have h := Dk.wrs_q (l2.take k) D1
        have h2 := List.length_take_le' k l2
        rw [HL2.out.len] at h2
        rw [hq1] at h
        simp only [List.length_nil] at h
        omega)
      clear hD1 HD1 HD0 hp1 hq1 hN1' HL3 HQ0 HN0 HR
      go_wp2_with fail
      go_loopw [12, 13] (fun v i wr => ∃ k d : Nat, k ≤ n2 ∧ d ≤ W ∧ i = .int .i64 (k : Int) ∧ v = .int .i64 (d : Int) ∧ PreRel w db D1 l2 W k d wr) (fun _ i _ => n2 - (intOf i).toNat)
      case atStart => exact ⟨0, 0, Nat.zero_le _, Nat.zero_le _, rfl, rfl, HL4.out, by show D1.q.length = 0; rw [HE1.out]; rfl, Nat.zero_le _⟩
      case round =>
        obtain ⟨k, d, hk, hdW, rfl, rfl, hrel⟩ := hrel
        have HR := Lib.hid hrel
        clear hrel
        by_cases hlt : k < n2
        · by_cases hdw : d < W
          · obtain ⟨b, o, kind, sector, bytes, t, odd, after, rfl, hbl, hget, hwf, a0, a1, a2, a3, a4, a5⟩ := HL2.out.get HR.out.1.bel hlt
            have HG := Lib.hid hget
            have HT := Lib.hid (fun W => text_any W ⟨kind, sector, bytes, t, odd, after⟩ hwf.2.2.2.1)
            have hss := txt_size ⟨kind, sector, bytes, t, odd, after⟩ hwf
            obtain ⟨s, hs⟩ : ∃ s, Ac.txt ⟨kind, sector, bytes, t, odd, after⟩ = s := ⟨_, rfl⟩
            have HS := Lib.hid hs
            rw [hs] at HT hss
            unfold Ac.cells at HT
            simp only at HT
            have HSS := Lib.hid hss
            have HRD := Lib.hid (HR.out.1.below ((Below.refl _ _).drew))
            have hbl2 := hbl.2
            have hpl := Dk.wrs_plain (l2.take k) HP1.out
            have hw := Dk.write_plain hpl.1 sector s
            clear hget hs hss hwf hbl
            by_cases hv : (D1.wrs (l2.take k)).valid sector = true ∧ s.size = 64
            · rw [if_pos hv] at hw
              have HWE := Lib.hid hw
              have HWQ := Lib.hid (show ((D1.wrs (l2.take k)).write sector s).1.q.length = d + 1 from by rw [hw]; have := HR.out.2.1; simp [this])
              clear hv hw hpl
              go_upto_region 12 with (fail)
              go_cut [55] (fun v wc => v = .bool true ∧ Lone (fun _ => False) w.heap.size w db ((D1.wrs (l2.take k)).write sector s).1 wc)
              case first =>
                go_region_with (first
                  | (go_at_call 24; refine (HT.out _).mono ?_; rintro e w7 ⟨rfl, hb⟩; have HB7 := Lib.hid hb; have b1 := (hb.cell (p := ⟨b, o + k * 6 + 1, none⟩) hbl2).trans a1; clear hb)
                  | (go_at_call 23; refine ((HRD.out.below HB7.out).step (fun S hS => write_any _ S _ _ sector s hS HSS.out (HW2.out k))).mono ?_; intro e w8 hp; obtain ⟨rfl, hl, hgk, hsz⟩ := hp; have hwz := congrArg Prod.snd HWE.out; simp only at hwz; rw [hwz]; have HL8 := Lib.hid hl; clear hl hgk hsz hwz))
                all_goals
                  go_wp2_with fail
                  go_meet
                  exact ⟨rfl, HL8.out⟩
              case rest =>
                obtain ⟨rfl, hcl⟩ := hcut
                have HCL := Lib.hid hcl
                clear hcl a0 a1 a2 a3 a4 a5
                go_wp2
                go_roundw
                case rel => exact ⟨k + 1, d + 1, by omega, by omega, by go_num, by go_num, PreRel.mk_ (a := ⟨kind, sector, bytes, t, odd, after⟩) (by rw [HS.out]; exact HCL.out) HG.out (by rw [HS.out]; exact HWQ.out) (by omega)⟩
                case measure => simp [intOf]; omega
            · rw [if_neg hv] at hw
              have HWE := Lib.hid hw
              have HWQ := Lib.hid (show ((D1.wrs (l2.take k)).write sector s).1.q.length = d from by rw [hw]; have := HR.out.2.1; simp [this])
              clear hv hw hpl
              go_upto_region 12 with (fail)
              go_cut [55] (fun v wc => v = .bool false ∧ Lone (fun _ => False) w.heap.size w db ((D1.wrs (l2.take k)).write sector s).1 wc)
              case first =>
                go_region_with (first
                  | (go_at_call 24; refine (HT.out _).mono ?_; rintro e w7 ⟨rfl, hb⟩; have HB7 := Lib.hid hb; have b1 := (hb.cell (p := ⟨b, o + k * 6 + 1, none⟩) hbl2).trans a1; clear hb)
                  | (go_at_call 23; refine ((HRD.out.below HB7.out).step (fun S hS => write_any _ S _ _ sector s hS HSS.out (HW2.out k))).mono ?_; intro e w8 hp; obtain ⟨rfl, hl, hgk, hsz⟩ := hp; have hwz := congrArg Prod.snd HWE.out; simp only at hwz; rw [hwz]; have HL8 := Lib.hid hl; clear hl hgk hsz hwz))
                all_goals
                  go_wp2_with fail
                  go_meet
                  exact ⟨rfl, HL8.out⟩
              case rest =>
                obtain ⟨rfl, hcl⟩ := hcut
                have HCL := Lib.hid hcl
                clear hcl a0 a1 a2 a3 a4 a5
                go_wp2
                go_roundw
                case rel => exact ⟨k + 1, d, by omega, by omega, by go_num, by go_num, PreRel.mk_ (a := ⟨kind, sector, bytes, t, odd, after⟩) (by rw [HS.out]; exact HCL.out) HG.out (by rw [HS.out]; exact HWQ.out) (by omega)⟩
                case measure => simp [intOf]; omega
          · clear hk
            have hpl := Dk.wrs_plain (l2.take k) HP1.out
            have HPL := Lib.hid hpl
            have HNL := Lib.hid (show N = (D1.wrs (l2.take k)).st.length by rw [hpl.2, HN1.out])
            clear hpl
            go_wp2_with fail
            refine (HR.out.1.look (fun S hS => contents_row wr S _ _ hS HPL.out.1.1 (Nat.le_of_lt (HW2.out k)) N HNL.out)).mono ?_
            intro e w8 hp
            have HPR := Lib.hid (show PreRow w D1 l2 W N e w8 from PreRow.mk_ (j := k) (.inl (by have h1 := HR.out.2.1; have h2 := HR.out.2.2; omega)) HR.out.1.inv HR.out.1.bel hp)
            obtain ⟨g, c8, rfl, hp'⟩ := hp
            clear hp'
            go_wp2
            go_ret2
            exact HPR.out
        · clear hdW
          have hpl := Dk.wrs_plain (l2.take k) HP1.out
          have HPL := Lib.hid hpl
          have HNL := Lib.hid (show N = (D1.wrs (l2.take k)).st.length by rw [hpl.2, HN1.out])
          clear hpl
          go_wp2_with fail
          refine (HR.out.1.look (fun S hS => contents_row wr S _ _ hS HPL.out.1.1 (Nat.le_of_lt (HW2.out k)) N HNL.out)).mono ?_
          intro e w8 hp
          have HPR := Lib.hid (show PreRow w D1 l2 W N e w8 from PreRow.mk_ (j := k) (.inr ⟨by rw [HL2.out.len]; omega, by rw [HR.out.2.1]; exact HR.out.2.2⟩) HR.out.1.inv HR.out.1.bel hp)
          obtain ⟨g, c8, rfl, hp'⟩ := hp
          clear hp'
          go_wp2
          go_ret2
          exact HPR.out
end Go.Proofs.Ythcjlohdfcdloaa
