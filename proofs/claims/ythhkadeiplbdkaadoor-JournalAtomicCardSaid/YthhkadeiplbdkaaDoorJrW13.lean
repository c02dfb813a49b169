/- Walks of the journal's functions, part 13: Append where it writes. -/
import Derived.Test.YthhkadeiplbdkaaDoorJrW12
set_option linter.unusedVariables false
set_option linter.unusedSimpArgs false
namespace Go.Proofs.YthhkadeiplbdkaaDoor
open Go.RowKit


set_option maxRecDepth 100000 in
set_option maxHeartbeats 3200000 in
theorem append_main (w : World) (S : Nat → Prop) (jb db : Nat) (D : Dk) (J : Jn) (v : Value) (A : Option Addr) (c : Nat) (xs : List (List UInt8)) (h : AppPre w jb db J v A xs)
    (hD : DiskAt w S db D) (hS : ∀ k, S k → nG ≤ k ∧ k < w.heap.size ∧ k ≠ jb ∧ v.ownBlock ≠ some k) (hrow : w.ownsRow 0 9 1 v J.recs.length (strL J.recs))
    (hA : ∀ b o, A = some ⟨b, o, none⟩ → ¬ S b ∧ b ≠ jb ∧ v.ownBlock ≠ some b) (hq : D.q.length ≤ 100000) (hrl : J.recs.length ≤ 100000) (hL : Jr.long xs = false)
    (hf : ¬ J.n < 2 + J.c + (Jr.pieces (Jr.text xs)).length) (h0 : 0 < xs.length) :
    Calls Tryd.prog 18 #[.pointer (some ⟨jb, 0, none⟩), .slice A xs.length c] w (AppPost S w jb db v (Jr.app D J xs)) := by
  have HD := Lib.hid hD
  have HSS := Lib.hid hS
  have HROW := Lib.hid hrow
  have HAA := Lib.hid hA
  have HQ := Lib.hid hq
  have HRL := Lib.hid hrl
  have HAPP : Hid (Jr.app D J xs = if (Jr.jobs D (Jr.todo J (Jr.pieces (Jr.text xs)))).2 = 0 then ((Jr.jobs D (Jr.todo J (Jr.pieces (Jr.text xs)))).1, { J with c := J.c + (Jr.pieces (Jr.text xs)).length, recs := J.recs ++ xs }, 0) else ((Jr.jobs D (Jr.todo J (Jr.pieces (Jr.text xs)))).1, { J with br := true }, (Jr.jobs D (Jr.todo J (Jr.pieces (Jr.text xs)))).2)) := by
    refine Lib.hid ?_
    have hx0 : xs ≠ [] := List.length_pos_iff.1 h0
    unfold Jr.app
    rw [if_neg (by rw [h.on]; simp), if_neg (by rw [hL]; simp), if_neg hf, if_neg hx0]
    simp only [Jr.steps_jobs]
  clear hD hS hrow hA hq hrl
  have h4 := h.job.cell 4
  rw [h.on] at h4
  have hlt := h.job.lt
  have HP := Lib.hid h
  have hb0 := appW_below w jb 0
  have hE1 := h.env.new hb0
  have HC := Lib.hid (containsLong_any (appW w jb 0) A c xs (h.list.new hb0) fun x hx => by have := text_mem hx; have := h.text; omega)
  rw [hL] at HC
  have HT := Lib.hid (text_any' (appW w jb 0) hE1 A c xs (h.list.new hb0) (by have := h.text; omega))
  have hlen := h.list.len
  obtain ⟨N, hN⟩ : ∃ N, xs.length = N := ⟨_, rfl⟩
  have HN := Lib.hid hN
  rw [hN] at HC HT hlen ⊢
  obtain ⟨t, ht⟩ : ∃ t, Jr.text xs = t := ⟨_, rfl⟩
  have HTX := Lib.hid ht
  have htl := h.text
  rw [ht] at HT htl hf
  have HTL := Lib.hid htl
  have HS := Lib.hid (fun w' => split_any w' t (by have := HTL.out; omega))
  have hpl : (Jr.pieces t).length = (t.length + 45) / 46 := by simp [Jr.pieces]
  have hps : (Jr.pieces t).length ≤ 100000 := by omega
  obtain ⟨ts, hts⟩ : ∃ ts, Dk.str t = ts := ⟨_, rfl⟩
  rw [hts] at HT HS
  unfold appW at HC HT
  have hn1 := h.n
  have hc1 := h.c
  clear h hL hE1 hb0 hN ht htl hts hpl
  obtain ⟨ps, hpe⟩ : ∃ ps, Jr.pieces t = ps := ⟨_, rfl⟩
  have HPE := Lib.hid hpe
  rw [hpe] at hps hf
  clear hpe
  obtain ⟨M, hM⟩ : ∃ M, ps.length = M := ⟨_, rfl⟩
  have HM := Lib.hid hM
  rw [hM] at hps hf
  clear hM
  have hf2 : (M : Int) ≤ (J.n : Int) - 2 - (J.c : Int) := by omega
  have hN0 : 0 < N := by have := HN.out; omega
  go_enter_defers Tryd.func18, Tryd.ntmps18
  go_wp2_with fail
  refine HC.out.mono ?_
  rintro e w1 ⟨rfl, hw1⟩
  have HW1 := Lib.hid hw1
  clear hw1 HC
  rw [← HW1.out] at HT
  go_wp2_with fail
  refine HT.out.mono ?_
  rintro e w2 ⟨rfl, hb2⟩
  have HB1 : Hid (Below w.heap.size w w1) := Lib.hid (by rw [HW1.out]; exact appW_below w jb 0)
  have HZ1 : Hid (w1.heap.size = w.heap.size + 2) := Lib.hid (by rw [HW1.out]; exact appW_size w jb 0)
  have HB2 := Lib.hid (bthen HB1.out HB1.out.size hb2)
  have hbp := (by rw [HW1.out]; exact appW_ptr w jb 0 : Blk w1 _ _ _)
  have hbe := (by rw [HW1.out]; exact appW_err w jb 0 : Blk w1 _ _ _)
  have HBP2 := Lib.hid ((Touch.of_new (S := fun _ => False) hb2).blk hbp id)
  have HBE2 := Lib.hid ((Touch.of_new (S := fun _ => False) hb2).blk hbe id)
  have HZ2 : Hid (w.heap.size + 2 ≤ w2.heap.size) := Lib.hid (by have := hb2.size; have := HZ1.out; omega)
  clear hb2 hbp hbe HT
  go_wp2_with fail
  refine (HS.out w2).mono ?_
  rintro e w3 ⟨V, rfl, hown, hb3⟩
  have HB3 := Lib.hid (bthen HB2.out HB2.out.size hb3)
  have HBP3 := Lib.hid ((Touch.of_new (S := fun _ => False) hb3).blk HBP2.out id)
  have HBE3 := Lib.hid ((Touch.of_new (S := fun _ => False) hb3).blk HBE2.out id)
  have HZ3 : Hid (w2.heap.size ≤ w3.heap.size) := Lib.hid hb3.size
  rw [HPE.out, HM.out] at hown
  have HV := Lib.hid hown
  obtain ⟨vA, vc, rfl⟩ : ∃ vA vc, V = .slice vA M vc := by
    rcases hown.2 with ⟨rfl, h0⟩ | ⟨g, cap, cur, rfl, _⟩
    · exact ⟨none, 0, by rw [h0]⟩
    · exact ⟨_, _, rfl⟩
  clear hb3 hown HS
  have HJ3 := Lib.hid ((Touch.of_new (S := fun _ => False) (w := w) HB3.out).blk HP.out.job id)
  have hp3 : w3.cell? ⟨w.heap.size, 0, none⟩ = some (.pointer (some ⟨jb, 0, none⟩)) := HBP3.out.cell 0
  have he3 := HBE3.out.cell 0
  have fe3 := HBE3.out.frozen 0
  have le3 := HBE3.out.lt
  have lp3 := HBP3.out.lt
  have lj3 := HJ3.out.lt
  have HR := Lib.hid (room_any w3 jb db J.n J.c v J.br (by omega) (by omega) HJ3.out)
  go_wp2_with fail
  refine HR.out.mono ?_
  rintro e w4 ⟨rfl, hb4⟩
  have HB4 := Lib.hid (bthen HB3.out HB3.out.size hb4)
  have HBP4 := Lib.hid ((Touch.of_new (S := fun _ => False) hb4).blk HBP3.out id)
  have HBE4 := Lib.hid ((Touch.of_new (S := fun _ => False) hb4).blk HBE3.out id)
  have HV4 := Lib.hid ((Touch.of_new (S := fun _ => False) hb4).own HV.out (fun _ _ => id))
  have HJ4 := Lib.hid ((Touch.of_new (S := fun _ => False) hb4).blk HJ3.out id)
  have HZ4 : Hid (w3.heap.size ≤ w4.heap.size) := Lib.hid hb4.size
  clear hb4 hp3 he3 fe3 le3 lp3 lj3 HR
  have hp4 : w4.cell? ⟨w.heap.size, 0, none⟩ = some (.pointer (some ⟨jb, 0, none⟩)) := HBP4.out.cell 0
  have he4 := HBE4.out.cell 0
  have fe4 := HBE4.out.frozen 0
  have le4 := HBE4.out.lt
  have lp4 := HBP4.out.lt
  have hmf : ∀ (fn : Fn) (first cap : Array Value) (w : World), (Instr.makeFunc fn first cap).run Tryd.prog w = .ok (.func fn first cap) w := fun _ _ _ _ => rfl
  have hj2 := HJ4.out.cell 2
  have lj4 := HJ4.out.lt
  have e1 : IntKind.i64.wrap (2 + (J.c : Int)) = ((2 + J.c : Nat) : Int) := by rw [IntKind.wrap_i64]; omega
  have e2 : IntKind.i64.wrap ((J.c : Int) + (M : Int)) = ((J.c + M : Nat) : Int) := by rw [IntKind.wrap_i64]; omega
  go_wp2_with fail
  go_cut [6, 7] from 37 (fun t6 t7 wr => ∃ bf bn, t6 = .pointer (some ⟨bf, 0, none⟩) ∧ t7 = .pointer (some ⟨bn, 0, none⟩) ∧ AppV w4 wr J.c M bf bn)
  case first =>
    go_region_held3 (fun w' => w'.cell? ⟨w.heap.size, 0, none⟩ = some (.pointer (some ⟨jb, 0, none⟩)) ∧ w'.cell? ⟨jb, 2, none⟩ = some (.int .i64 (J.c : Int)))
      (first | go_keep)
      (first | fail)
    · go_wp2_with fail
      go_meet
      exact ⟨_, _, rfl, rfl, by simpa using AppV.of (w4 := w4) (c := J.c) (M := M)⟩
    · go_wp2_with fail
      go_meet
      exact ⟨_, _, rfl, rfl, by simpa using AppV.of' (w4 := w4) (c := J.c) (M := M)⟩
  case rest =>
    obtain ⟨bf, bn, rfl, rfl, hav⟩ := hcut
    have HAV := Lib.hid hav
    clear hav e1 e2 hp4 he4 fe4 le4 lp4 hj2 lj4
    have HL0 := Lib.hid (AppL.of (ps := ps) HAV.out)
    have hvl := HV4.out
    have HPS := Lib.hid (Strs.of_own HV4.out).2
    have hEp := HP.out.env
    have HE4 := Lib.hid (hEp.new HB4.out)
    clear hvl hEp
    have HPL : Hid (∀ x ∈ ps, x.length ≤ 46) := Lib.hid fun x hx => by
      rw [← HPE.out] at hx
      simp only [Jr.pieces, List.mem_map] at hx
      obtain ⟨i, _, rfl⟩ := hx
      rw [List.length_take]; omega
    obtain ⟨i0, hi, hz0, hz1, hz2⟩ := info_parts info_strs
    have HI := Lib.hid hi
    have HI0 := Lib.hid hz0
    have HI1 := Lib.hid hz1
    have HI2 := Lib.hid hz2
    clear hi hz0 hz1 hz2
    go_wp2_with fail
    obtain ⟨wb, hwb⟩ : ∃ x, (wc.alloc (.cells #[.slice none 0 0] 27)).alloc (.cells #[.slice none 0 0] 27) = x := ⟨_, rfl⟩
    have hwz : wc.heap.size = wc.heap.size := rfl
    rw [hwb] at HL0 ⊢
    obtain ⟨bE, hbE⟩ : ∃ x, wc.heap.size = x := ⟨_, rfl⟩
    rw [hbE] at HL0 ⊢
    clear hwb hwz
    go_loopw [51] (fun i wr => ∃ k : Nat, k ≤ M ∧ i = .int .i64 (k : Int) ∧ ∃ vE vF, AppL w4 wr J.c M ps bf bn bE (bE + 1) k k vE vF) (fun i _ => M - (intOf i).toNat)
    case atStart => exact ⟨0, Nat.zero_le _, rfl, _, _, HL0.out⟩
    case round =>
      obtain ⟨k, hk, rfl, vE, vF, hrel⟩ := hrel
      have HR := Lib.hid hrel
      clear hrel
      by_cases hlt : k < M
      · obtain ⟨b, o, rfl, hb0, hc0⟩ := HPS.out.at_ (by rw [HM.out]; omega)
        have hkn : k < ps.length := by rw [HM.out]; exact hlt
        have hcell := (HR.out.v.bel.cell (p := ⟨b, o + k, none⟩) hb0).trans (hc0 k hkn)
        have hbl := Nat.lt_of_lt_of_le hb0 HR.out.v.bel.size
        have hk0 : (0 : Int) ≤ (k : Int) := by omega
        have hk1 : (k : Int) < (M : Int) := by omega
        have HSC := Lib.hid (fun W (h : Below w4.heap.size w4 W) => sector_any W (HE4.out.below h HE4.out.size) (2 + J.c + k) (by have := HM.out; omega) ps[k] (HPL.out _ (List.getElem_mem hkn)))
        have hx : (Jr.full (2 + J.c) ps)[k]? = some (Jr.sect (2 + J.c + k) ps[k]) := by simp [Jr.full, hkn]
        have HX := Lib.hid hx
        obtain ⟨r, hr⟩ : ∃ r, ps[k] = r := ⟨_, rfl⟩
        rw [hr] at hcell HSC HX
        obtain ⟨sr, hsr⟩ : ∃ q, Dk.str r = q := ⟨_, rfl⟩
        rw [hsr] at hcell HSC
        clear hr hc0 hx hkn hsr
        go_wp2_with fail
        have e8 : wr.cell? ⟨bE, 0, none⟩ = some vE := HR.out.e.cell 0
        have l8 := HR.out.e.lt
        have hk9 : k ≤ 100000 := by omega
        go_cut [] from 52 to 68 (fun wc2 => ∃ vE', AppL w4 wc2 J.c M ps bf bn bE (bE + 1) (k + 1) k vE' vF)
        case first =>
          go_region_law (first
            | (refine step_append_lies _ (by rfl) (.tmp 56) (.tmp 58) _ (by rfl) w4.heap.size 9 i0 _ 1 16 Tryd.underlying27 HI.out HI0.out HI1.out HI2.out rfl (by omega) vE k _ (by simp [Act.eval, Act.put]) (H7.out.re.alloc _) ⟨w7.heap.size, 0, none⟩ 1 1 [.string (Dk.str Jr.zeros)] (by simp [Act.eval, Act.put]) rfl (World.news_of_block (Blk.new w7 _ _)) (by simp [Value.oneCell']) (by omega) (by simp only [maxLen]; omega) (by omega) (by have := H7.out.v.bel.size; simp; omega) (w7.heap.size + 1) (by simp) ?_; intro g cap w8 hown hgrow hat hlt8; have hm := (H7.out.e.alloc (.cells #[.string (Dk.str Jr.zeros)] 9)).grown hgrow (own_blk_ne H7.out.re H7.out.e (by decide)); have m0 := hm.cell 0; have mf := hm.frozen 0; have ml := hm.lt; have H8 := Lib.hid (H7.out.pushE _ hgrow hown hat); clear hown hgrow hat hm)
            | (go_simp; go_at_call 35; refine (zero_any _).mono ?_; rintro e w7 ⟨rfl, hb⟩; have H7 := Lib.hid (HR.out.below (bthen (below_drewN (Below.refl _ _) 1) (Nat.le_refl _) hb)); have e7 : w7.cell? ⟨bE, 0, none⟩ = some vE := H7.out.e.cell 0; have l7 := H7.out.e.lt; clear hb))
          all_goals (go_wp2_with fail; go_meet; exact ⟨_, H8.out⟩)
        case rest =>
          obtain ⟨vE2, hr2⟩ := hcut
          have HR2 := Lib.hid hr2
          clear hr2 e8 l8 HR
          have e9 : wc.cell? ⟨bE + 1, 0, none⟩ = some vF := HR2.out.g.cell 0
          have l9 := HR2.out.g.lt
          have e6 : wc.cell? ⟨bf, 0, none⟩ = some (.int .i64 (2 + (J.c : Int))) := by have := HR2.out.v.f.cell 0; simpa using this
          have l6 := HR2.out.v.f.lt
          have ew : IntKind.i64.wrap (2 + (J.c : Int) + (k : Int)) = ((2 + J.c + k : Nat) : Int) := by rw [IntKind.wrap_i64]; omega
          go_upto_region 19 with (fail)
          refine wp_region_noPanic ?_
          go_region_law
            (first
            | (refine step_append_lies _ (by rfl) (.tmp 60) (.tmp 66) _ (by rfl) w4.heap.size 9 i0 _ 1 16 Tryd.underlying27 HI.out HI0.out HI1.out HI2.out rfl (by omega) vF k _ (by simp [Act.eval, Act.put]) (H7.out.rg.alloc _) ⟨w7.heap.size, 0, none⟩ 1 1 [.string (Dk.str (Jr.sect (2 + J.c + k) r))] (by simp [Act.eval, Act.put]) rfl (World.news_of_block (Blk.new w7 _ _)) (by simp [Value.oneCell']) (by omega) (by simp only [maxLen]; omega) (by omega) (by have := H7.out.v.bel.size; simp; omega) (w7.heap.size + 1) (by simp) ?_; intro g cap w8 hown hgrow hat hlt8; have hm := (H7.out.g.alloc (.cells #[.string (Dk.str (Jr.sect (2 + J.c + k) r))] 9)).grown hgrow (own_blk_ne H7.out.rg H7.out.g (by decide)); have m0 := hm.cell 0; have mf := hm.frozen 0; have ml := hm.lt; have H8 := Lib.hid (H7.out.pushF _ HX.out hgrow hown hat); have k6 : w8.cell? ⟨bf, 0, none⟩ = some (.int .i64 (2 + (J.c : Int))) := by { have hm2 := (H7.out.v.f.alloc (.cells #[.string (Dk.str (Jr.sect (2 + J.c + k) r))] 9)).grown hgrow (own_blk_ne H7.out.rg H7.out.v.f (by decide)); have := hm2.cell 0; simpa using this }; clear hown hgrow hat hm)
            | (go_simp; go_at_call 30; refine (HSC.out wc.drew HR2.out.v.bel.drew).mono ?_; rintro e w7 ⟨rfl, hb⟩; have H7 := Lib.hid (HR2.out.below (bthen (below_drewN (Below.refl _ _) 1) (Nat.le_refl _) hb)); have e7 : w7.cell? ⟨bE + 1, 0, none⟩ = some vF := H7.out.g.cell 0; have l7 := H7.out.g.lt; have k6 : w7.cell? ⟨bf, 0, none⟩ = some (.int .i64 (2 + (J.c : Int))) := (by have := H7.out.v.f.cell 0; simpa using this); clear hb))
          all_goals refine NoPanic.normal ?_
          all_goals go_wp2_with fail
          all_goals exact ⟨⟨k + 1, by omega, by go_num, _, _, H8.out⟩, by simp [intOf]; omega⟩
      · obtain rfl : k = M := by omega
        clear hlt hk
        obtain ⟨wo, hwo⟩ : ∃ x : World, x = wr := ⟨_, rfl⟩
        rw [← hwo] at HR ⊢
        clear hwo
        have HALL := Lib.hid (AppW.of (q := k + 1) HB4.out (by have := HZ2.out; have := HZ3.out; have := HZ4.out; omega) HBP4.out HBE4.out HR.out HM.out HP.out HD.out HSS.out HROW.out HAA.out h0)
        go_wp2_with fail
        obtain ⟨wL, hwL⟩ : ∃ x, wo.alloc (.cells (appFns w.heap.size bf bn bE) 83) = x := ⟨_, rfl⟩
        rw [hwL] at HALL
        unfold appFns at hwL
        rw [hwL]
        obtain ⟨bG, hbG⟩ : ∃ x, wo.heap.size = x := ⟨_, rfl⟩
        rw [hbG] at HALL ⊢
        have hre := HALL.out.1.re
        have hrg := HALL.out.1.rg
        obtain ⟨AE, cE, rfl⟩ : ∃ A c, vE = .slice A k c := by
          rcases hre.2 with ⟨rfl, h0⟩ | ⟨g, cap, cur, rfl, _⟩
          · exact ⟨none, 0, by rw [h0]⟩
          · exact ⟨_, _, rfl⟩
        obtain ⟨AF, cF, rfl⟩ : ∃ A c, vF = .slice A k c := by
          rcases hrg.2 with ⟨rfl, h0⟩ | ⟨g, cap, cur, rfl, _⟩
          · exact ⟨none, 0, by rw [h0]⟩
          · exact ⟨_, _, rfl⟩
        have HW := Lib.hid HALL.out.1
        have HERR := Lib.hid HALL.out.2.1
        have HZL := Lib.hid HALL.out.2.2.1
        have HST0 := Lib.hid HALL.out.2.2.2
        have HGL := Lib.hid (fun g (h : AppG w jb bf bn bE bG (.slice AE k cE) (.slice AF k cF) v A g) => AppG.lt HW.out HZL.out h0 h)
        have HSN := Lib.hid (fun i hi => (HSS.out i hi).1)
        have HEW := Lib.hid HP.out.env
        clear hre hrg HALL hwL hbG HR HAV HL0
        go_loopw [75] (fun i wr => ∃ k' : Nat, k' ≤ 4 ∧ i = .int .i64 (k' : Int) ∧ ∃ E, Stp S (AppG w jb bf bn bE bG (.slice AE k cE) (.slice AF k cF) v A) w wL db D (Jr.todo J ps) (k + 1) k' E wr) (fun i _ => 4 - (intOf i).toNat)
        case atStart => exact ⟨0, by omega, rfl, D, HST0.out⟩
        case round =>
          obtain ⟨i, hi, rfl, E, ⟨T, hdE, hT⟩, hg, ht, hz, hj, hqe⟩ := hrel
          have hw := HW.out.move HERR.out (fun g h _ => hg g h) hz
          have hen := HEW.out.touch ht HSN.out
          have hjt : ¬ T jb := fun h => (hT _ h).2.2 AppG.jb
          have HDE := Lib.hid hdE
          have HT := Lib.hid hT
          have HG := Lib.hid hg
          have HTO := Lib.hid ht
          have HZ := Lib.hid hz
          have HJ := Lib.hid hj
          have HQE := Lib.hid hqe
          have HEN := Lib.hid hen
          have HJT := Lib.hid hjt
          clear hdE hT hg ht hz hj hqe hen hjt
          rcases (show i = 0 ∨ i = 1 ∨ i = 2 ∨ i = 3 ∨ i = 4 by omega) with rfl | rfl | rfl | rfl | rfl
          · have c0 : wr.cell? ⟨bG, 0, none⟩ = some (.func (.func 43) #[] #[.pointer (some ⟨w.heap.size, 0, none⟩), .pointer (some ⟨bf, 0, none⟩), .pointer (some ⟨bE, 0, none⟩)]) := hw.fn.cell 0
            have lG := hw.fn.lt
            have HC := Lib.hid (ap3_any wr T jb db w.heap.size bf bE E (2 + J.c) AE cE (List.replicate k Jr.zeros) HDE.out (hw.job.cell 0) hw.job.lt HJT.out (Strs.of_own hw.re).2 (fun b o e hb => (HT.out b hb).2.2 (AppG.re (by rw [e]; rfl))) (by rw [List.length_replicate]; omega) (fun x hx => by rw [(List.mem_replicate.1 hx).2]; decide) (by rw [List.length_replicate]; have := HQE.out; have := HQ.out; omega) hw.ptr hw.f (by rw [List.length_replicate]; exact hw.e))
            have HWR := Lib.hid hw
            have hjs : (Jr.todo J ps).drop 0 = ((2 + J.c), (List.replicate k Jr.zeros)) :: (Jr.todo J ps).drop 1 := by unfold Jr.todo; rw [HM.out]; rfl
            have HJS := Lib.hid hjs
            have hq1 := Jr.wr_q (List.replicate k Jr.zeros) E (2 + J.c)
            have HQ1 : Hid ((Jr.wr E (2 + J.c) (List.replicate k Jr.zeros)).1.q.length ≤ D.q.length + (0 + 1) * (k + 1)) := Lib.hid (by
              have := HQE.out
              have hl : ((List.replicate k Jr.zeros)).length ≤ k + 1 := by first | (rw [List.length_replicate]; omega) | (rw [Jr.full_length, HM.out]; omega) | simp
              omega)
            clear hw hjs hq1 hi
            go_wp2_with fail
            refine HC.out.mono ?_
            rintro e w5 ⟨rfl, hd5, ht5⟩
            have hnx := Nxt.of (Jr.wr E (2 + J.c) (List.replicate k Jr.zeros)).2 HT.out HG.out HGL.out HZ.out HTO.out hd5 ht5 AppG.err HERR.out (Nat.le_succ _)
            have HB5 := Lib.hid hnx.1
            have HN5 := Lib.hid hnx.2
            have x0 := HB5.out.cell 0
            have xf := HB5.out.frozen 0
            have xl := HB5.out.lt
            clear hnx hd5 ht5 HC c0 lG
            by_cases hz0 : (Jr.wr E (2 + J.c) (List.replicate k Jr.zeros)).2 = 0
            · rw [hz0] at HN5 ⊢
              have HST := Lib.hid (HN5.out.stp HERR.out (D := D) (js := Jr.todo J ps) (q := k + 1) (k := 0 + 1) (by rw [HJ.out, HJS.out]; exact Jr.jobs_go hz0) HQ1.out)
              clear hz0
              go_wp2_with fail
              exact ⟨⟨0 + 1, by omega, by go_num, _, HST.out⟩, by simp [intOf]⟩
            · have HF : Hid (Jr.jobs D (Jr.todo J ps) = Jr.wr E (2 + J.c) (List.replicate k Jr.zeros)) := Lib.hid (by rw [HJ.out, HJS.out]; exact Jr.jobs_stop hz0)
              have HN6 := Lib.hid HN5.out.again
              have HN := Lib.hid hz0
              obtain ⟨x, hx⟩ : ∃ x, (Jr.wr E (2 + J.c) (List.replicate k Jr.zeros)).2 = x := ⟨_, rfl⟩
              have HX := Lib.hid hx
              rw [hx] at HN5 HN6 hz0 ⊢
              clear hx
              go_wp2_with fail
              have hwn := HW.out.move HERR.out HN6.out.same HN6.out.size
              refine leaves_cons (f := 42) (args := #[.pointer (some ⟨w.heap.size + 1, 0, none⟩), .pointer (some ⟨w.heap.size, 0, none⟩)]) (by simp) (by simp [go_sem]) ?_
              refine (ap2_any _ jb db J.n J.c (w.heap.size + 1) w.heap.size v J.br x .returning hwn.job HN6.out.err hwn.ptr).mono ?_
              rintro e u' w'' ⟨rfl, rfl, rfl⟩
              refine ⟨_, app_res rfl (HN6.out.err.far (p := ⟨jb, 4, none⟩) (hwn.job.ne_ HN6.out.err (by decide)).symm _), ?_⟩
              have hfin := app_fail HW.out HERR.out HN6.out hz0
              rw [HAPP.out, HTX.out, HPE.out, HF.out, HX.out, if_neg hz0]
              exact hfin
          · have c0 : wr.cell? ⟨bG, 1, none⟩ = some (.func (.func 44) #[] #[.pointer (some ⟨w.heap.size, 0, none⟩), .pointer (some ⟨bf, 0, none⟩), .pointer (some ⟨bE + 1, 0, none⟩)]) := hw.fn.cell 1
            have lG := hw.fn.lt
            have HC := Lib.hid (ap4_any wr T jb db w.heap.size bf (bE + 1) E (2 + J.c) AF cF (Jr.full (2 + J.c) ps) HDE.out (hw.job.cell 0) hw.job.lt HJT.out (Strs.of_own hw.rg).2 (fun b o e hb => (HT.out b hb).2.2 (AppG.rg (by rw [e]; rfl))) (by rw [Jr.full_length, HM.out]; omega) (fun x hx => by have := full_mem HPL.out hx; omega) (by rw [Jr.full_length, HM.out]; have := HQE.out; have := HQ.out; omega) hw.ptr hw.f (by rw [Jr.full_length, HM.out]; exact hw.g))
            have HWR := Lib.hid hw
            have hjs : (Jr.todo J ps).drop 1 = ((2 + J.c), (Jr.full (2 + J.c) ps)) :: (Jr.todo J ps).drop 2 := by unfold Jr.todo; rw [HM.out]; rfl
            have HJS := Lib.hid hjs
            have hq1 := Jr.wr_q (Jr.full (2 + J.c) ps) E (2 + J.c)
            have HQ1 : Hid ((Jr.wr E (2 + J.c) (Jr.full (2 + J.c) ps)).1.q.length ≤ D.q.length + (1 + 1) * (k + 1)) := Lib.hid (by
              have := HQE.out
              have hl : ((Jr.full (2 + J.c) ps)).length ≤ k + 1 := by first | (rw [List.length_replicate]; omega) | (rw [Jr.full_length, HM.out]; omega) | simp
              omega)
            clear hw hjs hq1 hi
            go_wp2_with fail
            refine HC.out.mono ?_
            rintro e w5 ⟨rfl, hd5, ht5⟩
            have hnx := Nxt.of (Jr.wr E (2 + J.c) (Jr.full (2 + J.c) ps)).2 HT.out HG.out HGL.out HZ.out HTO.out hd5 ht5 AppG.err HERR.out (Nat.le_succ _)
            have HB5 := Lib.hid hnx.1
            have HN5 := Lib.hid hnx.2
            have x0 := HB5.out.cell 0
            have xf := HB5.out.frozen 0
            have xl := HB5.out.lt
            clear hnx hd5 ht5 HC c0 lG
            by_cases hz0 : (Jr.wr E (2 + J.c) (Jr.full (2 + J.c) ps)).2 = 0
            · rw [hz0] at HN5 ⊢
              have HST := Lib.hid (HN5.out.stp HERR.out (D := D) (js := Jr.todo J ps) (q := k + 1) (k := 1 + 1) (by rw [HJ.out, HJS.out]; exact Jr.jobs_go hz0) HQ1.out)
              clear hz0
              go_wp2_with fail
              exact ⟨⟨1 + 1, by omega, by go_num, _, HST.out⟩, by simp [intOf]⟩
            · have HF : Hid (Jr.jobs D (Jr.todo J ps) = Jr.wr E (2 + J.c) (Jr.full (2 + J.c) ps)) := Lib.hid (by rw [HJ.out, HJS.out]; exact Jr.jobs_stop hz0)
              have HN6 := Lib.hid HN5.out.again
              have HN := Lib.hid hz0
              obtain ⟨x, hx⟩ : ∃ x, (Jr.wr E (2 + J.c) (Jr.full (2 + J.c) ps)).2 = x := ⟨_, rfl⟩
              have HX := Lib.hid hx
              rw [hx] at HN5 HN6 hz0 ⊢
              clear hx
              go_wp2_with fail
              have hwn := HW.out.move HERR.out HN6.out.same HN6.out.size
              refine leaves_cons (f := 42) (args := #[.pointer (some ⟨w.heap.size + 1, 0, none⟩), .pointer (some ⟨w.heap.size, 0, none⟩)]) (by simp) (by simp [go_sem]) ?_
              refine (ap2_any _ jb db J.n J.c (w.heap.size + 1) w.heap.size v J.br x .returning hwn.job HN6.out.err hwn.ptr).mono ?_
              rintro e u' w'' ⟨rfl, rfl, rfl⟩
              refine ⟨_, app_res rfl (HN6.out.err.far (p := ⟨jb, 4, none⟩) (hwn.job.ne_ HN6.out.err (by decide)).symm _), ?_⟩
              have hfin := app_fail HW.out HERR.out HN6.out hz0
              rw [HAPP.out, HTX.out, HPE.out, HF.out, HX.out, if_neg hz0]
              exact hfin
          · have c0 : wr.cell? ⟨bG, 2, none⟩ = some (.func (.func 45) #[] #[.pointer (some ⟨w.heap.size, 0, none⟩), .pointer (some ⟨bn, 0, none⟩)]) := hw.fn.cell 2
            have lG := hw.fn.lt
            have HC := Lib.hid (ap5_any wr T jb db w.heap.size bn E HEN.out (J.c + k) (by omega) HDE.out (hw.job.cell 0) hw.job.lt HJT.out (fun i hi => (HT.out i hi).2.1) (by have := HQE.out; have := HQ.out; omega) hw.ptr hw.n (fun h => (HT.out _ h).2.2 (.inr (.inl rfl))) (fun h => (HT.out _ h).2.2 (.inr (.inr (.inr (.inr (.inl rfl)))))))
            have HWR := Lib.hid hw
            have hjs : (Jr.todo J ps).drop 2 = (1, [Jr.head 1 (J.c + k)]) :: (Jr.todo J ps).drop 3 := by unfold Jr.todo; rw [HM.out]; rfl
            have HJS := Lib.hid hjs
            have hq1 := Jr.wr_q [Jr.head 1 (J.c + k)] E 1
            have HQ1 : Hid ((Jr.wr E 1 [Jr.head 1 (J.c + k)]).1.q.length ≤ D.q.length + (2 + 1) * (k + 1)) := Lib.hid (by
              have := HQE.out
              have hl : ([Jr.head 1 (J.c + k)]).length ≤ k + 1 := by first | (rw [List.length_replicate]; omega) | (rw [Jr.full_length, HM.out]; omega) | simp
              omega)
            clear hw hjs hq1 hi
            go_wp2_with fail
            refine HC.out.mono ?_
            rintro e w5 ⟨rfl, hd5, ht5⟩
            have hnx := Nxt.of (Jr.wr E 1 [Jr.head 1 (J.c + k)]).2 HT.out HG.out HGL.out HZ.out HTO.out hd5 ht5 AppG.err HERR.out (Nat.le_succ _)
            have HB5 := Lib.hid hnx.1
            have HN5 := Lib.hid hnx.2
            have x0 := HB5.out.cell 0
            have xf := HB5.out.frozen 0
            have xl := HB5.out.lt
            clear hnx hd5 ht5 HC c0 lG
            by_cases hz0 : (Jr.wr E 1 [Jr.head 1 (J.c + k)]).2 = 0
            · rw [hz0] at HN5 ⊢
              have HST := Lib.hid (HN5.out.stp HERR.out (D := D) (js := Jr.todo J ps) (q := k + 1) (k := 2 + 1) (by rw [HJ.out, HJS.out]; exact Jr.jobs_go hz0) HQ1.out)
              clear hz0
              go_wp2_with fail
              exact ⟨⟨2 + 1, by omega, by go_num, _, HST.out⟩, by simp [intOf]⟩
            · have HF : Hid (Jr.jobs D (Jr.todo J ps) = Jr.wr E 1 [Jr.head 1 (J.c + k)]) := Lib.hid (by rw [HJ.out, HJS.out]; exact Jr.jobs_stop hz0)
              have HN6 := Lib.hid HN5.out.again
              have HN := Lib.hid hz0
              obtain ⟨x, hx⟩ : ∃ x, (Jr.wr E 1 [Jr.head 1 (J.c + k)]).2 = x := ⟨_, rfl⟩
              have HX := Lib.hid hx
              rw [hx] at HN5 HN6 hz0 ⊢
              clear hx
              go_wp2_with fail
              have hwn := HW.out.move HERR.out HN6.out.same HN6.out.size
              refine leaves_cons (f := 42) (args := #[.pointer (some ⟨w.heap.size + 1, 0, none⟩), .pointer (some ⟨w.heap.size, 0, none⟩)]) (by simp) (by simp [go_sem]) ?_
              refine (ap2_any _ jb db J.n J.c (w.heap.size + 1) w.heap.size v J.br x .returning hwn.job HN6.out.err hwn.ptr).mono ?_
              rintro e u' w'' ⟨rfl, rfl, rfl⟩
              refine ⟨_, app_res rfl (HN6.out.err.far (p := ⟨jb, 4, none⟩) (hwn.job.ne_ HN6.out.err (by decide)).symm _), ?_⟩
              have hfin := app_fail HW.out HERR.out HN6.out hz0
              rw [HAPP.out, HTX.out, HPE.out, HF.out, HX.out, if_neg hz0]
              exact hfin
          · have c0 : wr.cell? ⟨bG, 3, none⟩ = some (.func (.func 46) #[] #[.pointer (some ⟨w.heap.size, 0, none⟩), .pointer (some ⟨bn, 0, none⟩)]) := hw.fn.cell 3
            have lG := hw.fn.lt
            have HC := Lib.hid (ap6_any wr T jb db w.heap.size bn E HEN.out (J.c + k) (by omega) HDE.out (hw.job.cell 0) hw.job.lt HJT.out (fun i hi => (HT.out i hi).2.1) (by have := HQE.out; have := HQ.out; omega) hw.ptr hw.n (fun h => (HT.out _ h).2.2 (.inr (.inl rfl))) (fun h => (HT.out _ h).2.2 (.inr (.inr (.inr (.inr (.inl rfl)))))))
            have HWR := Lib.hid hw
            have hjs : (Jr.todo J ps).drop 3 = (0, [Jr.head 0 (J.c + k)]) :: (Jr.todo J ps).drop 4 := by unfold Jr.todo; rw [HM.out]; rfl
            have HJS := Lib.hid hjs
            have hq1 := Jr.wr_q [Jr.head 0 (J.c + k)] E 0
            have HQ1 : Hid ((Jr.wr E 0 [Jr.head 0 (J.c + k)]).1.q.length ≤ D.q.length + (3 + 1) * (k + 1)) := Lib.hid (by
              have := HQE.out
              have hl : ([Jr.head 0 (J.c + k)]).length ≤ k + 1 := by first | (rw [List.length_replicate]; omega) | (rw [Jr.full_length, HM.out]; omega) | simp
              omega)
            clear hw hjs hq1 hi
            go_wp2_with fail
            refine HC.out.mono ?_
            rintro e w5 ⟨rfl, hd5, ht5⟩
            have hnx := Nxt.of (Jr.wr E 0 [Jr.head 0 (J.c + k)]).2 HT.out HG.out HGL.out HZ.out HTO.out hd5 ht5 AppG.err HERR.out (Nat.le_succ _)
            have HB5 := Lib.hid hnx.1
            have HN5 := Lib.hid hnx.2
            have x0 := HB5.out.cell 0
            have xf := HB5.out.frozen 0
            have xl := HB5.out.lt
            clear hnx hd5 ht5 HC c0 lG
            by_cases hz0 : (Jr.wr E 0 [Jr.head 0 (J.c + k)]).2 = 0
            · rw [hz0] at HN5 ⊢
              have HST := Lib.hid (HN5.out.stp HERR.out (D := D) (js := Jr.todo J ps) (q := k + 1) (k := 3 + 1) (by rw [HJ.out, HJS.out]; exact Jr.jobs_go hz0) HQ1.out)
              clear hz0
              go_wp2_with fail
              exact ⟨⟨3 + 1, by omega, by go_num, _, HST.out⟩, by simp [intOf]⟩
            · have HF : Hid (Jr.jobs D (Jr.todo J ps) = Jr.wr E 0 [Jr.head 0 (J.c + k)]) := Lib.hid (by rw [HJ.out, HJS.out]; exact Jr.jobs_stop hz0)
              have HN6 := Lib.hid HN5.out.again
              have HN := Lib.hid hz0
              obtain ⟨x, hx⟩ : ∃ x, (Jr.wr E 0 [Jr.head 0 (J.c + k)]).2 = x := ⟨_, rfl⟩
              have HX := Lib.hid hx
              rw [hx] at HN5 HN6 hz0 ⊢
              clear hx
              go_wp2_with fail
              have hwn := HW.out.move HERR.out HN6.out.same HN6.out.size
              refine leaves_cons (f := 42) (args := #[.pointer (some ⟨w.heap.size + 1, 0, none⟩), .pointer (some ⟨w.heap.size, 0, none⟩)]) (by simp) (by simp [go_sem]) ?_
              refine (ap2_any _ jb db J.n J.c (w.heap.size + 1) w.heap.size v J.br x .returning hwn.job HN6.out.err hwn.ptr).mono ?_
              rintro e u' w'' ⟨rfl, rfl, rfl⟩
              refine ⟨_, app_res rfl (HN6.out.err.far (p := ⟨jb, 4, none⟩) (hwn.job.ne_ HN6.out.err (by decide)).symm _), ?_⟩
              have hfin := app_fail HW.out HERR.out HN6.out hz0
              rw [HAPP.out, HTX.out, HPE.out, HF.out, HX.out, if_neg hz0]
              exact hfin
          · have HF : Hid (Jr.jobs D (Jr.todo J ps) = (E, 0)) := Lib.hid (by rw [HJ.out]; rfl)
            have HWR := Lib.hid hw
            have herr : Blk wr (w.heap.size + 1) 33 #[.int .i64 0] := (HG.out _ AppG.err).trans HERR.out
            have HERW := Lib.hid herr
            have p0 : wr.cell? ⟨w.heap.size, 0, none⟩ = some (.pointer (some ⟨jb, 0, none⟩)) := hw.ptr.cell 0
            have pl := hw.ptr.lt
            have n0 : wr.cell? ⟨bn, 0, none⟩ = some (.int .i64 ((J.c + k : Nat) : Int)) := hw.n.cell 0
            have nl := hw.n.lt
            have jf := hw.job.frozen 2
            have jl := hw.job.lt
            have j2 : wr.cell? ⟨jb, 2, none⟩ = some (.int .i64 (J.c : Int)) := hw.job.cell 2
            have pne : w.heap.size ≠ jb := hw.ptr.ne_ hw.job (by decide)
            have HPNE := Lib.hid pne
            clear hw herr hi pne
            go_wp2_with fail
            obtain ⟨w8, hw8⟩ : ∃ x, wr.setCell ⟨jb, 2, none⟩ (.int .i64 ((J.c + k : Nat) : Int)) = x := ⟨_, rfl⟩
            have hx8 : wr.setCell ⟨jb, 2, none⟩ (.int .i64 ((J.c : Int) + (k : Int))) = w8 := by rw [← hw8]; rw [Int.natCast_add]
            rw [hx8]
            have hj8 : Blk w8 jb 50 #[.pointer (some ⟨db, 0, none⟩), .int .i64 (J.n : Int), .int .i64 ((J.c + k : Nat) : Int), v, .bool J.br] := by rw [← hw8]; exact HWR.out.job.set_ 2 _
            have hp8 : Blk w8 w.heap.size 26 #[.pointer (some ⟨jb, 0, none⟩)] := by rw [← hw8]; exact HWR.out.ptr.far (p := ⟨jb, 2, none⟩) HPNE.out _
            have he8 : Blk w8 (w.heap.size + 1) 33 #[.int .i64 0] := by rw [← hw8]; exact HERW.out.far (p := ⟨jb, 2, none⟩) (HERW.out.ne_ HWR.out.job (by decide)) _
            have hv8 : w8.ownsRow 0 9 1 v J.recs.length (strL J.recs) := by rw [← hw8]; exact ownsRow_setCell_other HWR.out.rv (a := ⟨jb, 2, none⟩) (own_blk_ne HWR.out.rv HWR.out.job (by decide)) _
            have hs8 : Strs w8 A xs := by
              refine HWR.out.list.of_block (by rw [← hw8]; simp [World.setCell]) fun b o e => ?_
              rw [← hw8]
              exact Below.heap_setCell wr ⟨jb, 2, none⟩ _ b (HAA.out b o e).2.1
            have ht8 : Touch (fun k => k = jb) wr w8 := by rw [← hw8]; exact Touch.setCell (S := fun k => k = jb) (p := ⟨jb, 2, none⟩) (Touch.refl _ wr) (.inr rfl) _
            have hz8 : w8.heap.size = wr.heap.size := by rw [← hw8]; simp [World.setCell]
            obtain ⟨b, o, rfl, hb0, hc0⟩ := hs8.at_ h0
            have HJ8 := Lib.hid hj8
            have HP8 := Lib.hid hp8
            have HE8 := Lib.hid he8
            have HV8 := Lib.hid hv8
            have HC8 := Lib.hid hc0
            have HZ8 := Lib.hid hz8
            have HT8 := Lib.hid ht8
            have HN0 := Lib.hid hN0
            have hnews : ∀ j u, (strL xs)[j]? = some u → w8.cell? ((⟨b, o, none⟩ : Addr).add j) = some u := by
              intro j u hu
              have hadd : (⟨b, o, none⟩ : Addr).add j = ⟨b, o + j, none⟩ := by unfold Addr.add; split <;> simp_all
              rw [hadd]
              have hj : j < xs.length := by
                rcases Nat.lt_or_ge j xs.length with h | h
                · exact h
                · rw [List.getElem?_eq_none (by rw [strL_length]; exact h)] at hu; cases hu
              rw [HC8.out j hj]
              simpa [strL, hj] using hu
            have HNEWS := Lib.hid hnews
            have pp8 : w8.cell? ⟨w.heap.size, 0, none⟩ = some (.pointer (some ⟨jb, 0, none⟩)) := HP8.out.cell 0
            have v8 : w8.cell? ⟨jb, 3, none⟩ = some v := HJ8.out.cell 3
            have pl8 := HP8.out.lt
            have jl8 := HJ8.out.lt
            have hN8 : N ≤ 1000000 := by
              have h1 := HTL.out
              have h2 := text_count xs
              rw [HTX.out, HN.out] at h2
              omega
            have hrl8 := HRL.out
            have HLN : Hid ((strL xs).length = N * 1) := Lib.hid (by rw [strL_length, HN.out, Nat.mul_one])
            have HONE : Hid (∀ u ∈ strL xs, u.oneCell' = true) := Lib.hid (by intro u hu; simp only [strL, List.mem_map] at hu; obtain ⟨x, _, rfl⟩ := hu; rfl)
            have HMX : Hid (J.recs.length + N ≤ maxLen) := Lib.hid (by simp only [maxLen]; omega)
            have HBY : Hid ((J.recs.length + N) * 16 ≤ 140737488355328) := Lib.hid (by omega)
            clear hw8 hx8 hj8 hp8 he8 hv8 hs8 ht8 hz8 hc0 hnews p0 pl n0 nl jf jl j2 hb0
            refine wp_region_noPanic ?_
            go_region_law (first
              | (refine step_append_lies _ (by rfl) (.tmp 93) (.tmp 94) _ (by rfl) 0 9 i0 _ 1 16 Tryd.underlying27 HI.out HI0.out HI1.out HI2.out rfl (by omega) v J.recs.length (strL J.recs) (by simp [Act.eval, Act.put]) (World.ownsRow.drew HV8.out) ⟨b, o, none⟩ N c (strL xs) (by simp [Act.eval, Act.put]) HLN.out HNEWS.out HONE.out HN0.out HMX.out HBY.out (Nat.zero_le _) _ rfl ?_; intro g cap w9 hown hgrow hat hlt9; have hj9 := HJ8.out.drew.grown hgrow (own_blk_ne HV8.out HJ8.out (by decide)); have hp9 := HP8.out.drew.grown hgrow (own_blk_ne HV8.out HP8.out (by decide)); have hq9 := HE8.out.drew.grown hgrow (own_blk_ne HV8.out HE8.out (by decide)); have q0 := hj9.cell 3; have qf := hj9.frozen 3; have ql := hj9.lt; have pp9 : w9.cell? ⟨w.heap.size, 0, none⟩ = some (.pointer (some ⟨jb, 0, none⟩)) := hp9.cell 0; have pl9 := hp9.lt; have HJ9 := Lib.hid hj9; have HP9 := Lib.hid hp9; have HQ9 := Lib.hid hq9; have HOWN := Lib.hid hown; have HGR := Lib.hid hgrow; have HAT := Lib.hid hat; clear hown hgrow hat hj9 hp9 hq9))
            all_goals refine NoPanic.normal ?_
            all_goals
              have hq10 := HQ9.out.far (p := ⟨jb, 3, none⟩) (HJ9.out.ne_ HQ9.out (by decide)).symm (.slice (some ⟨g, 0, none⟩) (J.recs.length + N) cap)
              have y0 := hq10.cell 0
              have yf := hq10.frozen 0
              have yl := hq10.lt
              have HQ10 := Lib.hid hq10
              clear hq10 q0 qf ql pp9 pl9
              go_wp2_with fail
              have hNN := HN.out
              subst hNN
              have hj10 := (HJ9.out.set_ 3 (.slice (some ⟨g, 0, none⟩) (J.recs.length + xs.length) cap)).far (p := ⟨w.heap.size + 1, 0, none⟩) (HJ9.out.ne_ HQ9.out (by decide)) (.int .i64 0)
              have hp10 := (HP9.out.far (p := ⟨jb, 3, none⟩) (HP9.out.ne_ HJ9.out (by decide)) (.slice (some ⟨g, 0, none⟩) (J.recs.length + xs.length) cap)).far (p := ⟨w.heap.size + 1, 0, none⟩) (HP9.out.ne_ HQ9.out (by decide)) (.int .i64 0)
              have he10 := HQ10.out.set_ 0 (.int .i64 0)
              refine leaves_cons (f := 42) (args := #[.pointer (some ⟨w.heap.size + 1, 0, none⟩), .pointer (some ⟨w.heap.size, 0, none⟩)]) (by simp) (by simp [go_sem]) ?_
              refine (ap2_any _ jb db J.n (J.c + k) (w.heap.size + 1) w.heap.size _ J.br 0 .returning hj10 he10 hp10).mono ?_
              rintro e u' w'' ⟨rfl, rfl, rfl⟩
              refine ⟨_, app_res rfl (he10.far (p := ⟨jb, 4, none⟩) (HJ9.out.ne_ HQ9.out (by decide)).symm _), ?_⟩
              have t8 : Touch (fun k => k = jb) wr w8.drew := HT8.out.drew
              have a1 : DiskAt w8.drew T db E := HDE.out.touch t8 fun i hi (e : i = jb) => HJT.out (by rw [← e]; exact hi)
              have hz88 : w8.drew.heap.size = wr.heap.size := HZ8.out
              have a2 : ∀ i, T i → (S i ∨ w.heap.size ≤ i) ∧ i < w8.drew.heap.size ∧ i ≠ jb ∧ i ≠ w.heap.size + 1 ∧ v.ownBlock ≠ some i := fun i hi =>
                ⟨(HT.out i hi).1, by rw [hz88]; exact (HT.out i hi).2.1, fun e => HJT.out (by rw [← e]; exact hi), fun e => (HT.out i hi).2.2 (by rw [e]; exact AppG.err), fun e => (HT.out i hi).2.2 (AppG.rv e)⟩
              have a3 : Touch (fun k => S k ∨ k = jb) w w8.drew := (HTO.out.mono (T := fun k => S k ∨ k = jb) fun i _ h => .inl h).trans t8 fun i _ e => .inr e
              have a4 : w.heap.size ≤ w8.drew.heap.size := a3.size
              have hfin := app_ok (E := E) (c := J.c + k) a1 a2 a3 HJ8.out.drew HP.out.job.lt (World.ownsRow.drew HV8.out) HE8.out.drew HGR.out HOWN.out HAT.out a4
              rw [HAPP.out, HTX.out, HPE.out, HF.out, HM.out, if_pos rfl, HP.out.on]
              rw [show ((0 : Int) != 0) = false from rfl]
              exact hfin
end Go.Proofs.YthhkadeiplbdkaaDoor

