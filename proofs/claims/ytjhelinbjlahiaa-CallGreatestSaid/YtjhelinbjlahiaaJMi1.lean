/- CallMirrors: the walk. -/
import Derived.Test.YtjhelinbjlahiaaJMi0
import Derived.Test.YtjhelinbjlahiaaJLg0
import Derived.Test.YtjhelinbjlahiaaJLp0
import Derived.Test.YtjhelinbjlahiaaJLu0
namespace Go.Proofs.Ytjhelinbjlahiaa
set_option linter.unusedSimpArgs false
set_option linter.unusedVariables false
open Go.RowKit
attribute [local go_sem] Oper.semAt_some
attribute [local go_sem ↓] Go.wp_at_zero Go.wp_at_succ
theorem mir_clear {l : List Bd} (hl : l.length ≤ 4096) (hok : ∀ b ∈ l, b.ok) (hm : most l ≠ 0) {x kind : Int} (hx : 1 ≤ x ∧ x ≤ 1000000) (hk : kind = 1 ∨ kind = 2) :
    ∃ P D V F, clearF l x kind = ⟨P, V, D, F, 0⟩ ∧ F.length = l.length ∧ gnF l F = (gsum l F, 0) ∧ ∃ y, 1 ≤ y ∧ y ≤ 1000000 ∧ volX l y = most l ∧ F = fillsL l y (volX l y) kind := by
  obtain ⟨z, hz, _, h1, h2, h3⟩ := price_best hok hl x hm
  obtain ⟨z1, z2, z3, _⟩ := (zonesL_ok hl hok).1 z (keptF_sub _ (keptF_sub _ hz))
  have e := clearF_eq hl hok hx hk
  rw [if_neg (by rintro (q | q); · omega
                 · unfold volX at h3; omega)] at e
  refine ⟨_, _, _, _, e, fillsL_len _ _ _ _, ?_, priceZ (zonesL l) x, by omega, by omega, h3, rfl⟩
  unfold gnF
  rw [if_neg (by rw [chk_ok hl hok]; decide), if_pos ⟨fillsL_len _ _ _ _, (fills_fit hok).2⟩]
theorem mir_gain {l : List Bd} (hl : l.length ≤ 4096) (hok : ∀ b ∈ l, b.ok) {F F' : List Int} {kind kind' : Int} (h : ∃ y, 1 ≤ y ∧ y ≤ 1000000 ∧ volX l y = most l ∧ F = fillsL l y (volX l y) kind)
    (h' : ∃ y, 1 ≤ y ∧ y ≤ 1000000 ∧ volX (mirL l) y = most (mirL l) ∧ F' = fillsL (mirL l) y (volX (mirL l) y) kind') : gsum (mirL l) F' = gsum l F := by
  obtain ⟨x, x1, x2, x3, rfl⟩ := h
  obtain ⟨y, y1, y2, y3, rfl⟩ := h'
  exact gain_mir hl hok ⟨x1, x2⟩ ⟨y1, y2⟩ x3 y3

set_option maxRecDepth 100000 in
set_option maxHeartbeats 8000000 in
theorem mirrors_law (w : World) (v : Value) (l : List Bd) (hv : ArgE encBd 3 w v l) (rule : Int) :
    Calls Try.prog 12 #[v, .int .i64 rule] w fun e w' => e = .returned (.bool true) ∧ Below w.heap.size w w' := by
  obtain ⟨R, hR⟩ : ∃ R : Ending → World → Prop, R = fun e w' => e = .returned (.bool true) ∧ Below w.heap.size w w' := ⟨_, rfl⟩
  rw [← hR]
  have FN := hid (show ∀ w', Below w.heap.size w w' → R (.returned (.bool true)) w' from fun w' h => by rw [hR]; exact ⟨rfl, h⟩)
  clear hR
  have TM := hid (tame_calls (hv.src encBd_len (by omega)) 30 (by omega))
  obtain ⟨O, hO⟩ : ∃ O, O = tameL 30 l := ⟨_, rfl⟩
  have hOk : ∀ b ∈ O, b.ok := by rw [hO]; exact tameL_ok 30 l
  have hOl : O.length ≤ 30 := by rw [hO]; exact tameL_len 30 l
  rw [← hO] at TM
  have HOK := hid hOk
  have AW := hid awake_calls
  clear hO hv hOk
  go_enter Try.func12, Try.ntmps12
  go_wp2_with fail
  refine TM.out.mono ?_
  rintro e w2 ⟨v2, rfl, hr2, hb2⟩
  have B2 := hid hb2
  obtain ⟨pO, cO, hvO, _⟩ := hr2.form
  obtain ⟨n, hn⟩ : ∃ n, n = O.length := ⟨_, rfl⟩
  rw [← hn] at hvO hOl
  subst hvO
  have HN := hid hn
  have RO := hid (OwnE.reads encBd_len hr2 (by omega))
  have SM := hid (some_calls (OwnE.srcx hr2 (by omega)) 30 (by omega))
  rw [List.take_of_length_le (show O.length ≤ 30 by omega)] at SM
  clear hr2 hb2 TM hn
  go_wp2_with fail
  refine SM.out.mono ?_
  rintro e w3 ⟨v3, rfl, hr3, hb3⟩
  have B3 := hid hb3
  obtain ⟨pM, cM, hvM, hhM⟩ := hr3.form
  rw [← HN.out] at hvM
  subst hvM
  have R3 := hid hr3
  have HHM := hid hhM
  clear hr3 hb3 hhM SM
  go_upto_block 0 with fail
  go_cut [6] (fun s6 wx => s6 = .slice pM n cM ∧ RowR w2.heap.size wx (.slice pM n cM) (mirL O) ∧ Below w2.heap.size w2 wx)
  case first =>
    have hh := HHM.out
    rcases hh with ⟨rfl, h0⟩ | ⟨g, rfl, hg, hgl⟩
    · have hn0 : n = 0 := by rw [HN.out, h0]; rfl
      subst hn0
      have F := hid (show RowR w2.heap.size w3 (.slice none 0 cM) (mirL O) from by have := R3.out; rw [h0] at this ⊢; exact this)
      clear h0 HHM
      go_wp2_with fail
      go_loopg [7] 0 (fun k s7 wr => s7 = .int .i64 0 ∧ wr = w3)
      case atStart => exact ⟨rfl, rfl⟩
      case round =>
        obtain ⟨rfl, rfl⟩ := hrel
        go_wp2
        go_meet
        exact ⟨rfl, F.out, B3.out⟩
    · have r0 := RowB.of R3.out
      rw [← HN.out] at r0
      have R0 := hid r0
      clear r0 HHM
      go_wp2_with fail
      go_loopg [7] n (fun k s7 wr => ∃ (i : Nat) (f : Nat → Bd), i + k = n ∧ s7 = .int .i64 i ∧ RowB wr g cM n f ∧ (∀ j, f j = if j < i then mirB (O.getD j ⟨0, 0, 0⟩) else O.getD j ⟨0, 0, 0⟩) ∧ Below w2.heap.size w2 wr)
      case atStart => exact ⟨0, _, by omega, rfl, R0.out, fun j => by simp, B3.out⟩
      case round =>
        obtain ⟨i, f, hik, rfl, rr, hf, hb⟩ := hrel
        have HIK := hid hik
        have RR := hid rr
        have HF := hid hf
        have B := hid hb
        clear hik rr hf hb R0 B3
        by_cases hin : i < n
        · obtain ⟨c0, c1, c2⟩ := RR.out.cell hin
          have f0 := RR.out.froz (i * 3)
          have f1 := RR.out.froz (i * 3 + 1)
          have f2 := RR.out.froz (i * 3 + 2)
          have lg := RR.out.lt
          have gi : (i : Int) < (n : Int) := by omega
          have gi0 : (0 : Int) ≤ (i : Int) := by omega
          have hfi := HF.out i
          rw [if_neg (by omega)] at hfi
          obtain ⟨b, hx⟩ : ∃ b, b = f i := ⟨_, rfl⟩
          rw [← hx] at c0 c1 c2 hfi
          have hbo : b.ok := by
            have hio : i < O.length := by rw [← HN.out]; exact hin
            have : b = O[i] := by rw [hfi]; simp [hio]
            rw [this]; exact HOK.out _ (List.getElem_mem hio)
          obtain ⟨hbs, hp1, hp2, _⟩ := hbo
          have e1 : IntKind.i64.wrap (3 - b.s) = 3 - b.s := IntWalk.i64_in _ (by omega)
          have e2 : IntKind.i64.wrap (1000001 - b.p) = 1000001 - b.p := IntWalk.i64_in _ (by omega)
          obtain ⟨wb, hwb⟩ : ∃ wb, wb = wr.alloc (.cells #[.int .i64 b.s, .int .i64 b.p, .int .i64 b.q] 40) := ⟨_, rfl⟩
          have bb : Below wr.heap.size wr wb := by rw [hwb]; exact (Below.refl _ _).alloc (Nat.le_refl _) _
          have cb : Cells wb wr.heap.size #[.int .i64 b.s, .int .i64 b.p, .int .i64 b.q] 40 := by rw [hwb]; exact Cells.new wr _ _
          have rb := RR.out.kept (Kept.of_below (X := fun _ => False) bb) id
          have NX := hid (show ∀ w5, RowB w5 g cM n f → Below w2.heap.size w2 w5 → ∃ f', RowB (((w5.setCell ⟨g, i * 3, none⟩ (.int .i64 (3 - b.s))).setCell ⟨g, i * 3 + 1, none⟩ (.int .i64 (1000001 - b.p))).setCell ⟨g, i * 3 + 2, none⟩ (.int .i64 b.q)) g cM n f' ∧ (∀ j, f' j = if j < i + 1 then mirB (O.getD j ⟨0, 0, 0⟩) else O.getD j ⟨0, 0, 0⟩) ∧ Below w2.heap.size w2 (((w5.setCell ⟨g, i * 3, none⟩ (.int .i64 (3 - b.s))).setCell ⟨g, i * 3 + 1, none⟩ (.int .i64 (1000001 - b.p))).setCell ⟨g, i * 3 + 2, none⟩ (.int .i64 b.q)) from fun w5 h1 h2 => by
            refine ⟨_, h1.set hin (mirB b), fun j => ?_, h2.trans ((((set_kept w5 g (i * 3) _).trans (set_kept _ _ _ _) (fun _ _ e => e)).trans (set_kept _ _ _ _) (fun _ _ e => e)).below h2.size (fun k hk => by omega))⟩
            by_cases e : j = i
            · subst e; rw [if_pos rfl, if_pos (by omega), hfi]
            · rw [if_neg e, HF.out j]
              by_cases q : j < i
              · rw [if_pos q, if_pos (by omega)]
              · rw [if_neg q, if_neg (by omega)])
          have k0 : wb.cell? ⟨wr.heap.size, 0, none⟩ = some (.int .i64 b.s) := by rw [cb.cell]; rfl
          have k1 : wb.cell? ⟨wr.heap.size, 1, none⟩ = some (.int .i64 b.p) := by rw [cb.cell]; rfl
          have k2 : wb.cell? ⟨wr.heap.size, 2, none⟩ = some (.int .i64 b.q) := by rw [cb.cell]; rfl
          have fz0 := cb.frozen 0
          have fz1 := cb.frozen 1
          have fz2 := cb.frozen 2
          have yl := cb.lt
          obtain ⟨x0, x1, x2⟩ := rb.cell hin
          have z0 := rb.froz (i * 3)
          have z1 := rb.froz (i * 3 + 1)
          have z2 := rb.froz (i * 3 + 2)
          have zl := rb.lt
          rw [← hx] at x0 x1 x2
          have BB := hid (B.out.trans (bb.mono B.out.size))
          have bk : Kept (fun k => k = wr.heap.size) wb ((wb.setCell ⟨wr.heap.size, 0, none⟩ (.int .i64 (3 - b.s))).setCell ⟨wr.heap.size, 1, none⟩ (.int .i64 (1000001 - b.p))) := (set_kept wb wr.heap.size 0 _).trans (set_kept _ _ _ _) (fun _ _ e => e)
          have hbw := B.out.size
          obtain ⟨f', n1, n2, n3⟩ := NX.out _ (rb.kept bk (by omega)) (BB.out.trans (bk.below (by have := BB.out.size; omega) (fun k hk => by omega)))
          have N1 := hid n1
          have N2' := hid n2
          have N3 := hid n3
          have HWB := hid hwb
          clear hx hfi hwb bb cb rb bk NX n1 n2 n3 hbs hp1 hp2
          go_upto_region 7 with fail
          rw [← HWB.out]
          clear c0 c1 c2 f0 f1 f2
          go_wp2
          go_roundg (n - (i + 1))
          · exact ⟨i + 1, f', by omega, by go_num, N1.out, N2'.out, N3.out⟩
          · have := HIK.out; omega
        · have hin' : i = n := by have := HIK.out; omega
          subst hin'
          have g2 : decide ((i : Int) < (i : Int)) = false := by simp
          have F := hid (show RowR w2.heap.size wr (.slice (some ⟨g, 0, none⟩) i cM) (mirL O) from by
            have h1 := RR.out.own (l := mirL O) (by rw [mirL_len, ← HN.out]; exact Nat.le_refl _) (fun k hk => by
              have hk' : k < O.length := by rw [mirL_len] at hk; exact hk
              rw [HF.out k, if_pos (by rw [HN.out]; exact hk')]
              simp [hk', mirL]) hg
            rw [mirL_len, ← HN.out] at h1
            exact h1)
          go_wp2
          go_meet
          exact ⟨rfl, F.out, B.out⟩
  case rest =>
  obtain ⟨rfl, hrM, hbM⟩ := hcut
  obtain ⟨w4, rfl⟩ : ∃ w4 : World, w4 = wc := ⟨_, rfl⟩
  have B4 := hid (B2.out.trans (hbM.mono B2.out.size))
  have RO4 := hid (RO.out.below hbM)
  have HML := hid (mirL_len O)
  have RM4 := hid (OwnE.reads encBd_len hrM (by rw [HML.out, ← HN.out]; omega))
  have HOL := hid (show O.length ≤ 4096 by rw [← HN.out]; omega)
  have HMK := hid (mirL_ok HOK.out)
  have HML4 := hid (show (mirL O).length ≤ 4096 by rw [HML.out]; exact HOL.out)
  have MM := hid (most_mir HOL.out HOK.out)
  have BM := hid (best_mir HOL.out HOK.out)
  have EN := hid (best_ends HOL.out HOK.out)
  have EN' := hid (best_ends HML4.out HMK.out)
  obtain ⟨M, hM⟩ : ∃ M, M = most O := ⟨_, rfl⟩
  have HMO := hid hM
  have BE1 := hid (bsF_ok HOL.out HOK.out)
  have BE2 := hid (bsF_ok HML4.out HMK.out)
  clear hrM hbM B3 HHM R3 hM
  have GO := hid (fun wx (hb : Below w4.heap.size w4 wx) => give_calls (RO4.out.below hb) (by rw [← HN.out]; omega))
  have GM := hid (fun wx (hb : Below w4.heap.size w4 wx) => give_calls (RM4.out.below hb) (by rw [HML.out, ← HN.out]; omega))
  have BO := hid (fun wx v (hr : RowC w4.heap.size wx v O) => best_calls (OwnE.reads encBd_len hr (by rw [← HN.out]; omega)))
  have BN := hid (fun wx v (hr : RowC w4.heap.size wx v (mirL O)) => best_calls (OwnE.reads encBd_len hr (by rw [HML.out, ← HN.out]; omega)))
  rw [BE1.out, ← HMO.out] at BO
  rw [BE2.out, MM.out, ← HMO.out] at BN
  by_cases hM0 : M = 0
  · rw [if_pos hM0] at BO BN
    clear hM0
    go_wp2_with fail
    refine (GO.out _ (Below.refl _ _)).mono ?_
    rintro e w5 ⟨v5, rfl, hr5, hb5⟩
    have B5 := hid hb5
    have C5 := hid (BO.out _ _ hr5)
    clear hr5 hb5
    go_wp2_with fail
    refine C5.out.mono ?_
    rintro e w6 ⟨rfl, hb6⟩
    have B6 := hid (B5.out.trans (hb6.mono B5.out.size))
    clear hb6 C5
    go_wp2_with fail
    refine (GM.out _ B6.out).mono ?_
    rintro e w7 ⟨v7, rfl, hr7, hb7⟩
    have B7 := hid (B6.out.trans (hb7.mono B6.out.size))
    have C7 := hid (BN.out _ _ (hr7.mono B6.out.size))
    clear hr7 hb7
    go_wp2_with fail
    refine C7.out.mono ?_
    rintro e w8 ⟨rfl, hb8⟩
    have B8 := hid (B7.out.trans (hb8.mono B7.out.size))
    clear hb8 C7
    go_wp2_with fail
    refine (AW.out _).mono ?_
    rintro e w9 ⟨rfl, hb9⟩
    have F := hid (FN.out w9 (B4.out.trans ((B8.out.trans (hb9.mono B8.out.size)).mono B4.out.size)))
    clear hb9
    go_wp2
    first | exact F.out | (go_ret; exact F.out)
  · rw [if_neg hM0] at BO BN
    have ebl : ((bestZ (mirL O)).getD 0 zn0).f = 1000001 - bHi O := BM.out.1
    have ebh : ((bestZ (mirL O)).getD ((bestZ (mirL O)).length - 1) zn0).t = 1000001 - bLo O := BM.out.2
    have eol : ((bestZ O).getD 0 zn0).f = bLo O := rfl
    have eoh : ((bestZ O).getD ((bestZ O).length - 1) zn0).t = bHi O := rfl
    rw [ebl, ebh] at BN
    rw [eol, eoh] at BO
    have mo : most O ≠ 0 := by rw [← HMO.out]; exact hM0
    have mo' : most (mirL O) ≠ 0 := by rw [MM.out]; exact mo
    have en := EN.out
    have en' := EN'.out
    rw [BM.out.1, BM.out.2] at en'
    have ur := um_range rule (k := 2) (by omega)
    have t1 := um_tmod rule 2
    have t2 : IntKind.i64.wrap (um rule 2) = um rule 2 := IntWalk.i64_in _ (by omega)
    have t3 : IntKind.i64.wrap (1 + um rule 2) = 1 + um rule 2 := IntWalk.i64_in _ (by omega)
    obtain ⟨P, D, V, F, hc, hF, hg, hw⟩ := mir_clear HOL.out HOK.out mo (x := bLo O) (kind := 1 + um rule 2) (by omega) (by omega)
    obtain ⟨P', D', V', F', hc', hF', hg', hw'⟩ := mir_clear HML4.out HMK.out mo' (x := 1000001 - bHi O) (kind := 1 + um rule 2) (by omega) (by omega)
    have hgain := mir_gain HOL.out HOK.out hw hw'
    rw [HML.out, ← HN.out] at hF'
    rw [← HN.out] at hF
    obtain ⟨lo, hlo⟩ : ∃ lo, lo = bLo O := ⟨_, rfl⟩
    obtain ⟨hi, hhi⟩ : ∃ hi, hi = bHi O := ⟨_, rfl⟩
    rw [← hlo] at hc BO BN en en'
    rw [← hhi] at hc' BO BN en en'
    have w1 : IntKind.i64.wrap (1000001 - hi) = 1000001 - hi := IntWalk.i64_in _ (by omega)
    have w2' : IntKind.i64.wrap (1000001 - lo) = 1000001 - lo := IntWalk.i64_in _ (by omega)
    have HC := hid hc
    have HC' := hid hc'
    have HG := hid hg
    have HG' := hid hg'
    have HF := hid hF
    have HF' := hid hF'
    have HGN := hid hgain
    clear hlo hhi hc hc' hg hg' hF hF' hgain hw hw' ebl ebh eol eoh mo mo' en en' hM0
    go_wp2_with fail
    refine (GO.out _ (Below.refl _ _)).mono ?_
    rintro e w5 ⟨v5, rfl, hr5, hb5⟩
    have B5 := hid hb5
    have C5 := hid (BO.out _ _ hr5)
    clear hr5 hb5
    go_wp2_with fail
    refine C5.out.mono ?_
    rintro e w6 ⟨rfl, hb6⟩
    have B6 := hid (B5.out.trans (hb6.mono B5.out.size))
    clear hb6 C5
    go_wp2_with fail
    refine (GM.out _ B6.out).mono ?_
    rintro e w7 ⟨v7, rfl, hr7, hb7⟩
    have B7 := hid (B6.out.trans (hb7.mono B6.out.size))
    have C7 := hid (BN.out _ _ (hr7.mono B6.out.size))
    clear hr7 hb7
    go_wp2_with fail
    refine C7.out.mono ?_
    rintro e w8 ⟨rfl, hb8⟩
    have B8 := hid (B7.out.trans (hb8.mono B7.out.size))
    clear hb8 C7
    go_wp2_with fail
    refine (GO.out _ B8.out).mono ?_
    rintro e w9 ⟨v9, rfl, hr9, hb9⟩
    have B9 := hid (B8.out.trans (hb9.mono B8.out.size))
    have CL := hid (clear_calls (OwnE.reads encBd_len hr9 (by rw [← HN.out]; omega)) lo (1 + um rule 2))
    rw [HC.out] at CL
    clear hr9 hb9
    go_wp2_with fail
    refine CL.out.mono ?_
    rintro e w10 ⟨⟨vf, rfl, hrf⟩, hb10⟩
    have B10 := hid (B9.out.trans (hb10.mono B9.out.size))
    obtain ⟨pf, cf, hvf, _⟩ := hrf.form
    rw [HF.out] at hvf
    subst hvf
    have RF := hid (OwnE.mono hrf B9.out.size)
    clear hrf hb10 CL
    obtain ⟨wb, hwb⟩ : ∃ wb, wb = w10.alloc (.cells #[.int .i64 P, .int .i64 V, .int .i64 D, .slice pf n cf] 26) := ⟨_, rfl⟩
    have BB := hid (show Below w10.heap.size w10 wb by rw [hwb]; exact (Below.refl _ _).alloc (Nat.le_refl _) _)
    have CB := hid (show Cells wb w10.heap.size #[.int .i64 P, .int .i64 V, .int .i64 D, .slice pf n cf] 26 by rw [hwb]; exact Cells.new w10 _ _)
    have HWB := hid hwb
    clear hwb
    go_upto_region 18 with fail
    rw [← HWB.out]
    have B11 := hid (B10.out.trans (BB.out.mono B10.out.size))
    go_wp2_with fail
    refine (GM.out _ B11.out).mono ?_
    rintro e w12 ⟨v12, rfl, hr12, hb12⟩
    have B12 := hid (B11.out.trans (hb12.mono B11.out.size))
    have C12 := hid (CB.out.below hb12 CB.out.lt)
    have RF12 := hid (OwnE.below (OwnE.below RF.out BB.out) hb12)
    have CL2 := hid (clear_calls (OwnE.reads encBd_len hr12 (by rw [HML.out, ← HN.out]; omega)) (1000001 - hi) (1 + um rule 2))
    rw [HC'.out] at CL2
    clear hr12 hb12
    go_wp2_with fail
    refine CL2.out.mono ?_
    rintro e w13 ⟨⟨vg, rfl, hrg⟩, hb13⟩
    have B13 := hid (B12.out.trans (hb13.mono B12.out.size))
    obtain ⟨pg, cg, hvg, _⟩ := hrg.form
    rw [HF'.out] at hvg
    subst hvg
    have RG := hid (OwnE.mono hrg B12.out.size)
    have C13 := hid (C12.out.below hb13 C12.out.lt)
    have RF13 := hid (OwnE.below RF12.out hb13)
    clear hrg hb13 CL2
    obtain ⟨wd, hwd⟩ : ∃ wd, wd = w13.alloc (.cells #[.int .i64 P', .int .i64 V', .int .i64 D', .slice pg n cg] 26) := ⟨_, rfl⟩
    have BD := hid (show Below w13.heap.size w13 wd by rw [hwd]; exact (Below.refl _ _).alloc (Nat.le_refl _) _)
    have CD := hid (show Cells wd w13.heap.size #[.int .i64 P', .int .i64 V', .int .i64 D', .slice pg n cg] 26 by rw [hwd]; exact Cells.new w13 _ _)
    have CF := hid (C13.out.below BD.out C13.out.lt)
    have RFD := hid (OwnE.below RF13.out BD.out)
    have RGD := hid (OwnE.below RG.out BD.out)
    have BZ := hid (B13.out.trans (BD.out.mono B13.out.size))
    have HWD := hid hwd
    clear hwd
    go_upto_region 19 with fail
    rw [← HWD.out]
    go_upto_region 21 with fail
    have KF := hid (show ∀ wh, Below wd.heap.size wd wh → wh.cell? ⟨w10.heap.size, 3, none⟩ = some (.slice pf n cf) from fun wh hb => by
      rw [(CF.out.below hb CF.out.lt).cell]; rfl)
    have KG := hid (show ∀ wh, Below wd.heap.size wd wh → wh.cell? ⟨w13.heap.size, 3, none⟩ = some (.slice pg n cg) from fun wh hb => by
      rw [(CD.out.below hb CD.out.lt).cell]; rfl)
    have GO2 := hid (show ∀ wx, Below wd.heap.size wd wx → Calls Try.prog 16 #[.slice pO n cO] wx fun e w' => ∃ v', e = .returned v' ∧ RowC wd.heap.size w' v' O ∧ Below wd.heap.size wd w' from fun wx hb =>
      (GO.out wx (BZ.out.trans (hb.mono BZ.out.size))).mono fun e w' h => by
        obtain ⟨v', h1, h2, h3⟩ := h
        exact ⟨v', h1, h2.mono hb.size, hb.trans (h3.mono hb.size)⟩)
    have GM2 := hid (show ∀ wx, Below wd.heap.size wd wx → Calls Try.prog 16 #[.slice pM n cM] wx fun e w' => ∃ v', e = .returned v' ∧ RowC wd.heap.size w' v' (mirL O) ∧ Below wd.heap.size wd w' from fun wx hb =>
      (GM.out wx (BZ.out.trans (hb.mono BZ.out.size))).mono fun e w' h => by
        obtain ⟨v', h1, h2, h3⟩ := h
        exact ⟨v', h1, h2.mono hb.size, hb.trans (h3.mono hb.size)⟩)
    have N1 := hid (show ∀ wx u, RowC wd.heap.size wx u O → Below wd.heap.size wd wx → Calls Try.prog 33 #[u, .slice pf n cf] wx fun e w' => e = .returned (.tuple #[.int .i64 (gsum O F), .int .i64 0]) ∧ Below wd.heap.size wd w' from fun wx u hr hb =>
      (gain_calls (OwnE.reads encBd_len hr (by rw [← HN.out]; omega)) (OwnE.reads encI_len (OwnE.below RFD.out hb) (by rw [HF.out]; omega))).mono fun e w' h => by
        rw [HG.out] at h
        exact ⟨h.1, hb.trans (h.2.mono hb.size)⟩)
    have N2 := hid (show ∀ wx u, RowC wd.heap.size wx u (mirL O) → Below wd.heap.size wd wx → Calls Try.prog 33 #[u, .slice pg n cg] wx fun e w' => e = .returned (.tuple #[.int .i64 (gsum O F), .int .i64 0]) ∧ Below wd.heap.size wd w' from fun wx u hr hb =>
      (gain_calls (OwnE.reads encBd_len hr (by rw [HML.out, ← HN.out]; omega)) (OwnE.reads encI_len (OwnE.below RGD.out hb) (by rw [HF'.out]; omega))).mono fun e w' h => by
        rw [HG'.out, HGN.out] at h
        exact ⟨h.1, hb.trans (h.2.mono hb.size)⟩)
    obtain ⟨G, hG⟩ : ∃ G, G = gsum O F := ⟨_, rfl⟩
    rw [← hG] at N1 N2
    clear hG
    go_cut [22, 23] (fun s22 s23 wx => s22 = .int .i64 G ∧ s23 = .int .i64 0 ∧ Below wd.heap.size wd wx)
    case first =>
      have hcur := Below.refl wd.heap.size wd
      go_region_held3 (fun wh => wh.cell? ⟨w10.heap.size, 3, none⟩ = some (.slice pf n cf))
        (first | exact KF.out _ hcur | exact KF.out _ hcur.drew | assumption)
        (first
          | (go_at_call 16; refine (GO2.out _ ?_).mono ?_; (first | exact hcur.drew | exact hcur); rintro e w14 ⟨v14, rfl, hr14, hb14⟩; replace hcur := hb14)
          | (go_at_call 33; refine (N1.out _ _ hr14 ?_).mono ?_; (first | exact hcur.drew | exact hcur); rintro e w15 ⟨rfl, hb15⟩; replace hcur := hb15))
      all_goals go_wp2
      all_goals (
        go_meet
        exact ⟨rfl, rfl, hcur⟩)
    case rest =>
    obtain ⟨rfl, rfl, hbe⟩ := hcut
    obtain ⟨we, rfl⟩ : ∃ we : World, we = wc := ⟨_, rfl⟩
    have BE := hid hbe
    clear hbe
    go_upto_region 22 with fail
    go_cut [24, 25] (fun s22 s23 wx => s22 = .int .i64 G ∧ s23 = .int .i64 0 ∧ Below wd.heap.size wd wx)
    case first =>
      have hcur := BE.out
      go_region_held3 (fun wh => wh.cell? ⟨w13.heap.size, 3, none⟩ = some (.slice pg n cg))
        (first | exact KG.out _ hcur | exact KG.out _ hcur.drew | assumption)
        (first
          | (go_at_call 16; refine (GM2.out _ ?_).mono ?_; (first | exact hcur.drew | exact hcur); rintro e w14 ⟨v14, rfl, hr14, hb14⟩; replace hcur := hb14)
          | (go_at_call 33; refine (N2.out _ _ hr14 ?_).mono ?_; (first | exact hcur.drew | exact hcur); rintro e w15 ⟨rfl, hb15⟩; replace hcur := hb15))
      all_goals go_wp2
      all_goals (
        go_meet
        exact ⟨rfl, rfl, hcur⟩)
    case rest =>
    obtain ⟨rfl, rfl, hbf⟩ := hcut
    obtain ⟨wf, rfl⟩ : ∃ wf : World, wf = wc := ⟨_, rfl⟩
    have BF := hid hbf
    clear hbf
    go_wp2_with fail
    refine (AW.out _).mono ?_
    rintro e w16 ⟨rfl, hb16⟩
    have F := hid (FN.out w16 (B4.out.trans ((BZ.out.trans ((BF.out.trans (hb16.mono BF.out.size)).mono BZ.out.size)).mono B4.out.size)))
    clear hb16
    go_wp2
    first | exact F.out | (go_ret; exact F.out)
end Go.Proofs.Ytjhelinbjlahiaa
