/- CallOrders: the walk. -/
import Derived.Test.YtjhelinbjlahiaaJOr0
namespace Go.Proofs.Ytjhelinbjlahiaa
set_option linter.unusedSimpArgs false
set_option linter.unusedVariables false
open Go.RowKit
attribute [local go_sem] Oper.semAt_some
attribute [local go_sem ↓] Go.wp_at_zero Go.wp_at_succ
theorem drop_rev {l : List Bd} {i : Nat} (hi : i < l.length) : (l.drop i).reverse = (l.drop (i + 1)).reverse ++ [l[i]] := by
  rw [← List.getElem_cons_drop (h := hi), List.reverse_cons]

set_option maxRecDepth 100000 in
set_option maxHeartbeats 8000000 in
theorem orders_law (w : World) (v : Value) (l : List Bd) (hv : ArgE encBd 3 w v l) (x0 : Int) :
    Calls Try.prog 4 #[v, .int .i64 x0] w fun e w' => e = .returned (.bool true) ∧ Below w.heap.size w w' := by
  obtain ⟨R, hR⟩ : ∃ R : Ending → World → Prop, R = fun e w' => e = .returned (.bool true) ∧ Below w.heap.size w w' := ⟨_, rfl⟩
  rw [← hR]
  have FN := hid (show ∀ w', Below w.heap.size w w' → R (.returned (.bool true)) w' from fun w' h => by rw [hR]; exact ⟨rfl, h⟩)
  clear hR
  have TM := hid (tame_calls (hv.src encBd_len (by omega)) 30 (by omega))
  obtain ⟨O, hO⟩ : ∃ O, O = tameL 30 l := ⟨_, rfl⟩
  have hOk : ∀ b ∈ O, b.ok := by rw [hO]; exact tameL_ok 30 l
  have hOl : O.length ≤ 30 := by rw [hO]; exact tameL_len 30 l
  rw [← hO] at TM
  have HOK := hid hOk
  have AW := hid awake_calls
  have ux := um_range x0 (k := 120) (by omega)
  have t1 := um_tmod x0 120
  have t2 : IntKind.i64.wrap (um x0 120) = um x0 120 := IntWalk.i64_in _ (by omega)
  have t3 : IntKind.i64.wrap (1 + um x0 120) = 1 + um x0 120 := IntWalk.i64_in _ (by omega)
  have C1 := hid (clearF_eq (show O.length ≤ 4096 by omega) hOk (x := 1 + um x0 120) (rule := 2) (by omega) (.inr rfl))
  have C2 := hid (clearF_eq (l := O.reverse) (show O.reverse.length ≤ 4096 by simp; omega) (fun b hb => hOk b (List.mem_reverse.1 hb)) (x := 1 + um x0 120) (rule := 1) (by omega) (.inl rfl))
  rw [zones_reverse, dem_reverse, sup_reverse] at C2
  have FLN := hid (fun x v r => fillsL_len O x v r)
  have FLR := hid (fun x v r => fillsL_len O.reverse x v r)
  have STEP := hid (fun (x v : Int) (i k : Nat) (hi : i < O.length) (hki : k < i) (he : O[i] = O[k]) => fillOf_step hOk (x := x) (v := v) hi hki he)
  have DB := hid (fun x => demsup_bound' (show O.length ≤ 4096 by omega) hOk x)
  obtain ⟨P, hP⟩ : ∃ P, P = priceZ (zonesL O) (1 + um x0 120) := ⟨_, rfl⟩
  rw [← hP] at C1 C2
  clear hO hv hOk hP
  go_enter Try.func4, Try.ntmps4
  go_wp2_with fail
  refine TM.out.mono ?_
  rintro e w2 ⟨v2, rfl, hr2, hb2⟩
  have B2 := hid hb2
  obtain ⟨pO, cO, hvO, _⟩ := hr2.form
  obtain ⟨n, hn⟩ : ∃ n, n = O.length := ⟨_, rfl⟩
  rw [← hn] at hvO hOl
  subst hvO
  have HN := hid hn
  have RO := hid (OwnE.reads encBd_len hr2 (by omega))
  have en : IntKind.i64.wrap ((n : Int) - 1) = (n : Int) - 1 := IntWalk.i64_in _ (by omega)
  clear hr2 hb2 TM hn
  go_upto_region 5 with fail
  go_loopg [7, 8] n (fun k s7 s8 wx => ∃ j : Nat, j = k ∧ j ≤ n ∧ s8 = .int .i64 ((j : Int) - 1) ∧ RowR w2.heap.size wx s7 (O.drop j).reverse ∧ Below w2.heap.size w2 wx)
  case atStart => exact ⟨n, rfl, Nat.le_refl _, rfl, by rw [show O.drop n = [] by rw [HN.out]; simp]; exact OwnE.nil _ _, Below.refl _ _⟩
  case round =>
    obtain ⟨j, hjk, hjn, rfl, hro, hbx⟩ := hrel
    have HJK := hid hjk
    have BX := hid hbx
    obtain ⟨po, co, hvo, hho⟩ := hro.form
    rw [List.length_reverse, List.length_drop, ← HN.out] at hvo
    obtain ⟨m, hm⟩ : ∃ m, m = n - j := ⟨_, rfl⟩
    rw [← hm] at hvo
    subst hvo
    have ROW := hid hro
    have HHO := hid hho
    have HM := hid hm
    clear hjk hro hbx hho hm
    by_cases hj0 : j = 0
    · subst hj0
      have rw0 := ROW.out
      rw [List.drop_zero] at rw0
      have hmn : m = n := by rw [HM.out]; omega
      subst hmn
      have RV := hid (OwnE.reads encBd_len rw0 (by simp; rw [← HN.out]; omega))
      have GV := hid (give_calls (RO.out.below BX.out) (by rw [← HN.out]; omega))
      clear rw0
      go_wp2_with fail
      refine GV.out.mono ?_
      rintro e w4 ⟨v4, rfl, hr4, hb4⟩
      have B4 := hid (BX.out.trans (hb4.mono BX.out.size))
      have RV4 := hid (RV.out.below hb4)
      have CL := hid (clear_calls (OwnE.reads encBd_len hr4 (by rw [← HN.out]; omega)) (1 + um x0 120) 2)
      obtain ⟨p4, c4, hv4, _⟩ := hr4.form
      rw [← HN.out] at hv4
      subst hv4
      rw [C1.out] at CL
      clear hr4 hb4 GV RV
      go_wp2_with fail
      refine CL.out.mono ?_
      rintro e w5 ⟨⟨vf, rfl, hrf⟩, hb5⟩
      have B5 := hid (B4.out.trans (hb5.mono B4.out.size))
      have RV5 := hid (RV4.out.below hb5)
      obtain ⟨D, hD⟩ : ∃ D, D = dem O P := ⟨_, rfl⟩
      obtain ⟨S, hS⟩ : ∃ S, S = sup O P := ⟨_, rfl⟩
      have hdb := DB.out P
      have hC2 := C2.out
      rw [← hD, ← hS] at hdb hC2
      rw [← hD, ← hS] at hrf ⊢
      obtain ⟨V, hV⟩ : ∃ V, V = min D S := ⟨_, rfl⟩
      rw [← hV] at hrf hC2 ⊢
      clear CL hb5 hD hS hV RV4
      by_cases hE : P = 0 ∨ V = 0
      · rw [if_pos hE] at hrf hC2 ⊢
        obtain ⟨pf, cf, rfl⟩ := own_empty hrf
        obtain ⟨wb, hwb⟩ : ∃ wb, wb = w5.alloc (.cells #[.int .i64 0, .int .i64 0, .int .i64 0, .slice pf 0 cf] 26) := ⟨_, rfl⟩
        have BB := hid (show Below w5.heap.size w5 wb by rw [hwb]; exact (Below.refl _ _).alloc (Nat.le_refl _) _)
        have CB := hid (show Cells wb w5.heap.size #[.int .i64 0, .int .i64 0, .int .i64 0, .slice pf 0 cf] 26 by rw [hwb]; exact Cells.new w5 _ _)
        have HWB := hid hwb
        have GV2 := hid (give_calls (RV5.out.below BB.out) (by simp; rw [← HN.out]; omega))
        have HC2 := hid hC2
        clear hrf hwb hE hC2
        go_upto_region 10 with fail
        rw [← HWB.out]
        go_wp2_with fail
        refine GV2.out.mono ?_
        rintro e w6 ⟨v6, rfl, hr6, hb6⟩
        have CL2 := hid (clear_calls (OwnE.reads encBd_len hr6 (by simp; rw [← HN.out]; omega)) (1 + um x0 120) 1)
        rw [HC2.out] at CL2
        have B6 := hid (BB.out.trans (hb6.mono BB.out.size))
        have C6 := hid (CB.out.below hb6 CB.out.lt)
        clear hr6 hb6 GV2
        go_wp2_with fail
        refine CL2.out.mono ?_
        rintro e w7 ⟨⟨vg, rfl, hrg⟩, hb7⟩
        obtain ⟨pg, cg, rfl⟩ := own_empty hrg
        have B7 := hid (B6.out.trans (hb7.mono B6.out.size))
        have c7 := (C6.out.below hb7 C6.out.lt).alloc (.cells #[.int .i64 0, .int .i64 0, .int .i64 0, .slice pg 0 cg] 26)
        have d7 := Cells.new w7 #[.int .i64 0, .int .i64 0, .int .i64 0, .slice pg 0 cg] 26
        obtain ⟨wd, hwd⟩ : ∃ wd, wd = w7.alloc (.cells #[.int .i64 0, .int .i64 0, .int .i64 0, .slice pg 0 cg] 26) := ⟨_, rfl⟩
        rw [← hwd] at c7 d7
        have BD := hid (show Below w5.heap.size w5 wd by rw [hwd]; exact B7.out.alloc B7.out.size _)
        have x0' : wd.cell? ⟨w5.heap.size, 0, none⟩ = some (.int .i64 0) := by rw [c7.cell]; rfl
        have x1 : wd.cell? ⟨w5.heap.size, 1, none⟩ = some (.int .i64 0) := by rw [c7.cell]; rfl
        have x2 : wd.cell? ⟨w5.heap.size, 2, none⟩ = some (.int .i64 0) := by rw [c7.cell]; rfl
        have y0 : wd.cell? ⟨w7.heap.size, 0, none⟩ = some (.int .i64 0) := by rw [d7.cell]; rfl
        have y1 : wd.cell? ⟨w7.heap.size, 1, none⟩ = some (.int .i64 0) := by rw [d7.cell]; rfl
        have y2 : wd.cell? ⟨w7.heap.size, 2, none⟩ = some (.int .i64 0) := by rw [d7.cell]; rfl
        have HWD := hid hwd
        clear hrg hb7 c7 d7 hwd CL2
        go_upto_region 11 with fail
        rw [← HWD.out]
        go_wp2_with fail
        refine (AW.out _).mono ?_
        rintro e w9 ⟨rfl, hb9⟩
        have F := hid (FN.out w9 (B2.out.trans ((B5.out.trans ((BD.out.trans (hb9.mono BD.out.size)).mono B5.out.size)).mono B2.out.size)))
        clear hb9
        go_wp2
        first | exact F.out | (go_ret; exact F.out)
      · rw [if_neg hE] at hrf hC2 ⊢
        obtain ⟨pf, cf, hvf, _⟩ := hrf.form
        have hvf2 : vf = .slice pf m cf := by rw [hvf]; show Value.slice pf (fillsL O P V 2).length cf = _; rw [FLN.out, ← HN.out]
        subst hvf2
        obtain ⟨F1, hF1⟩ : ∃ F1, F1 = fillsL O P V 2 := ⟨_, rfl⟩
        have hF1n : F1.length = m := by rw [hF1, FLN.out, ← HN.out]
        have FB := hid (show ∀ (y : Nat) (h1 : y < O.length) (h2 : y < F1.length), 0 ≤ F1[y] ∧ F1[y] ≤ O[y].q from fun y h1 h2 => by
          subst hF1
          exact (fitF_iff (fillsL_len _ _ _ _).symm).1 (fills_fit HOK.out).2 y h1 h2)
        have ST := hid (show ∀ (y z : Nat) (h1 : y < O.length) (h2 : z < y) (h3 : y < F1.length), O[y] = O[z] → F1[y] = F1[z] ∨ F1[y] = F1[z] - 1 from fun y z h1 h2 h3 he => by
          subst hF1
          rw [fillsL_get, fillsL_get]
          exact STEP.out P V y z h1 h2 he)
        have RF := hid (show ReadsE encI 1 w5 (.slice pf m cf) F1 from OwnE.reads encI_len (by rw [hF1]; exact hrf) (by omega))
        obtain ⟨X, hX⟩ : ∃ X, X = D - S := ⟨_, rfl⟩
        rw [← hX] at hC2 ⊢
        obtain ⟨wb, hwb⟩ : ∃ wb, wb = w5.alloc (.cells #[.int .i64 P, .int .i64 V, .int .i64 X, .slice pf m cf] 26) := ⟨_, rfl⟩
        have BB := hid (show Below w5.heap.size w5 wb by rw [hwb]; exact (Below.refl _ _).alloc (Nat.le_refl _) _)
        have CB := hid (show Cells wb w5.heap.size #[.int .i64 P, .int .i64 V, .int .i64 X, .slice pf m cf] 26 by rw [hwb]; exact Cells.new w5 _ _)
        have HWB := hid hwb
        have GV2 := hid (give_calls (RV5.out.below BB.out) (by simp; rw [← HN.out]; omega))
        have HC2 := hid hC2
        have HF1 := hid hF1n
        clear hrf hwb hE hC2 hvf hF1 hF1n hX
        go_upto_region 10 with fail
        rw [← HWB.out]
        go_wp2_with fail
        refine GV2.out.mono ?_
        rintro e w6 ⟨v6, rfl, hr6, hb6⟩
        have CL2 := hid (clear_calls (OwnE.reads encBd_len hr6 (by simp; rw [← HN.out]; omega)) (1 + um x0 120) 1)
        rw [HC2.out] at CL2
        have B6 := hid (BB.out.trans (hb6.mono BB.out.size))
        have C6 := hid (CB.out.below hb6 CB.out.lt)
        clear hr6 hb6 GV2
        go_wp2_with fail
        refine CL2.out.mono ?_
        rintro e w7 ⟨⟨vg, rfl, hrg⟩, hb7⟩
        obtain ⟨pg, cg, hvg, _⟩ := hrg.form
        have hvg2 : vg = .slice pg m cg := by rw [hvg]; show Value.slice pg (fillsL O.reverse P V 1).length cg = _; rw [FLR.out, List.length_reverse, ← HN.out]
        subst hvg2
        have B7 := hid (B6.out.trans (hb7.mono B6.out.size))
        have c7 := (C6.out.below hb7 C6.out.lt).alloc (.cells #[.int .i64 P, .int .i64 V, .int .i64 X, .slice pg m cg] 26)
        have d7 := Cells.new w7 #[.int .i64 P, .int .i64 V, .int .i64 X, .slice pg m cg] 26
        obtain ⟨wd, hwd⟩ : ∃ wd, wd = w7.alloc (.cells #[.int .i64 P, .int .i64 V, .int .i64 X, .slice pg m cg] 26) := ⟨_, rfl⟩
        rw [← hwd] at c7 d7
        have BD := hid (show Below w5.heap.size w5 wd by rw [hwd]; exact B7.out.alloc B7.out.size _)
        have x0' : wd.cell? ⟨w5.heap.size, 0, none⟩ = some (.int .i64 P) := by rw [c7.cell]; rfl
        have x1 : wd.cell? ⟨w5.heap.size, 1, none⟩ = some (.int .i64 V) := by rw [c7.cell]; rfl
        have x2 : wd.cell? ⟨w5.heap.size, 2, none⟩ = some (.int .i64 X) := by rw [c7.cell]; rfl
        have x3 : wd.cell? ⟨w5.heap.size, 3, none⟩ = some (.slice pf m cf) := by rw [c7.cell]; rfl
        have y0 : wd.cell? ⟨w7.heap.size, 0, none⟩ = some (.int .i64 P) := by rw [d7.cell]; rfl
        have y1 : wd.cell? ⟨w7.heap.size, 1, none⟩ = some (.int .i64 V) := by rw [d7.cell]; rfl
        have y2 : wd.cell? ⟨w7.heap.size, 2, none⟩ = some (.int .i64 X) := by rw [d7.cell]; rfl
        have y3 : wd.cell? ⟨w7.heap.size, 3, none⟩ = some (.slice pg m cg) := by rw [d7.cell]; rfl
        have gP : (P != P) = false := by simp
        have gV : (V != V) = false := by simp
        have gX : (X != X) = false := by simp
        have gm : ((m : Int) != (m : Int)) = false := by simp
        have C7 := hid c7
        have HWD := hid hwd
        clear hrg hb7 c7 d7 hwd CL2 hvg
        go_upto_region 11 with fail
        rw [← HWD.out]
        go_upto_region 16 with fail
        clear x0' x1 x2 x3 y0 y1 y2 y3
        go_loopg [14] m (fun k s14 wx => ∃ i : Nat, i + k = m ∧ s14 = .int .i64 i ∧ Below wd.heap.size wd wx)
        case atStart => exact ⟨0, by omega, rfl, Below.refl _ _⟩
        case round =>
          obtain ⟨i, hik, rfl, hbx⟩ := hrel
          have HIK := hid hik
          have BI := hid hbx
          clear hik hbx
          by_cases him : i < m
          · have gi : (i : Int) < (m : Int) := by omega
            have gi0 : (0 : Int) ≤ (i : Int) := by omega
            have gid : i < m := him
            go_upto_region 19 with fail
            go_loopg [15] i (fun k s15 wx => ∃ y : Nat, y + k = i ∧ s15 = .int .i64 y ∧ Below wd.heap.size wd wx)
            case atStart => exact ⟨0, by omega, rfl, BI.out⟩
            case round =>
              obtain ⟨y, hyk, rfl, hby⟩ := hrel
              have HYK := hid hyk
              have BY := hid hby
              clear hyk hby
              by_cases hyi : y < i
              · have hiO : i < O.length := by rw [← HN.out]; exact him
                have hyO : y < O.length := by omega
                have hiF : i < F1.length := by rw [HF1.out]; exact him
                have hyF : y < F1.length := by omega
                have B5d := hid (show Below w5.heap.size w5 wr from BD.out.trans (BY.out.mono BD.out.size))
                have B2d := hid (show Below w2.heap.size w2 wr from B5.out.trans (B5d.out.mono B5.out.size))
                obtain ⟨_, pq, cq, bq, oq, hvq, hpq, hcq⟩ := RO.out
                injection hvq with q1 q2 q3
                obtain ⟨hp1, hbq⟩ := hpq (by omega)
                rw [hp1] at q1
                obtain ⟨_, pz, cz, bz, oz, hvz, hpz, hcz⟩ := RF.out
                injection hvz with q4 q5 q6
                obtain ⟨hp2, hbz⟩ := hpz (by omega)
                rw [hp2] at q4
                subst q1 q3 q4 q6
                clear q2 q5 hp1 hp2
                have sI := hcq i hiO
                have sY := hcq y hyO
                have CE := hid (show ∀ wx, Below wr.heap.size wr wx → wx.cell? ⟨w5.heap.size, 3, none⟩ = some (.slice (some ⟨bz, oz, none⟩) m cf) ∧ wx.cell? ⟨bz, oz + i, none⟩ = some (.int .i64 F1[i]) ∧ wx.cell? ⟨bz, oz + y, none⟩ = some (.int .i64 F1[y]) ∧ wx.cell? ⟨bq, oq + i * 3, none⟩ = some (.int .i64 O[i].s) ∧ wx.cell? ⟨bq, oq + i * 3 + 1, none⟩ = some (.int .i64 O[i].p) ∧ wx.cell? ⟨bq, oq + i * 3 + 2, none⟩ = some (.int .i64 O[i].q) ∧ wx.cell? ⟨bq, oq + y * 3, none⟩ = some (.int .i64 O[y].s) ∧ wx.cell? ⟨bq, oq + y * 3 + 1, none⟩ = some (.int .i64 O[y].p) ∧ wx.cell? ⟨bq, oq + y * 3 + 2, none⟩ = some (.int .i64 O[y].q) ∧ w5.heap.size < wx.heap.size from fun wx hb => by
                  have e5 : Below w5.heap.size w5 wx := B5d.out.trans (hb.mono B5d.out.size)
                  have e2 : Below w2.heap.size w2 wx := B2d.out.trans (hb.mono B2d.out.size)
                  have cc := C7.out.below (BY.out.trans (hb.mono BY.out.size)) C7.out.lt
                  refine ⟨by rw [cc.cell]; rfl, ?_, ?_, (e2.cell (p := ⟨bq, oq + i * 3, none⟩) hbq).trans (sI 0 (by omega)), (e2.cell (p := ⟨bq, oq + i * 3 + 1, none⟩) hbq).trans (sI 1 (by omega)), (e2.cell (p := ⟨bq, oq + i * 3 + 2, none⟩) hbq).trans (sI 2 (by omega)), (e2.cell (p := ⟨bq, oq + y * 3, none⟩) hbq).trans (sY 0 (by omega)), (e2.cell (p := ⟨bq, oq + y * 3 + 1, none⟩) hbq).trans (sY 1 (by omega)), (e2.cell (p := ⟨bq, oq + y * 3 + 2, none⟩) hbq).trans (sY 2 (by omega)), cc.lt⟩
                  · have := (e5.cell (p := ⟨bz, oz + i * 1 + 0, none⟩) hbz).trans (hcz i hiF 0 (by omega))
                    simpa [encI] using this
                  · have := (e5.cell (p := ⟨bz, oz + y * 1 + 0, none⟩) hbz).trans (hcz y hyF 0 (by omega))
                    simpa [encI] using this)
                have hfi := FB.out i hiO hiF
                have hfy := FB.out y hyO hyF
                have hqi := (HOK.out _ (List.getElem_mem hiO)).2.2.2.2
                have hqy := (HOK.out _ (List.getElem_mem hyO)).2.2.2.2
                have SP := hid (ST.out i y hiO hyi hiF)
                obtain ⟨bi, hbi⟩ : ∃ bi, bi = O[i] := ⟨_, rfl⟩
                obtain ⟨by', hby'⟩ : ∃ by', by' = O[y] := ⟨_, rfl⟩
                obtain ⟨fi, hfi'⟩ : ∃ fi, fi = F1[i] := ⟨_, rfl⟩
                obtain ⟨fy, hfy'⟩ : ∃ fy, fy = F1[y] := ⟨_, rfl⟩
                rw [← hbi] at CE hfi hqi SP
                rw [← hby'] at CE hfy hqy SP
                rw [← hfi'] at CE hfi SP
                rw [← hfy'] at CE hfy SP
                have gy : (y : Int) < (i : Int) := by omega
                have gy0 : (0 : Int) ≤ (y : Int) := by omega
                have gym : (y : Int) < (m : Int) := by omega
                have ew : IntKind.i64.wrap (fi - fy) = fi - fy := IntWalk.i64_in _ (by omega)
                obtain ⟨d, hd⟩ : ∃ d, d = fi - fy := ⟨_, rfl⟩
                rw [← hd] at ew
                have ew2 : IntKind.i64.wrap (fi - fy) = d := by rw [← hd]; exact ew
                have HD := hid hd
                clear hbi hby' hfi' hfy' hpq hcq hpz hcz sI sY ew hd
                obtain ⟨w8, rfl⟩ : ∃ w8 : World, w8 = wr := ⟨_, rfl⟩
                obtain ⟨k0, k1, k2, k3, k4, k5, k6, k7, k8, k9⟩ := CE.out w8 (Below.refl _ _)
                go_upto_region 21 with fail
                go_cut [16] (fun s16 wx => s16 = .int .i64 d ∧ Below w8.heap.size w8 wx)
                case first =>
                  go_region
                  all_goals go_wp2
                  all_goals (
                    go_meet
                    exact ⟨rfl, (Below.refl _ _).drew⟩)
                case rest =>
                  obtain ⟨rfl, hbc⟩ := hcut
                  have BC := hid (BY.out.trans (hbc.mono BY.out.size))
                  obtain ⟨k0, k1, k2, k3, k4, k5, k6, k7, k8, k9⟩ := CE.out wc hbc
                  obtain ⟨w9, rfl⟩ : ∃ w9 : World, w9 = wc := ⟨_, rfl⟩
                  clear hbc
                  by_cases hbe : bi = by'
                  · have hs := SP.out hbe
                    subst hbe
                    have n1 : ¬ (0 : Int) < d := by have := HD.out; omega
                    have n2 : ¬ d < -1 := by have := HD.out; omega
                    clear hs
                    go_upto_region 22 with fail
                    go_region
                    all_goals go_wp2
                    all_goals (
                      go_roundg (i - (y + 1))
                      · exact ⟨y + 1, by omega, by go_num, BC.out.drew⟩
                      · have := HYK.out; omega)
                  · have hne : ¬ (bi.s = by'.s ∧ bi.p = by'.p ∧ bi.q = by'.q) := fun h => hbe (by
                      cases bi; cases by'; simp only at h; obtain ⟨rfl, rfl, rfl⟩ := h; rfl)
                    clear hbe
                    have hcase : ((bi.s == by'.s) = false) ∨ ((bi.s == by'.s) = true ∧ (bi.p == by'.p) = false) ∨ ((bi.s == by'.s) = true ∧ (bi.p == by'.p) = true ∧ (bi.q == by'.q) = false) := by
                      cases q1 : (bi.s == by'.s) <;> cases q2 : (bi.p == by'.p) <;> cases q3 : (bi.q == by'.q) <;> simp
                      exact hne ⟨by simpa using q1, by simpa using q2, by simpa using q3⟩
                    clear hne
                    rcases hcase with z1 | ⟨z1, z2⟩ | ⟨z1, z2, z3⟩
                    all_goals (
                      go_upto_region 22 with fail
                      go_region
                      all_goals go_wp2
                      all_goals (
                        go_roundg (i - (y + 1))
                        · exact ⟨y + 1, by omega, by go_num, BC.out.drew⟩
                        · have := HYK.out; omega))
              · have hyi2 : y = i := by have := HYK.out; omega
                subst hyi2
                have g5 : ¬ (y : Int) < (y : Int) := by omega
                go_wp2
                go_roundg (m - (y + 1))
                · exact ⟨y + 1, by omega, by go_num, BY.out⟩
                · have := HIK.out; omega
          · have him2 : i = m := by have := HIK.out; omega
            subst him2
            have g5 : ¬ (i : Int) < (i : Int) := by omega
            go_wp2_with fail
            refine (AW.out _).mono ?_
            rintro e w9 ⟨rfl, hb9⟩
            have F := hid (FN.out w9 (B2.out.trans ((B5.out.trans ((BD.out.trans ((BI.out.trans (hb9.mono BI.out.size)).mono BD.out.size)).mono B5.out.size)).mono B2.out.size)))
            clear hb9
            go_wp2
            first | exact F.out | (go_ret; exact F.out)
    · obtain ⟨i, rfl⟩ : ∃ i, j = i + 1 := ⟨j - 1, by omega⟩
      have hil : i < O.length := by rw [← HN.out]; omega
      obtain ⟨_, pq, cq, bq, oq, hvq, hpq, hcq⟩ := RO.out
      injection hvq with q1 q2 q3
      obtain ⟨hp1, hbq⟩ := hpq (by omega)
      rw [hp1] at q1
      subst q1 q3
      clear q2 hp1
      have c0 := (BX.out.cell (p := ⟨bq, oq + i * 3 + 0, none⟩) hbq).trans (hcq i hil 0 (by omega))
      have c1 := (BX.out.cell (p := ⟨bq, oq + i * 3 + 1, none⟩) hbq).trans (hcq i hil 1 (by omega))
      have c2 := (BX.out.cell (p := ⟨bq, oq + i * 3 + 2, none⟩) hbq).trans (hcq i hil 2 (by omega))
      simp [encBd] at c0 c1 c2
      have ht := drop_rev hil
      obtain ⟨b, hb⟩ : ∃ b, b = O[i] := ⟨_, rfl⟩
      rw [← hb] at c0 c1 c2 ht
      have ej : ((i + 1 : Nat) : Int) - 1 = (i : Int) := by omega
      rw [ej]
      have gi : (i : Int) < (n : Int) := by omega
      have gi0 : (0 : Int) ≤ (i : Int) := by omega
      have ew : IntKind.i64.wrap ((i : Int) - 1) = (i : Int) - 1 := IntWalk.i64_in _ (by omega)
      have so : SrcE encBd 3 (wr.alloc (.cells #[.int .i64 b.s, .int .i64 b.p, .int .i64 b.q] 40)) (.slice (some ⟨wr.heap.size, 0, none⟩) 1 1) [b] := SrcE.one (Cells.new wr _ _)
      obtain ⟨v6, w6, r2, r3, k3, _⟩ := own_append (ty := 22) undR infoR rfl (by omega) encBd_len encBd_one (ROW.out.alloc (.cells #[.int .i64 b.s, .int .i64 b.p, .int .i64 b.q] 40)) (by have := BX.out.size; simp; omega) so (by unfold maxLen; simp; rw [← HN.out]; omega) (by simp; rw [← HN.out]; omega)
      have R2 := hid r2
      have R6 := hid (show RowR w2.heap.size w6 v6 (O.drop i).reverse by rw [ht]; exact r3)
      have B6 := hid (show Below w2.heap.size w2 w6 from (BX.out.alloc BX.out.size _).trans (k3.below (by have := BX.out.size; simp; omega) (fun k hk => by
        rcases HHO.out with ⟨rfl, _⟩ | ⟨g', rfl, hg', _⟩ <;> cases hk
        exact hg')))
      clear so r2 r3 k3 ht hb hpq hcq ej
      go_wp2_with (at_builtin; refine wpList_append_run rfl (.tmp 27) (.tmp 32) 22 rfl _ _ v6 w6 rfl rfl R2.out ?_)
      go_roundg i
      · exact ⟨i, rfl, by omega, by go_num, R6.out, B6.out⟩
      · have := HJK.out; omega
end Go.Proofs.Ytjhelinbjlahiaa
