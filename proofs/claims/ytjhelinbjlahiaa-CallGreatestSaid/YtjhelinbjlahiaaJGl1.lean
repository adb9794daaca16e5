/- CallGreatest: the walk. -/
import Derived.Test.YtjhelinbjlahiaaJGl0
namespace Go.Proofs.Ytjhelinbjlahiaa
set_option linter.unusedSimpArgs false
set_option linter.unusedVariables false
open Go.RowKit
attribute [local go_sem] Oper.semAt_some
attribute [local go_sem ↓] Go.wp_at_zero Go.wp_at_succ

set_option maxRecDepth 100000 in
set_option maxHeartbeats 8000000 in
theorem greatest_law (w : World) (v : Value) (l : List Bd) (hv : ArgE encBd 3 w v l) (vf : Value) (fl : List Int) (hvf : ArgE encI 1 w vf fl) (rule : Int) :
    Calls Try.prog 10 #[v, vf, .int .i64 rule] w fun e w' => e = .returned (.bool true) ∧ Below w.heap.size w w' := by
  obtain ⟨R, hR⟩ : ∃ R : Ending → World → Prop, R = fun e w' => e = .returned (.bool true) ∧ Below w.heap.size w w' := ⟨_, rfl⟩
  rw [← hR]
  have FN := hid (show ∀ w', Below w.heap.size w w' → R (.returned (.bool true)) w' from fun w' h => by rw [hR]; exact ⟨rfl, h⟩)
  clear hR
  have TM := hid (tame_calls (hv.src encBd_len (by omega)) 30 (by omega))
  obtain ⟨hmF, pF, capF, b2, off2, rfl, hpF, hcF⟩ := hvf.reads
  obtain ⟨nf, hnf⟩ : ∃ nf, nf = fl.length := ⟨_, rfl⟩
  rw [← hnf] at hmF hpF ⊢
  have HNF := hid hnf
  have CF := hid (show ∀ wx, Below w.heap.size w wx → ∀ (k : Nat) (hk : k < fl.length), pF = some ⟨b2, off2, none⟩ ∧ wx.cell? ⟨b2, off2 + k, none⟩ = some (.int .i64 fl[k]) from fun wx hb k hk => by
    obtain ⟨h1, hbb⟩ := hpF (by omega)
    refine ⟨h1, ?_⟩
    have := (hb.cell (p := ⟨b2, off2 + k * 1 + 0, none⟩) hbb).trans (hcF k hk 0 (by omega))
    simpa [encI] using this)
  obtain ⟨O, hO⟩ : ∃ O, O = tameL 30 l := ⟨_, rfl⟩
  have hOk : ∀ b ∈ O, b.ok := by rw [hO]; exact tameL_ok 30 l
  have hOl : O.length ≤ 30 := by rw [hO]; exact tameL_len 30 l
  rw [← hO] at TM
  have HOK := hid hOk
  have AW := hid awake_calls
  clear hO hv hOk hvf hnf hpF hcF
  go_enter Try.func10, Try.ntmps10
  go_wp2_with fail
  refine TM.out.mono ?_
  rintro e w2 ⟨v2, rfl, hr2, hb2⟩
  have B2 := hid hb2
  obtain ⟨pO, cO, hvO, _⟩ := hr2.form
  obtain ⟨n, hn⟩ : ∃ n, n = O.length := ⟨_, rfl⟩
  rw [← hn] at hvO hOl
  subst hvO
  have HN := hid hn
  have RO := hid (OwnE.reads encBd_len hr2 (by omega))
  have HOL := hid (show O.length ≤ 4096 by omega)
  clear hr2 hb2 TM hn
  have GO := hid (fun wx (hb : Below w2.heap.size w2 wx) => give_calls (RO.out.below hb) (by rw [← HN.out]; omega))
  have RG := hid (fun wx (hb : Below w2.heap.size w2 wx) => greatest_rcalls (RO.out.below hb) HOL.out HOK.out)
  have ur := um_range rule (k := 2) (by omega)
  have t1 := um_tmod rule 2
  have t2 : IntKind.i64.wrap (um rule 2) = um rule 2 := IntWalk.i64_in _ (by omega)
  have t3 : IntKind.i64.wrap (1 + um rule 2) = 1 + um rule 2 := IntWalk.i64_in _ (by omega)
  go_wp2_with fail
  refine (GO.out _ (Below.refl _ _)).mono ?_
  rintro e w3 ⟨v3, rfl, hr3, hb3⟩
  have B3 := hid hb3
  have CL := hid (clear_calls (OwnE.reads encBd_len hr3 (by rw [← HN.out]; omega)) 50 (1 + um rule 2))
  clear hr3 hb3
  by_cases hM : most O = 0
  · have hc := clearF_eq HOL.out HOK.out (x := 50) (rule := 1 + um rule 2) (by omega) (by omega)
    rw [if_pos (.inl (price_zero HOK.out HOL.out 50 hM))] at hc
    rw [hc] at CL
    have GZ := hid (gre_zero HOL.out HOK.out hM)
    clear hM hc
    go_wp2_with fail
    refine CL.out.mono ?_
    rintro e w4 ⟨⟨vg, rfl, hrg⟩, hb4⟩
    obtain ⟨pg, cg, rfl⟩ := own_empty hrg
    have B4 := hid (B3.out.trans (hb4.mono B3.out.size))
    have B5 := hid (B4.out.alloc B4.out.size (.cells #[.int .i64 0, .int .i64 0, .int .i64 0, .slice pg 0 cg] 26))
    obtain ⟨w5, hw5⟩ : ∃ w5, w5 = w4.alloc (.cells #[.int .i64 0, .int .i64 0, .int .i64 0, .slice pg 0 cg] 26) := ⟨_, rfl⟩
    rw [← hw5] at B5
    have HW5 := hid hw5
    clear hrg hb4 CL hw5
    go_upto_region 3 with fail
    rw [← HW5.out]
    go_wp2_with fail
    refine (RG.out _ B5.out).mono ?_
    rintro e w6 ⟨g, rfl, hg, hb6⟩
    have g0 : g = 0 := hg.uniq GZ.out
    subst g0
    have B6 := hid (B5.out.trans (hb6.mono B5.out.size))
    clear hg hb6
    go_wp2_with fail
    refine (AW.out _).mono ?_
    rintro e w7 ⟨rfl, hb7⟩
    have F := hid (FN.out w7 (B2.out.trans ((B6.out.trans (hb7.mono B6.out.size)).mono B2.out.size)))
    clear hb7
    go_wp2
    first | exact F.out | (go_ret; exact F.out)
  · obtain ⟨P, D, V, F, hc, hF, hg, hw⟩ := mir_clear HOL.out HOK.out hM (x := 50) (kind := 1 + um rule 2) (by omega) (by omega)
    rw [hc] at CL
    have hge : GrE O (gsum O F) := by
      obtain ⟨y, y1, y2, y3, rfl⟩ := hw
      exact gre_fills HOK.out ⟨y1, y2⟩ y3
    rw [← HN.out] at hF
    have HF := hid hF
    have HG := hid hg
    obtain ⟨G, hGe⟩ : ∃ G, G = gsum O F := ⟨_, rfl⟩
    rw [← hGe] at hge
    have GE := hid hge
    have HGE := hid hGe
    clear hM hc hF hg hw hge hGe
    go_wp2_with fail
    refine CL.out.mono ?_
    rintro e w4 ⟨⟨vg, rfl, hrg⟩, hb4⟩
    obtain ⟨pg, cg, hvg, _⟩ := hrg.form
    rw [HF.out] at hvg
    subst hvg
    have B4 := hid (B3.out.trans (hb4.mono B3.out.size))
    have RF := hid (OwnE.mono hrg B3.out.size)
    obtain ⟨w5, hw5⟩ : ∃ w5, w5 = w4.alloc (.cells #[.int .i64 P, .int .i64 V, .int .i64 D, .slice pg n cg] 26) := ⟨_, rfl⟩
    have b45 : Below w4.heap.size w4 w5 := by rw [hw5]; exact (Below.refl _ _).alloc (Nat.le_refl _) _
    have B5 := hid (B4.out.trans (b45.mono B4.out.size))
    have C5 := hid (show Cells w5 w4.heap.size #[.int .i64 P, .int .i64 V, .int .i64 D, .slice pg n cg] 26 by rw [hw5]; exact Cells.new w4 _ _)
    have RF5 := hid (OwnE.below RF.out b45)
    have HW5 := hid hw5
    clear hrg hb4 CL hw5 b45
    go_upto_region 3 with fail
    rw [← HW5.out]
    go_upto_region 5 with fail
    have KG := hid (show ∀ wh, Below w5.heap.size w5 wh → wh.cell? ⟨w4.heap.size, 3, none⟩ = some (.slice pg n cg) from fun wh hb => by
      rw [(C5.out.below hb C5.out.lt).cell]; rfl)
    have GO2 := hid (show ∀ wx, Below w5.heap.size w5 wx → Calls Try.prog 16 #[.slice pO n cO] wx fun e w' => ∃ v', e = .returned v' ∧ RowC w5.heap.size w' v' O ∧ Below w5.heap.size w5 w' from fun wx hb =>
      (GO.out wx (B5.out.trans (hb.mono B5.out.size))).mono fun e w' h => by
        obtain ⟨v', h1, h2, h3⟩ := h
        exact ⟨v', h1, h2.mono hb.size, hb.trans (h3.mono hb.size)⟩)
    have N1 := hid (show ∀ wx u, RowC w5.heap.size wx u O → Below w5.heap.size w5 wx → Calls Try.prog 33 #[u, .slice pg n cg] wx fun e w' => e = .returned (.tuple #[.int .i64 G, .int .i64 0]) ∧ Below w5.heap.size w5 w' from fun wx u hr hb =>
      (gain_calls (OwnE.reads encBd_len hr (by rw [← HN.out]; omega)) (OwnE.reads encI_len (OwnE.below RF5.out hb) (by rw [HF.out]; omega))).mono fun e w' h => by
        rw [HG.out, ← HGE.out] at h
        exact ⟨h.1, hb.trans (h.2.mono hb.size)⟩)
    go_cut [10, 11] (fun s22 s23 wx => s22 = .int .i64 G ∧ s23 = .int .i64 0 ∧ Below w5.heap.size w5 wx)
    case first =>
      have hcur := Below.refl w5.heap.size w5
      go_region_held3 (fun wh => wh.cell? ⟨w4.heap.size, 3, none⟩ = some (.slice pg n cg))
        (first | exact KG.out _ hcur | exact KG.out _ hcur.drew | assumption)
        (first
          | (go_at_call 16; refine (GO2.out _ ?_).mono ?_; (first | exact hcur.drew | exact hcur); rintro e w14 ⟨v14, rfl, hr14, hb14⟩; replace hcur := hb14)
          | (go_at_call 33; refine (N1.out _ _ hr14 ?_).mono ?_; (first | exact hcur.drew | exact hcur); rintro e w15 ⟨rfl, hb15⟩; replace hcur := hb15))
      all_goals go_wp2
      all_goals (
        go_meet
        exact ⟨rfl, rfl, hcur⟩)
    case rest =>
    obtain ⟨rfl, rfl, hb6⟩ := hcut
    obtain ⟨w6, rfl⟩ : ∃ w6 : World, w6 = wc := ⟨_, rfl⟩
    have B6 := hid (B5.out.trans (hb6.mono B5.out.size))
    clear hb6 KG GO2 N1
    go_wp2_with fail
    refine (RG.out _ B6.out).mono ?_
    rintro e w7 ⟨g, rfl, hg, hb7⟩
    have g0 : g = G := hg.uniq GE.out
    subst g0
    have gg : (g != g) = false := by simp
    have B7 := hid (B6.out.trans (hb7.mono B6.out.size))
    have hmk := mk_i64 w7 n (by omega)
    have R0 := hid (RowL.made w7 n)
    have B8 := hid (show Below w7.heap.size w7 (w7.alloc (.cells (madeCells #[.int .i64 0] n) 2)) from (Below.refl _ _).alloc (Nat.le_refl _) _)
    clear hg hb7
    obtain ⟨g1, hg1⟩ : ∃ g1, g1 = w7.heap.size := ⟨_, rfl⟩
    have HG1 := hid hg1
    have CE := hid (show ∀ wx, Below w2.heap.size w2 wx → ∃ bb off, ∀ k : Nat, k < n → pO = some ⟨bb, off, none⟩ ∧ wx.cell? ⟨bb, off + k * 3, none⟩ = some (.int .i64 (bAt O k).s) ∧ wx.cell? ⟨bb, off + k * 3 + 2, none⟩ = some (.int .i64 (bAt O k).q) from fun wx hb => by
      obtain ⟨_, p', cap', bb, off, hv', hp', hc'⟩ := RO.out
      injection hv' with e1 e2 e3
      refine ⟨bb, off, fun k hk => ?_⟩
      have hkl : k < O.length := by rw [← HN.out]; exact hk
      obtain ⟨h1, hbb⟩ := hp' (by omega)
      rw [bAt_get hkl]
      refine ⟨e1.trans h1, ?_, ?_⟩
      · have := (hb.cell (p := ⟨bb, off + k * 3 + 0, none⟩) hbb).trans (hc' k hkl 0 (by omega)); simpa [encBd] using this
      · have := (hb.cell (p := ⟨bb, off + k * 3 + 2, none⟩) hbb).trans (hc' k hkl 2 (by omega)); simpa [encBd] using this)
    have BO := hid (show ∀ k : Nat, k < n → (bAt O k).ok from fun k hk => by rw [bAt_get (by rw [← HN.out]; exact hk)]; exact HOK.out _ (List.getElem_mem _))
    have B72 := hid (B2.out.trans (B7.out.mono B2.out.size))
    obtain ⟨w8, hw8⟩ : ∃ w8, w8 = w7.alloc (.cells (madeCells #[.int .i64 0] n) 2) := ⟨_, rfl⟩
    rw [← hw8] at R0 B8
    rw [← hw8, ← hg1] at hmk
    rw [← hg1] at R0
    clear hg1 hw8
    go_upto_block 0 with fail
    go_cut [13] (fun s13 wx => ∃ f, RowL wx g1 n f ∧ (∀ k, k < n → 0 ≤ f k ∧ f k ≤ (bAt O k).q) ∧ Below w7.heap.size w7 wx)
    case first =>
      go_wp2_with fail
      go_loopg [13] n (fun k s13 wx => ∃ (i : Nat) (f : Nat → Int), i + k = n ∧ s13 = .int .i64 i ∧ RowL wx g1 n f ∧ (∀ k, k < n → 0 ≤ f k ∧ f k ≤ (bAt O k).q) ∧ Below w7.heap.size w7 wx)
      case atStart => exact ⟨0, _, by omega, rfl, R0.out, fun k hk => by obtain ⟨_, _, _, h, _⟩ := BO.out k hk; omega, B8.out⟩
      case round =>
        obtain ⟨i, f, hik, rfl, hr, hf, hb⟩ := hrel
        have HIK := hid hik
        have RR := hid hr
        have FB := hid hf
        have B := hid hb
        clear hik hr hf hb R0 B8 hmk
        by_cases hin : i < n
        · have gi : (i : Int) < (n : Int) := by omega
          by_cases hif : i < nf
          · obtain ⟨bb, off, ce⟩ := CE.out wr (B7.out.trans (B.out.mono B7.out.size))
            obtain ⟨rfl, _, c2⟩ := ce i hin
            have hil : i < fl.length := by rw [← HNF.out]; exact hif
            obtain ⟨rfl, c3⟩ := CF.out wr (B72.out.trans (B.out.mono B72.out.size)) i hil
            have d1 := RR.out.froz i
            have d0 := RR.out.cell hin
            have d2 := RR.out.lt
            have gf : (i : Int) < (nf : Int) := by omega
            have gi0 : (0 : Int) ≤ (i : Int) := by omega
            obtain ⟨_, _, _, q1, q2⟩ := BO.out i hin
            obtain ⟨q, hq⟩ : ∃ q, q = (bAt O i).q := ⟨_, rfl⟩
            rw [← hq] at c2 q1 q2
            obtain ⟨x, hx⟩ : ∃ x, x = fl[i] := ⟨_, rfl⟩
            rw [← hx] at c3
            have ux := um_range x (k := q + 1) (by omega)
            have y1 : IntKind.i64.wrap (q + 1) = q + 1 := IntWalk.i64_in _ (by omega)
            have y2 : IntKind.u64.wrap (q + 1) = q + 1 := Int.emod_eq_of_lt (by omega) (by show q + 1 < 18446744073709551616; omega)
            have y3 := um_tmod x (q + 1)
            have y4 : IntKind.i64.wrap (um x (q + 1)) = um x (q + 1) := IntWalk.i64_in _ (by omega)
            have y5 : q + 1 ≠ 0 := by omega
            obtain ⟨y, hy⟩ : ∃ y, um x (q + 1) = y := ⟨_, rfl⟩
            rw [hy] at y3 y4 ux
            have NX := hid (show ∀ wx, Below wr.heap.size wr wx → RowL (wx.setCell ⟨g1, i, none⟩ (.int .i64 y)) g1 n (fun k => if k = i then y else f k) ∧ (∀ k, k < n → 0 ≤ (if k = i then y else f k) ∧ (if k = i then y else f k) ≤ (bAt O k).q) ∧ Below w7.heap.size w7 (wx.setCell ⟨g1, i, none⟩ (.int .i64 y)) from fun wx hb => by
              refine ⟨(RR.out.kept (Kept.of_below (X := fun _ => False) hb) id).set i y, fun k hk => ?_, (B.out.trans (hb.mono B.out.size)).trans ((set_kept wx g1 i _).below (B.out.trans (hb.mono B.out.size)).size (fun k hk => by have := HG1.out; omega))⟩
              by_cases e : k = i
              · subst e; simp only [if_pos]; omega
              · simp only [if_neg e]; exact FB.out k hk)
            clear hq hx hy ce
            go_upto_region 12 with fail
            go_region
            all_goals go_wp2
            all_goals (
              go_roundg (n - (i + 1))
              · exact ⟨i + 1, _, by omega, by go_num, (NX.out _ (Below.refl _ _).drew).1, (NX.out _ (Below.refl _ _).drew).2.1, (NX.out _ (Below.refl _ _).drew).2.2⟩
              · have := HIK.out; omega)
          · have gf : ¬ (i : Int) < (nf : Int) := by omega
            go_wp2
            go_meet
            exact ⟨f, RR.out, FB.out, B.out⟩
        · have gi : ¬ (i : Int) < (n : Int) := by omega
          go_wp2
          go_meet
          exact ⟨f, RR.out, FB.out, B.out⟩
    case rest =>
    obtain ⟨f, hr8, hf8, hb8⟩ := hcut
    obtain ⟨w9, rfl⟩ : ∃ w9 : World, w9 = wc := ⟨_, rfl⟩
    have R9 := hid hr8
    have F9 := hid hf8
    have B9 := hid (B7.out.trans (hb8.mono B7.out.size))
    have B79 := hid hb8
    clear hr8 hf8 hb8 R0 B8 hmk
    have hl0 : ∀ x ∈ fL O f, 0 ≤ x ∧ x ≤ 1000000000 := fun x hx => by
      obtain ⟨k, hk, rfl⟩ := List.mem_map.1 hx
      have hk' : k < n := by rw [HN.out]; exact List.mem_range.1 hk
      have := F9.out k hk'
      obtain ⟨_, _, _, _, q⟩ := BO.out k hk'
      omega
    have rows : ∀ wx f', RowL wx g1 n f' → ReadsE encI 1 wx (.slice (some ⟨g1, 0, none⟩) n n) (fL O f') := fun wx f' h =>
      OwnE.reads encI_len (h.own (B := 0) (l := fL O f') (by rw [HN.out]; simp [fL]) (fun k hk => by simp [fL]) (Nat.zero_le _) (by unfold maxLen; omega)) (by simp [fL]; rw [← HN.out]; omega)
    have ROWS := hid rows
    have S0 := hid (sums2_calls (RO.out.below (B7.out.trans (B79.out.mono B7.out.size))) (rows w9 f R9.out) (by simp [fL]) (by rw [← HN.out]; omega) hl0)
    have hst := BlS.start (l := O) (f := f) (fun k hk => F9.out k (by rw [HN.out]; exact hk))
    rw [(fL_sums O f).1, (fL_sums O f).2] at S0
    obtain ⟨b, hb⟩ : ∃ b, b = pB O f O.length := ⟨_, rfl⟩
    obtain ⟨t, ht⟩ : ∃ t, t = pS O f O.length := ⟨_, rfl⟩
    rw [← hb, ← ht] at S0 hst
    rw [← HN.out] at hst
    have ST := hid hst
    have en : IntKind.i64.wrap ((n : Int) - 1) = (n : Int) - 1 := IntWalk.i64_in _ (by omega)
    clear hl0 rows hst hb ht
    go_wp2_with fail
    refine S0.out.mono ?_
    rintro e w10 ⟨rfl, hb10⟩
    have R10 := hid (R9.out.kept (Kept.of_below (X := fun _ => False) hb10) id)
    have B10 := hid (B79.out.trans (hb10.mono B79.out.size))
    clear hb10 S0
    go_upto_region 15 with fail
    go_loopg [14, 15, 16, 17, 18] n (fun k s14 s15 s16 s17 s18 wx => ∃ (j : Nat) (f : Nat → Int) (b t : Int), j = k ∧ j ≤ n ∧ s16 = .int .i64 ((j : Int) - 1) ∧ s14 = .int .i64 b ∧ s15 = .int .i64 t ∧ RowL wx g1 n f ∧ BlS O f b t j ∧ Below w7.heap.size w7 wx)
    case atStart => exact ⟨n, f, b, t, rfl, Nat.le_refl _, rfl, rfl, rfl, R10.out, ST.out, B10.out⟩
    case round =>
      obtain ⟨j, f', b', t', hjk, hjn, rfl, rfl, rfl, hr, hbl, hb⟩ := hrel
      have HJK := hid hjk
      have RR := hid hr
      have BL := hid hbl
      have B := hid hb
      clear hjk hr hbl hb
      have sm := BL.out.small (by rw [← HN.out]; exact hOl) HOK.out
      rcases Nat.eq_zero_or_pos j with hj | hj
      · subst hj
        have e0 : ((0 : Nat) : Int) - 1 = -1 := rfl
        rw [e0]
        obtain ⟨z1, z2, z3⟩ := BL.out.last HOL.out HOK.out GE.out
        subst z1
        have zz : (b' == b') = true := by simp
        obtain ⟨h, hh⟩ : ∃ h, h = gsum O (fL O f') := ⟨_, rfl⟩
        rw [← hh] at z2 z3
        have HGN := hid z2
        have R11 := hid RR.out
        clear hh z2 sm e0
        have GV := hid (GO.out wr (B7.out.trans (B.out.mono B7.out.size)))
        go_wp2_with fail
        refine GV.out.mono ?_
        rintro e w12 ⟨v12, rfl, hr12, hb12⟩
        have GA := hid (gain_calls (OwnE.reads encBd_len hr12 (by rw [← HN.out]; omega)) (ROWS.out w12 f' (RR.out.kept (Kept.of_below (X := fun _ => False) hb12) id)))
        rw [HGN.out] at GA
        have B12 := hid (B.out.trans (hb12.mono B.out.size))
        clear hr12 hb12 GV
        go_wp2_with fail
        refine GA.out.mono ?_
        rintro e w13 ⟨rfl, hb13⟩
        have B13 := hid (B12.out.trans (hb13.mono B12.out.size))
        clear hb13 GA
        go_wp2_with fail
        refine (AW.out _).mono ?_
        rintro e w14 ⟨rfl, hb14⟩
        have F := hid (FN.out w14 (B72.out.trans ((B13.out.trans (hb14.mono B13.out.size)).mono B72.out.size)))
        clear hb14
        go_wp2
        first | exact F.out | (go_ret; exact F.out)
      · obtain ⟨i, rfl⟩ : ∃ i, j = i + 1 := ⟨j - 1, by omega⟩
        have e0 : ((i + 1 : Nat) : Int) - 1 = (i : Int) := by omega
        rw [e0]
        have hin : i < n := by omega
        have gi : (i : Int) < (n : Int) := by omega
        have gi0 : (0 : Int) ≤ (i : Int) := by omega
        have ei : IntKind.i64.wrap ((i : Int) - 1) = (i : Int) - 1 := IntWalk.i64_in _ (by omega)
        obtain ⟨bb, off, ce⟩ := CE.out wr (B7.out.trans (B.out.mono B7.out.size))
        obtain ⟨rfl, c0, _⟩ := ce i hin
        have d0 := RR.out.cell hin
        have d1 := RR.out.froz i
        have d2 := RR.out.lt
        have hfi := BL.out.bd i (by rw [← HN.out]; exact hin)
        have hq := (BO.out i hin)
        have w1 : IntKind.i64.wrap (b' - t') = b' - t' := IntWalk.i64_in _ (by omega)
        have w2' : IntKind.i64.wrap (t' - b') = t' - b' := IntWalk.i64_in _ (by omega)
        have hio : i < O.length := by rw [← HN.out]; exact hin
        clear e0 ce hj
        rcases hq.1 with hs | hs
        · rw [hs] at c0
          by_cases hbt : t' < b'
          · have NB := hid (BL.out.buy hio hs hbt)
            have NR := hid (show RowL (wr.setCell ⟨g1, i, none⟩ (.int .i64 (f' i - min (b' - t') (f' i)))) g1 n (cutF f' i (min (b' - t') (f' i))) from RR.out.set i _)
            obtain ⟨y, hy⟩ : ∃ y, y = f' i := ⟨_, rfl⟩
            rw [← hy] at d0 hfi NB NR
            obtain ⟨m, hm⟩ : ∃ m, min (b' - t') y = m := ⟨_, rfl⟩
            rw [hm] at NB NR
            have hq2 := hq.2.2.2
            have w3 : IntKind.i64.wrap (y - m) = y - m := IntWalk.i64_in _ (by omega)
            have w4' : IntKind.i64.wrap (b' - m) = b' - m := IntWalk.i64_in _ (by omega)
            have BN := hid (B.out.trans ((set_kept wr g1 i (.int .i64 (y - m))).below B.out.size (fun k hk => by have := HG1.out; omega)))
            obtain ⟨bb', off', ce'⟩ := CE.out (wr.setCell ⟨g1, i, none⟩ (.int .i64 (y - m))) (B7.out.trans (BN.out.mono B7.out.size))
            obtain ⟨ee, c0', _⟩ := ce' i hin
            cases ee
            rw [hs] at c0'
            clear ce'
            clear hy hs hq hq2 hfi sm
            go_wp2
            go_roundg i
            · exact ⟨i, _, _, _, rfl, by omega, rfl, rfl, rfl, NR.out, NB.out, BN.out⟩
            · have := HJK.out; omega
          · have NB := hid (BL.out.skip hio (fun _ => by omega) (fun h => absurd hs h))
            clear hs hq hfi sm
            go_wp2
            go_roundg i
            · exact ⟨i, _, _, _, rfl, by omega, rfl, rfl, rfl, RR.out, NB.out, B.out⟩
            · have := HJK.out; omega
        · have hs1 : (bAt O i).s ≠ 1 := by omega
          rw [hs] at c0
          by_cases hbt : b' < t'
          · have NB := hid (BL.out.sell hio hs1 hbt)
            have NR := hid (show RowL (wr.setCell ⟨g1, i, none⟩ (.int .i64 (f' i - min (t' - b') (f' i)))) g1 n (cutF f' i (min (t' - b') (f' i))) from RR.out.set i _)
            obtain ⟨y, hy⟩ : ∃ y, y = f' i := ⟨_, rfl⟩
            rw [← hy] at d0 hfi NB NR
            obtain ⟨m, hm⟩ : ∃ m, min (t' - b') y = m := ⟨_, rfl⟩
            rw [hm] at NB NR
            have hq2 := hq.2.2.2
            have w3 : IntKind.i64.wrap (y - m) = y - m := IntWalk.i64_in _ (by omega)
            have w4' : IntKind.i64.wrap (t' - m) = t' - m := IntWalk.i64_in _ (by omega)
            have BN := hid (B.out.trans ((set_kept wr g1 i (.int .i64 (y - m))).below B.out.size (fun k hk => by have := HG1.out; omega)))
            obtain ⟨bb', off', ce'⟩ := CE.out (wr.setCell ⟨g1, i, none⟩ (.int .i64 (y - m))) (B7.out.trans (BN.out.mono B7.out.size))
            obtain ⟨ee, c0', _⟩ := ce' i hin
            cases ee
            rw [hs] at c0'
            clear ce'
            clear hy hs hs1 hq hq2 hfi sm
            go_wp2
            go_roundg i
            · exact ⟨i, _, _, _, rfl, by omega, rfl, rfl, rfl, NR.out, NB.out, BN.out⟩
            · have := HJK.out; omega
          · have NB := hid (BL.out.skip hio (fun h => absurd h hs1) (fun _ => by omega))
            clear hs hs1 hq hfi sm
            go_wp2
            go_roundg i
            · exact ⟨i, _, _, _, rfl, by omega, rfl, rfl, rfl, RR.out, NB.out, B.out⟩
            · have := HJK.out; omega
end Go.Proofs.Ytjhelinbjlahiaa
