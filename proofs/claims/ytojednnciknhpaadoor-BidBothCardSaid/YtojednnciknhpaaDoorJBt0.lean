/- BidBoth: the walk. -/
import Derived.Test.YtojednnciknhpaaDoorJLh1
import Derived.Test.YtojednnciknhpaaDoorJPm8
namespace Go.Proofs.YtojednnciknhpaaDoor
set_option linter.unusedSimpArgs false
set_option linter.unusedVariables false
open Go.RowKit
attribute [local go_sem] Oper.semAt_some
attribute [local go_sem ↓] Go.wp_at_zero Go.wp_at_succ
theorem hallA_chk {L : List (List Int)} {n : Nat} (ok : OkH L n) (h1 : 1 ≤ n) (h2 : n ≤ 10) (h3 : L.length ≤ 12) : chkA (hallA L n) = 0 := by
  unfold chkA hallA
  simp only
  rw [if_neg (by omega), if_neg (by simp), if_neg (by simp [isW]), if_neg, if_neg]
  · rintro h
    obtain ⟨l, hl, h⟩ := List.any_eq_true.1 h
    obtain ⟨o, ho, h⟩ := List.any_eq_true.1 h
    obtain ⟨row, hrow, rfl⟩ := List.mem_map.1 hl
    obtain ⟨k, hk, rfl⟩ := List.mem_map.1 ho
    have hk := List.mem_range.1 hk
    have hw := ok.ok row hrow (row.getD k 0) (by rw [List.getD_eq_getElem?_getD, List.getElem?_eq_getElem (by rw [ok.len row hrow]; exact hk)]; exact List.getElem_mem _)
    have p2 : 2 ^ k < 2 ^ n := Nat.pow_lt_pow_right (by omega) hk
    have p0 : 0 < 2 ^ k := Nat.two_pow_pos k
    have e : okO (n : Int).toNat ⟨2 ^ k, row.getD k 0⟩ = true := by
      unfold okO isW
      simp
      exact ⟨p2, hw⟩
    rw [e] at h
    cases h
  · rintro (h | h)
    · rw [bidsS_len] at h; omega
    · obtain ⟨l, hl, h⟩ := List.any_eq_true.1 h
      obtain ⟨row, hrow, rfl⟩ := List.mem_map.1 hl
      simp [rowO] at h
      omega
theorem hallA_ok {L : List (List Int)} {n : Nat} (ok : OkH L n) (h1 : 1 ≤ n) (h2 : n ≤ 10) (h3 : L.length ≤ 12) : OkA (hallA L n) n := by
  obtain ⟨g, h⟩ := OkA.of (hallA_chk ok h1 h2 h3)
  have : g = n := by have := h.hg; unfold hallA at this; simp only at this; omega
  subst this
  exact h
theorem made_zero (w : World) (N : Nat) : RI (w.alloc (.cells (madeCells #[.int .i64 0] N) 2)) w.heap.size (List.replicate N 0) := RowX.made w N 0 _ rfl
/-- The auction, first drawn. -/
theorem ApS.first (w : World) (N : Nat) : ApS w.heap.size ((w.alloc (.cells (madeCells #[.int .i64 0] N) 2)).alloc (.cells #[.int .i64 N, .slice (some ⟨w.heap.size, 0, none⟩) N N, .slice none 0 0] 35)) (w.heap.size + 1) N (.slice (some ⟨w.heap.size, 0, none⟩) N N) (.slice none 0 0) (List.replicate N 0) w.heap.size [] ∧ Below w.heap.size w ((w.alloc (.cells (madeCells #[.int .i64 0] N) 2)).alloc (.cells #[.int .i64 N, .slice (some ⟨w.heap.size, 0, none⟩) N N, .slice none 0 0] 35)) := by
  have s1 : ∀ o, (w.alloc o).heap.size = w.heap.size + 1 := fun o => by simp
  refine ⟨⟨?_, by omega, RowX.alloc (made_zero w N) _, Nat.le_refl _, OwnT.nil _ _⟩, ((Below.refl _ _).alloc (Nat.le_refl _) _).alloc (by simp) _⟩
  have := Cells.new (w.alloc (.cells (madeCells #[.int .i64 0] N) 2)) #[.int .i64 N, .slice (some ⟨w.heap.size, 0, none⟩) N N, .slice none 0 0] 35
  rw [s1] at this
  exact this
theorem ApS.first' (w : World) (N : Nat) : ApS w.heap.size ((w.alloc (.cells #[.int .i64 N, .slice (some ⟨w.heap.size + 1, 0, none⟩) N N, .slice none 0 0] 35)).alloc (.cells (madeCells #[.int .i64 0] N) 2)) w.heap.size N (.slice (some ⟨w.heap.size + 1, 0, none⟩) N N) (.slice none 0 0) (List.replicate N 0) (w.heap.size + 1) [] ∧ Below w.heap.size w ((w.alloc (.cells #[.int .i64 N, .slice (some ⟨w.heap.size + 1, 0, none⟩) N N, .slice none 0 0] 35)).alloc (.cells (madeCells #[.int .i64 0] N) 2)) := by
  have s1 : ∀ o, (w.alloc o).heap.size = w.heap.size + 1 := fun o => by simp
  refine ⟨⟨(Cells.new w _ _).alloc _, Nat.le_refl _, ?_, by omega, OwnT.nil _ _⟩, ((Below.refl _ _).alloc (Nat.le_refl _) _).alloc (by simp) _⟩
  have := made_zero (w.alloc (.cells #[.int .i64 N, .slice (some ⟨w.heap.size + 1, 0, none⟩) N N, .slice none 0 0] 35)) N
  rw [s1] at this
  exact this
theorem rowO_len (n : Nat) (row : List Int) : (rowO n row).length = n := by simp [rowO]
theorem rowO_take {n j : Nat} (row : List Int) (h : j < n) : (rowO n row).take (j + 1) = (rowO n row).take j ++ [⟨2 ^ j, row.getD j 0⟩] := by
  rw [List.take_add_one, rowO_get row h]
  rfl
theorem bidsS_take {L : List (List Int)} {n i : Nat} (h : i < L.length) : (bidsS L n).take (i + 1) = (bidsS L n).take i ++ [rowO n (L.getD i [])] := by
  rw [List.take_add_one, List.getElem?_eq_getElem (by rw [bidsS_len]; exact h), bidsS_get h]
  rfl

set_option maxRecDepth 100000 in
set_option maxHeartbeats 16000000 in
theorem both_law (w : World) (hT : TabOk w) (v : Value) (L0 : List (List Int)) (h : NestA encI 1 w v L0) (_hq : ∀ l ∈ L0, ∀ x ∈ l, -9223372036854775808 ≤ x ∧ x ≤ 9223372036854775807) :
    Calls Tryd.prog 5 #[v] w fun e w' => e = .returned (.bool true) ∧ Below w.heap.size w w' := by
  have HC := hid (tidy_calls h 6 6 (by omega) (by omega))
  obtain ⟨R, hR⟩ : ∃ R : Ending → World → Prop, R = fun e w' => e = .returned (.bool true) ∧ Below w.heap.size w w' := ⟨_, rfl⟩
  rw [← hR]
  have FN := hid (show ∀ w', Below w.heap.size w w' → R (.returned (.bool true)) w' from fun w' h => by rw [hR]; exact ⟨rfl, h⟩)
  have TO := hid hT
  obtain ⟨L, hL⟩ : ∃ L, L = tidyF L0 6 6 := ⟨_, rfl⟩
  have CK := hid (show chkH L = 0 by rw [hL]; exact tidy_chk (by omega) (by omega))
  have LN := hid (show 1 ≤ L.length ∧ L.length ≤ 6 by rw [hL, tidyF_len]; unfold trows; omega)
  have LC := hid (show 1 ≤ cols L ∧ cols L ≤ 6 by rw [hL, tidyF_cols]; unfold tcols; omega)
  have OK := hid (show OkH L (cols L) by rw [hL, tidyF_cols]; exact tidy_okH (by omega) (by omega))
  rw [← hL] at HC
  obtain ⟨f, q, hf, hq⟩ := least_ex OK.out
  have HF := hid hf
  have Q := hid hq
  have FL := hid (hq.hall OK.out)
  have ql := hid hq.len
  clear hR hL hT hf hq
  obtain ⟨p, cap, rfl, _⟩ := h.open_
  obtain ⟨n0, hn0⟩ : ∃ n0, n0 = L0.length := ⟨_, rfl⟩
  rw [← hn0] at HC ⊢
  clear h hn0
  go_enter Tryd.func5, Tryd.ntmps5
  go_wp2_with fail
  refine HC.out.mono ?_
  rintro e w1 ⟨v1, rfl, ht, hb1⟩
  have B1 := hid hb1
  have N1 := hid (ht.nest encI_len (by have := LN.out.2; omega) (fun r hr => by have := OK.out.len r hr; have := LC.out.2; omega))
  obtain ⟨bb, off, c1, q1, q2, hv1, hc1, hrw⟩ := nest_first N1.out LN.out.1
  have HRW := hid hrw
  obtain ⟨n, hn⟩ : ∃ n, n = L.length := ⟨_, rfl⟩
  obtain ⟨N, hN⟩ : ∃ N, N = cols L := ⟨_, rfl⟩
  have HN := hid hn
  have HNN := hid hN
  have HH := hid (hall_calls N1.out CK.out HF.out)
  rw [← hn] at hv1 LN
  rw [← hN] at hc1 LC OK Q HH ql
  subst hv1
  have HC1 := hid hc1
  obtain ⟨n1, n6⟩ := LN.out
  obtain ⟨N1', N6⟩ := LC.out
  clear hb1 ht hn hN HC hc1 hrw
  go_wp2_with fail
  refine HH.out.mono ?_
  rintro e w2 ⟨vl, gp, rfl, hrl, hrp, _, hok, hgp, hb2⟩
  have B12 := hid hb2
  have B2 := hid (B1.out.trans (hb2.mono B1.out.size))
  have N2 := hid (N1.out.below hb2)
  have RL2 := hid hrl
  have RP2 := hid hrp
  have OKQ := hid hok
  obtain ⟨pl, cl, hvl, _⟩ := hrl.form
  obtain ⟨nl, hnl⟩ : ∃ nl, nl = (hallF L q L []).length := ⟨_, rfl⟩
  rw [← hnl] at hvl
  subst hvl
  have hnln : n = nl := by rw [hnl, FL.out.mem.len, HN.out]
  subst hnln
  have k0 := HC1.out w2 hb2
  have HNL := hid hnl
  clear hrl hrp hok hgp hb2 HH hnl
  go_upto_region 3 with fail
  go_cut [7] (fun s7 wx => ∃ ga gr, s7 = .pointer (some ⟨ga, 0, none⟩) ∧ ApS w2.heap.size wx ga N (.slice (some ⟨gr, 0, none⟩) N N) (.slice none 0 0) (List.replicate N 0) gr [] ∧ Below w2.heap.size w2 wx)
  case first =>
    have gN : (0 : Int) ≤ (N : Int) := by omega
    have gN2 : (N : Int) ≤ 1000 := by omega
    have g01 : (0 : Int) < (n : Int) := by omega
    have g02 : 0 < n := by omega
    have KS := hid (show ∀ wx, Below w2.heap.size w2 wx → wx.cell? ⟨bb, off, none⟩ = some (.slice q1 N q2) from fun wx hb => HC1.out wx (B12.out.trans (hb.mono B12.out.size)))
    have hcur := Below.refl w2.heap.size w2
    have hkI := fun w => mk_I w N (by omega)
    go_region_held3 (fun wh => wh.cell? ⟨bb, off, none⟩ = some (.slice q1 N q2))
      (first | exact KS.out _ hcur | exact KS.out _ hcur.drew | exact KS.out _ (hcur.alloc hcur.size _) | exact KS.out _ ((hcur.alloc hcur.size _).alloc (hcur.alloc hcur.size _).size _) | exact KS.out _ (hcur.alloc hcur.size _).drew | exact KS.out _ ((hcur.alloc hcur.size _).alloc (hcur.alloc hcur.size _).size _).drew | assumption)
      (fail)
    all_goals go_wp2
    all_goals go_meet
    · obtain ⟨a1, a2⟩ := ApS.first w2 N
      exact ⟨_, _, rfl, a1.below (Below.refl _ _).drew, a2.drew⟩
    · obtain ⟨a1, a2⟩ := ApS.first' w2 N
      exact ⟨_, _, rfl, a1.below (Below.refl _ _).drew, a2.drew⟩
  case rest =>
  obtain ⟨ga, gr, rfl, ha, hb3⟩ := hcut
  obtain ⟨w3, hw3⟩ : ∃ w3, w3 = wc := ⟨_, rfl⟩
  rw [← hw3] at ha hb3 ⊢
  have A3 := hid ha
  have B3 := hid hb3
  clear ha hb3 hw3 k0
  go_upto_block 0 with fail
  go_cut [8, 9, 10] (fun s8 s9 s10 wx => ∃ vb, ApS w2.heap.size wx ga N (.slice (some ⟨gr, 0, none⟩) N N) vb (List.replicate N 0) gr (bidsS L N) ∧ Below w2.heap.size w2 wx)
  case first =>
    go_upto_region 5 with fail
    go_loopg [8, 9, 10] n (fun k s8 s9 s10 wr => ∃ (i : Nat) (vb : Value), i + k = n ∧ s8 = .int .i64 i ∧ ApS w2.heap.size wr ga N (.slice (some ⟨gr, 0, none⟩) N N) vb (List.replicate N 0) gr ((bidsS L N).take i) ∧ Below w2.heap.size w2 wr)
    case atStart => exact ⟨0, _, by omega, rfl, A3.out, B3.out⟩
    case round =>
    obtain ⟨i, vb, hik, rfl, ha, hb⟩ := hrel
    obtain ⟨wL, hwL⟩ : ∃ wL, wL = wr := ⟨_, rfl⟩
    rw [← hwL] at ha hb ⊢
    clear hwL
    have HIK := hid hik
    have AI := hid ha
    have BI := hid hb
    obtain ⟨pb, cb, hvb⟩ := ha.tb.form
    rw [List.length_take, bidsS_len, ← HN.out] at hvb
    clear hik ha hb
    by_cases hin : i < n
    · have hil : i < L.length := by rw [← HN.out]; exact hin
      obtain ⟨u, hu1, hu2⟩ := HRW.out i hil
      obtain ⟨pu, cu, hu, hua⟩ := reads_at hu1
      obtain ⟨row, hrow⟩ : ∃ row, row = L[i] := ⟨_, rfl⟩
      have HROW := hid hrow
      have RLN := hid (show row.length = N by rw [hrow]; exact OK.out.len _ (List.getElem_mem hil))
      rw [← hrow, RLN.out] at hu
      have HUA := hid hua
      have KI := hid (show ∀ wx, Below w1.heap.size w1 wx → wx.cell? ⟨bb, off + i, none⟩ = some (.slice pu N cu) from fun wx hb => by rw [hu2 wx hb, hu])
      have B1x := hid (fun (wx : World) (hb : Below wL.heap.size wL wx) => B12.out.trans ((BI.out.trans (hb.mono BI.out.size)).mono B12.out.size))
      rw [Nat.min_eq_left (by omega)] at hvb
      subst hvb
      have gi : (i : Int) < (n : Int) := by omega
      have gi0 : (0 : Int) ≤ (i : Int) := by omega
      clear hu1 hu2 hu hua hrow
      go_upto_block 2 with fail
      go_cut [9, 10] (fun s9 s10 wx => ∃ b9, b9 = s9 ∧ RowO wL.heap.size wx b9 (rowO N row) ∧ Below wL.heap.size wL wx)
      case first =>
        go_upto_region 9 with fail
        go_loopg [9, 10] N (fun k s9 s10 wx => ∃ (j : Nat) (b9 : Value), j + k = N ∧ s10 = .int .i64 j ∧ b9 = s9 ∧ RowO wL.heap.size wx b9 ((rowO N row).take j) ∧ Below wL.heap.size wL wx)
        case atStart => exact ⟨0, _, by omega, rfl, rfl, OwnE.nil _ _, Below.refl _ _⟩
        case round =>
        obtain ⟨j, b9, hjk, rfl, rfl, hr9, hbx⟩ := hrel
        have HJK := hid hjk
        have R9 := hid hr9
        have BX := hid hbx
        have k0 := KI.out wr (B1x.out wr hbx)
        obtain ⟨p9, c9, hv9, _⟩ := hr9.form
        rw [List.length_take, rowO_len] at hv9
        clear hjk hr9 hbx
        by_cases hjn : j < N
        · rw [Nat.min_eq_left (by omega)] at hv9
          subst hv9
          have hjl : j < row.length := by rw [RLN.out]; exact hjn
          obtain ⟨b0, o0, rfl, hx⟩ := HUA.out j (by rw [← HROW.out]; exact hjl)
          have k1 := hx wr (B1x.out wr BX.out)
          have er : row.getD j 0 = L[i][j]'(by rw [← HROW.out]; exact hjl) := by simp [HROW.out, show j < L[i].length by rw [← HROW.out]; exact hjl]
          rw [← er] at k1
          obtain ⟨v', w', r1, r2, r3⟩ := off_app R9.out BX.out.size ⟨2 ^ j, row.getD j 0⟩ (by rw [List.length_take, rowO_len]; omega)
          rw [← rowO_take row hjn] at r2
          simp only at r1
          obtain ⟨x, hx'⟩ : ∃ x, x = row.getD j 0 := ⟨_, rfl⟩
          rw [← hx'] at k1 r1
          have hp : ((2 ^ j : Nat) : Int) = (2 : Int) ^ j % 4294967296 := by
            have h1 := pow_small (k := j) (by omega)
            have h2 : ((2 ^ j : Nat) : Int) = (2 : Int) ^ j := by simp
            rw [← h2]
            exact (Int.emod_eq_of_lt (Int.natCast_nonneg _) (Int.ofNat_lt.2 h1)).symm
          rw [hp] at r1
          have R1 := hid r1
          have R2 := hid r2
          have R3 := hid r3
          have gj : (j : Int) < (N : Int) := by omega
          have gj0 : (0 : Int) ≤ (j : Int) := by omega
          clear r1 r2 r3 er hx hx' hp
          go_wp2_with (at_builtin; refine wpList_append_run rfl (.tmp 48) (.tmp 60) 50 rfl _ _ v' w' rfl rfl R1.out ?_)
          go_roundg (N - (j + 1))
          · exact ⟨j + 1, _, by omega, by go_num, rfl, R2.out, BX.out.trans R3.out⟩
          · have := HJK.out; omega
        · obtain rfl : j = N := by have := HJK.out; omega
          have g2 : decide ((j : Int) < (j : Int)) = false := by simp
          have F := hid (show ∃ b9', b9' = b9 ∧ RowO wL.heap.size wr b9' (rowO j row) ∧ Below wL.heap.size wL wr from ⟨_, rfl, by have := R9.out; rwa [List.take_of_length_le (by rw [rowO_len]; omega)] at this, BX.out⟩)
          subst hv9
          go_wp2
          go_meet
          exact F.out
      case rest =>
      obtain ⟨b9, rfl, hr9, hb9⟩ := hcut
      obtain ⟨wM, hwM⟩ : ∃ wM, wM = wc := ⟨_, rfl⟩
      rw [← hwM] at hr9 hb9 ⊢
      clear hwM
      have BM := hid (BI.out.trans (hb9.mono BI.out.size))
      have AM := hid (AI.out.below hb9)
      obtain ⟨p9, c9, hv9, _⟩ := hr9.form
      rw [rowO_len] at hv9
      subst hv9
      obtain ⟨v', w', r1, r2, r3, r4, r5⟩ := AM.out.app BM.out.size (hr9.mono BI.out.size) (by rw [List.length_take, bidsS_len]; omega)
      have er : row = L.getD i [] := by rw [HROW.out]; simp [hil]
      rw [er, ← bidsS_take hil] at r4
      obtain ⟨pv, cv, hv'⟩ := r4.tb.form
      rw [List.length_take, bidsS_len, ← HN.out, Nat.min_eq_left (by omega)] at hv'
      subst hv'
      have R1 := hid r1
      have R2 := hid r2
      have R4 := hid r4
      have R5 := hid r5
      have k2 : wM.cell? ⟨ga, 2, none⟩ = some (.slice pb i cb) := by rw [AM.out.ca.cell]; rfl
      have f2 := r3.frozen 2
      have l2 : w'.cell? ⟨ga, 2, none⟩ = some (.slice pb i cb) := by rw [r3.cell]; rfl
      clear r1 r2 r3 r4 r5 hr9 hb9 er
      go_wp2_with (at_builtin; refine wpList_append_run rfl (.tmp 63) (.tmp 65) 33 rfl _ _ (.slice pv (i + 1 : Nat) cv) w' rfl rfl R1.out ?_)
      go_roundg (n - (i + 1))
      · exact ⟨i + 1, _, by omega, by go_num, R4.out, BM.out.trans R5.out⟩
      · have := HIK.out; omega
    · obtain rfl : i = n := by have := HIK.out; omega
      have g2 : decide ((i : Int) < (i : Int)) = false := by simp
      have F := hid (show ∃ vb', ApS w2.heap.size wL ga N (.slice (some ⟨gr, 0, none⟩) N N) vb' (List.replicate N 0) gr (bidsS L N) ∧ Below w2.heap.size w2 wL from ⟨_, by have := AI.out; rwa [List.take_of_length_le (by rw [bidsS_len, ← HN.out]; exact Nat.le_refl _)] at this, BI.out⟩)
      subst hvb
      go_wp2
      go_meet
      exact F.out
  case rest =>
  obtain ⟨vb, ha, hb⟩ := hcut
  obtain ⟨w4, hw4⟩ : ∃ w4, w4 = wc := ⟨_, rfl⟩
  rw [← hw4] at ha hb ⊢
  clear hw4
  have A4 := hid ha
  have B4 := hid hb
  have AV := hid (show AuV w4 (.slice (some ⟨gr, 0, none⟩) N N) vb (hallA L N) by
    have := (by simpa using ha : ApS w2.heap.size w4 ga N (.slice (some ⟨gr, 0, none⟩) (List.replicate N (0 : Int)).length N) vb (List.replicate N 0) gr (bidsS L N)).auv (by simp; omega) (by rw [bidsS_len, ← HN.out]; omega) (fun l hl => by
      obtain ⟨row, _, rfl⟩ := List.mem_map.1 hl
      rw [rowO_len]; omega) (fun l hl o ho => by
      obtain ⟨row, _, rfl⟩ := List.mem_map.1 hl
      obtain ⟨k, hk, rfl⟩ := List.mem_map.1 ho
      have := List.mem_range.1 hk
      exact pow_small (by omega))
    simpa [hallA] using this)
  have SC := hid (solve_calls AV.out (hallA_chk OK.out N1' (by omega) (by rw [← HN.out]; omega)) (hallA_ok OK.out N1' (by omega) (by rw [← HN.out]; omega)) (TO.out.below (B2.out.trans (B4.out.mono B2.out.size))))
  obtain ⟨pb, cb, hvb⟩ := ha.tb.form
  rw [bidsS_len, ← HN.out] at hvb
  subst hvb
  have k0 : w4.cell? ⟨ga, 0, none⟩ = some (.int .i64 N) := by rw [ha.ca.cell]; rfl
  have k1 : w4.cell? ⟨ga, 1, none⟩ = some (.slice (some ⟨gr, 0, none⟩) N N) := by rw [ha.ca.cell]; rfl
  have k2 : w4.cell? ⟨ga, 2, none⟩ = some (.slice pb n cb) := by rw [ha.ca.cell]; rfl
  obtain ⟨V, hV⟩ : ∃ V, V = valT (hallA L N) [] 0 (2 ^ N - 1) := ⟨_, rfl⟩
  have SD := hid (show Calls Tryd.prog 19 #[.agg #[.int .i64 N, .slice (some ⟨gr, 0, none⟩) N N, .slice pb n cb]] w4 fun e w' => ∃ gc gp, e = .returned (.tuple #[.agg #[.slice (some ⟨gc, 0, none⟩) n n, .int .i64 V, .slice (some ⟨gp, 0, none⟩) n n], .int .i64 0]) ∧ RN w' gc (hallF L q L []) ∧ RI w' gp (paysF (hallA L N) (2 ^ N - 1)) ∧ Below w4.heap.size w4 w' from by
    refine SC.out.mono ?_
    rintro e w' ⟨gc, gp, rfl, s1, s2, s3, s4, s5⟩
    have hbl : (hallA L N).bid.length = n := by rw [HN.out]; exact bidsS_len L N
    have hbest : bestF (hallA L N).res (hallA L N).bid (2 ^ N - 1) = hallF L q L [] := hallA_best (by omega) OK.out Q.out
    refine ⟨gc, gp, ?_, by rw [← hbest]; exact s1, s2, s5⟩
    rw [hV]
    unfold awV
    rw [hbl])
  clear ha hb hV SC
  go_wp2_with fail
  refine SD.out.mono ?_
  rintro e w5 ⟨gc, gy, rfl, s1, s2, hb5⟩
  have B5 := hid (B4.out.trans (hb5.mono B4.out.size))
  have S1 := hid s1
  have S2 := hid s2
  clear s1 s2 hb5 k0 k1 k2 SD A4
  obtain ⟨w6, hw6⟩ : ∃ w6, w6 = w5.alloc (.cells #[.slice (some ⟨gc, 0, none⟩) n n, .int .i64 V, .slice (some ⟨gy, 0, none⟩) n n] 29) := ⟨_, rfl⟩
  have B56 := hid (show Below w5.heap.size w5 w6 by rw [hw6]; exact (Below.refl _ _).alloc (Nat.le_refl _) _)
  have CA := hid (show Cells w6 w5.heap.size #[.slice (some ⟨gc, 0, none⟩) n n, .int .i64 V, .slice (some ⟨gy, 0, none⟩) n n] 29 by rw [hw6]; exact Cells.new w5 _ _)
  have HW6 := hid hw6
  clear hw6
  go_upto_region 14 with fail
  rw [← HW6.out]
  have B6 := hid (B5.out.trans (B56.out.mono B5.out.size))
  have S1x := hid (fun wx (hb : Below w6.heap.size w6 wx) => (S1.out.below' (B56.out.trans (hb.mono B56.out.size))).reads (by rw [FL.out.mem.len, ← HN.out]; omega) n)
  have IC := hid (ints_calls (w := w6) (v := .slice (some ⟨gc, 0, none⟩) n n) (v' := .slice pl n cl) (l := hallF L q L []) (by have := S1x.out w6 (Below.refl _ _); rwa [← HNL.out] at this) ((RL2.out.below B6.out).reads encI_len (by rw [← HNL.out]; omega)))
  have k0 : w6.cell? ⟨w5.heap.size, 0, none⟩ = some (.slice (some ⟨gc, 0, none⟩) n n) := by rw [CA.out.cell]; rfl
  have g1 : ((n : Int) != (n : Int)) = false := by simp
  have g2 : ((N : Int) != (N : Int)) = false := by simp
  clear HW6
  go_wp2_with fail
  refine IC.out.mono ?_
  rintro e w7 ⟨rfl, hb7⟩
  have B67 := hid hb7
  have B7 := hid (B6.out.trans (hb7.mono B6.out.size))
  have CA7 := hid (CA.out.below hb7 CA.out.lt)
  have k1 : w7.cell? ⟨w5.heap.size, 2, none⟩ = some (.slice (some ⟨gy, 0, none⟩) n n) := by rw [CA7.out.cell]; rfl
  have k2 := HC1.out w7 (B12.out.trans (B7.out.mono B12.out.size))
  have gn0 : (0 : Int) < (n : Int) := by omega
  clear hb7 IC S1x k0
  go_upto_region 16 with fail
  have RL7 := hid (RL2.out.below B7.out)
  have RP7 := hid (RP2.out.below' B7.out)
  have S27 := hid (S2.out.below' (B56.out.trans (B67.out.mono B56.out.size)))
  obtain ⟨pl', cl', hpl, hla⟩ := reads_at (RL7.out.reads encI_len (by rw [← HNL.out]; omega))
  rw [← HNL.out] at hpl
  injection hpl with h1 h2 h3
  subst h1 h3
  have HLA := hid hla
  have PAY := hid (show ∀ b, b < n → (paysF (hallA L N) (2 ^ N - 1)).getD b 0 = if (hallF L q L []).getD b (-1) < 0 then 0 else q.getD ((hallF L q L []).getD b (-1)).toNat 0 from fun b hb => by
    rw [← hallA_pay (by omega) OK.out Q.out (by rw [← HN.out]; exact hb)]
    have hbl : (hallA L N).bid.length = n := by rw [HN.out]; exact bidsS_len L N
    unfold paysF
    rw [hbl]
    simp [hb])
  have PL := hid (show (paysF (hallA L N) (2 ^ N - 1)).length = n by rw [paysF_len, HN.out]; exact bidsS_len L N)
  have BND := hid (show ∀ b, b < n → (hallF L q L []).getD b (-1) < (N : Int) from fun b hb => by
    rcases FL.out.mem.cont b (by rw [← HN.out]; exact hb) with ⟨e, _⟩ | ⟨j, e, h⟩
    · omega
    · have := dem_lt h
      have := ql.out
      omega)
  clear hla k1 k2 RL2 RP2 S1 S2 h2
  go_upto_region 17 with fail
  go_loopg [13, 14] n (fun k s13 s14 wr => ∃ b : Nat, b + k = n ∧ s13 = .int .i64 b ∧ Below w7.heap.size w7 wr)
  case atStart => exact ⟨0, by omega, rfl, Below.refl _ _⟩
  case round =>
  obtain ⟨b, hbk, rfl, hb⟩ := hrel
  have HBK := hid hbk
  have B := hid hb
  clear hbk hb
  by_cases hbn : b < n
  · have hbl : b < (hallF L q L []).length := by rw [← HNL.out]; exact hbn
    obtain ⟨bl, ol, rfl, hx⟩ := HLA.out b hbl
    have k0 := hx wr B.out
    have k1 : wr.cell? ⟨w5.heap.size, 2, none⟩ = some (.slice (some ⟨gy, 0, none⟩) n n) := by rw [(CA7.out.below B.out CA7.out.lt).cell]; rfl
    have k2 := (S27.out.below' B.out).cellD (i := b) (by rw [PL.out]; exact hbn) 0
    have hp := PAY.out b hbn
    have hbd := BND.out b hbn
    rw [hp] at k2
    have e0 : (hallF L q L []).getD b (-1) = (hallF L q L [])[b] := by simp [hbl]
    rw [e0] at k2 hbd
    obtain ⟨x, hx⟩ : ∃ x, x = (hallF L q L [])[b] := ⟨_, rfl⟩
    rw [← hx] at k0 k2 hbd
    have gb : (b : Int) < (n : Int) := by omega
    have gb0 : (0 : Int) ≤ (b : Int) := by omega
    clear hx hp e0
    by_cases hx0 : x < 0
    · rw [if_pos hx0] at k2
      have gx : decide (0 ≤ x) = false := by simp; omega
      have g0 : ((0 : Int) != 0) = false := by simp
      clear hx0
      go_wp2
      go_roundg (n - (b + 1))
      · exact ⟨b + 1, by omega, by go_num, B.out⟩
      · have := HBK.out; omega
    · rw [if_neg hx0] at k2
      have gx : 0 ≤ x := by omega
      obtain ⟨y, rfl⟩ : ∃ y : Nat, x = (y : Int) := ⟨x.toNat, by omega⟩
      rw [show ((y : Int)).toNat = y by simp] at k2
      have k3 := (RP7.out.below' B.out).cellD (i := y) (by rw [ql.out]; omega) 0
      obtain ⟨z, hz⟩ : ∃ z, z = q.getD y 0 := ⟨_, rfl⟩
      rw [← hz] at k2 k3
      have gz : (z != z) = false := by simp
      clear hx0 hz
      go_wp2
      go_roundg (n - (b + 1))
      · exact ⟨b + 1, by omega, by go_num, B.out⟩
      · have := HBK.out; omega
  · obtain rfl : b = n := by have := HBK.out; omega
    have g3 : decide ((b : Int) < (b : Int)) = false := by simp
    have AW := hid (awake_calls (TO.out.below (B2.out.trans ((B7.out.trans (B.out.mono B7.out.size)).mono B2.out.size))))
    go_wp2_with fail
    refine AW.out.mono ?_
    rintro e w8 ⟨rfl, hb8⟩
    have F := hid (FN.out w8 ((B2.out.trans ((B7.out.trans (B.out.mono B7.out.size)).mono B2.out.size)).trans (hb8.mono (B2.out.trans ((B7.out.trans (B.out.mono B7.out.size)).mono B2.out.size)).size)))
    go_wp2
    first | exact F.out | (go_ret; exact F.out)
end Go.Proofs.YtojednnciknhpaaDoor
