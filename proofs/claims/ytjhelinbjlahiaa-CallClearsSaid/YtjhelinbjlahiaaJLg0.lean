/- CallGains: the walk. -/
import Derived.Test.YtjhelinbjlahiaaJGf
namespace Go.Proofs.Ytjhelinbjlahiaa
set_option linter.unusedSimpArgs false
set_option linter.unusedVariables false
open Go.RowKit
attribute [local go_sem] Oper.semAt_some
attribute [local go_sem ↓] Go.wp_at_zero Go.wp_at_succ
theorem chk_ok {l : List Bd} (h1 : l.length ≤ 4096) (h2 : ∀ b ∈ l, b.ok) : chk l = 0 := by unfold chk; rw [if_neg (by omega), if_pos h2]
theorem gnF_ok {l : List Bd} (h1 : l.length ≤ 4096) (h2 : ∀ b ∈ l, b.ok) (f : List Int) : gnF l f = if fits l f then (gsum l f, 0) else (0, 1) := by
  unfold gnF fits; rw [if_neg (by rw [chk_ok h1 h2]; decide)]
theorem SrcX.below {α : Type} {enc : α → List Value} {sz : Nat} {w w' : World} {v : Value} {l : List α} (h : SrcX enc sz w v l) (hb : Below w.heap.size w w') : SrcX enc sz w' v l := by
  rcases h with q | ⟨a, c, q1, q2, q3⟩
  · exact .inl q
  · refine .inr ⟨a, c, q1, q2, fun j y hj => ?_⟩
    have := q3 j y hj
    have hlt := World.block_lt_of_cell? _ _ this
    rw [← this]
    exact hb.cell hlt
/-- append(nil, an argument's first elements). -/
theorem ints_take {w : World} {v : Value} {l : List Int} (hv : SrcX encI 1 w v l) {a : Addr} {n c : Nat} (e : v = .slice (some a) n c) {k : Nat} (hk : k ≤ n) (hk2 : k ≤ 5000) (B : Nat) (hB : B ≤ w.heap.size) :
    ∃ v' w', (Builtin.append_ #[24, 24] 24 #[.slice none 0 0, .slice (some a) k c]).run Try.prog w = .ok v' w' ∧ RowI B w' v' (l.take k) ∧ Below B w w' := by
  subst e
  have hu := hv.take encI_len hk
  have hl : (l.take k).length ≤ 5000 := by rw [List.length_take]; omega
  obtain ⟨v', w', r1, r2, r3⟩ := own_app (ty := 24) undI64 infoI64 rfl (by omega) encI_len encI_one (OwnE.nil B w) hB hu (by unfold maxLen; simp; omega) (by simp; omega)
  exact ⟨v', w', r1, by simpa using r2, r3.below hB (fun k hk => by cases hk)⟩

set_option maxRecDepth 100000 in
set_option maxHeartbeats 8000000 in
theorem gains_law (w : World) (v : Value) (l : List Bd) (hv : ArgE encBd 3 w v l) (vf : Value) (fl : List Int) (hvf : ArgE encI 1 w vf fl) :
    Calls Try.prog 9 #[v, vf] w fun e w' => e = .returned (.bool true) ∧ Below w.heap.size w w' := by
  obtain ⟨R, hR⟩ : ∃ R : Ending → World → Prop, R = fun e w' => e = .returned (.bool true) ∧ Below w.heap.size w w' := ⟨_, rfl⟩
  rw [← hR]
  have FN := hid (show ∀ w', Below w.heap.size w w' → R (.returned (.bool true)) w' from fun w' h => by rw [hR]; exact ⟨rfl, h⟩)
  clear hR
  have SRC := hid (hvf.src encI_len (by omega))
  have TM := hid (tame_calls (hv.src encBd_len (by omega)) 30 (by omega))
  have FRD := hid hvf.reads
  obtain ⟨O, hO⟩ : ∃ O, O = tameL 30 l := ⟨_, rfl⟩
  have hOk : ∀ b ∈ O, b.ok := by rw [hO]; exact tameL_ok 30 l
  have hOl : O.length ≤ 30 := by rw [hO]; exact tameL_len 30 l
  rw [← hO] at TM
  have HOK := hid hOk
  have AW := hid awake_calls
  obtain ⟨_, pf, cf, bf, off, hvv, hp3, hc3⟩ := hvf.reads
  obtain ⟨nf, hnf⟩ : ∃ nf, nf = fl.length := ⟨_, rfl⟩
  rw [← hnf] at hvv
  subst hvv
  have HNF := hid hnf
  have HP3 := hid hp3
  have HC3 := hid hc3
  clear hO hv hvf hOk hnf hp3 hc3
  go_enter Try.func9, Try.ntmps9
  go_wp2_with fail
  refine TM.out.mono ?_
  rintro e w2 ⟨v2, rfl, hr2, hb2⟩
  have R2 := hid hr2
  have B2 := hid hb2
  obtain ⟨pO, cO, hvO, _⟩ := hr2.form
  obtain ⟨n, hn⟩ : ∃ n, n = O.length := ⟨_, rfl⟩
  rw [← hn] at hvO hOl
  subst hvO
  have HN := hid hn
  clear hr2 hb2 TM hn
  go_upto_region 3 with fail
  go_cut [6] (fun s6 wx => ∃ F : List Int, RowI w.heap.size wx s6 F ∧ F.length ≤ 5000 ∧ Below w2.heap.size w2 wx)
  case first =>
    have src2 := SRC.out.below B2.out
    rcases SRC.out.form with ⟨hq, _⟩ | ⟨a, c, hq, hc⟩
    · injection hq with q1 q2 q3
      subst q1 q2 q3
      have ek : min (0 : Int) (32 : Int) = 0 := by omega
      have r1 : (Builtin.append_ #[24, 24] 24 #[.slice none 0 0, .slice none 0 0]).run Try.prog w2 = .ok (.slice none 0 0) w2 := by
        obtain ⟨i, h1, _, _, _⟩ := info_of infoI64
        exact run_append_owned_none (P := Try.prog) (w := w2) 0 _ _ _ i 1 undI64 h1 _ 0 [] (OwnE.nil (enc := encI) 0 w2)
      have R1 := hid r1
      clear r1 src2
      go_wp2_with (at_builtin; refine wpList_append_run rfl (.tmp 13) (.tmp 18) 24 rfl _ _ (.slice none 0 0) w2 rfl rfl R1.out ?_)
      go_meet
      exact ⟨[], OwnE.nil _ _, by simp, Below.refl _ _⟩
    · rw [← HNF.out] at hc hq
      injection hq with q1 q2 q3
      subst q1 q3
      obtain ⟨k, hk⟩ : ∃ k, k = min nf 32 := ⟨_, rfl⟩
      obtain ⟨v', w', r1, r2, r3⟩ := ints_take src2 rfl (k := k) (by omega) (by omega) w2.heap.size (Nat.le_refl _)
      have R1 := hid r1
      have RR := hid (r2.mono B2.out.size)
      have BB := hid r3
      have ek : min (nf : Int) (32 : Int) = (k : Int) := by omega
      have k1 : (k : Int) ≤ (cf : Int) := by omega
      have k0 : (0 : Int) ≤ (k : Int) := by omega
      have kl : (fl.take k).length ≤ 5000 := by rw [List.length_take]; omega
      clear r1 r2 r3 hk src2 q2
      go_wp2_with (at_builtin; refine wpList_append_run rfl (.tmp 13) (.tmp 18) 24 rfl _ _ v' w' rfl rfl R1.out ?_)
      go_meet
      exact ⟨_, RR.out, kl, BB.out⟩
  case rest =>
    obtain ⟨F, hrF, hFl, hb3⟩ := hcut
    obtain ⟨w3, rfl⟩ : ∃ w3 : World, w3 = wc := ⟨_, rfl⟩
    have RF := hid hrF
    have B3 := hid hb3
    have B23 := hid (B2.out.trans (hb3.mono B2.out.size))
    have R3 := hid (OwnE.below R2.out hb3)
    clear hrF hb3
    go_upto_region 5 with fail
    go_loopg [6, 7] 2 (fun k s6 s7 wx => ∃ (i : Nat) (F : List Int), i + k = 2 ∧ s7 = .int .i64 i ∧ RowI w.heap.size wx s6 F ∧ F.length ≤ 5000 ∧ Below w3.heap.size w3 wx)
    case atStart => exact ⟨0, F, rfl, rfl, RF.out, hFl, Below.refl _ _⟩
    case round =>
      obtain ⟨i, F4, hik, rfl, hr4, hFl4, hb4⟩ := hrel
      have HIK := hid hik
      have R4 := hid hr4
      have B4 := hid hb4
      clear hik hr4 hb4
      have B04 := hid (B23.out.trans (B4.out.mono B23.out.size))
      have OR := hid (show RowR w.heap.size wr (.slice pO n cO) O from OwnE.below R3.out B4.out)
      by_cases hi : i = 2
      · subst hi
        go_wp2_with fail
        refine (AW.out _).mono ?_
        rintro e w5 ⟨rfl, hb5⟩
        have F := hid (FN.out w5 (B04.out.trans (hb5.mono B04.out.size)))
        clear hb5
        go_wp2
        first | exact F.out | (go_ret; exact F.out)
      · have gi : (i : Int) < 2 := by have := HIK.out; omega
        have hi2 : i < 2 := by omega
        obtain ⟨p4, c4, hv4, _⟩ := R4.out.form
        obtain ⟨m, hm⟩ : ∃ m, m = F4.length := ⟨_, rfl⟩
        rw [← hm] at hv4 hFl4
        subst hv4
        have HM := hid hm
        have GV := hid (give_calls (OwnE.reads encBd_len OR.out (by rw [← HN.out]; omega)) (by rw [← HN.out]; omega))
        clear hi hm
        go_wp2_with fail
        refine GV.out.mono ?_
        rintro e w5 ⟨v5, rfl, hr5, hb5⟩
        obtain ⟨p5, c5, hv5, _⟩ := hr5.form
        rw [← HN.out] at hv5
        subst hv5
        have B5 := hid hb5
        have GN := hid (gain_calls (OwnE.reads encBd_len hr5 (by rw [← HN.out]; omega)) (OwnE.reads encI_len (OwnE.below R4.out hb5) (by rw [← HM.out]; omega)))
        rw [gnF_ok (by rw [← HN.out]; omega) HOK.out] at GN
        have B5c := hid (B4.out.trans (hb5.mono B4.out.size))
        clear hr5 hb5 GV
        obtain ⟨r, hr⟩ : ∃ r, r = if fits O F4 then (gsum O F4, (0 : Int)) else (0, 1) := ⟨_, rfl⟩
        rw [← hr] at GN
        have HRR := hid hr
        clear hr
        go_wp2_with fail
        refine GN.out.mono ?_
        rintro e w6 ⟨rfl, hb6⟩
        have B6 := hid (B5c.out.trans (hb6.mono B5c.out.size))
        have B56 := hid (B5.out.trans (hb6.mono B5.out.size))
        have FT := hid (rfit_calls (OwnE.reads encBd_len (OwnE.below OR.out B56.out) (by rw [← HN.out]; omega)) (OwnE.reads encI_len (OwnE.below R4.out B56.out) (by rw [← HM.out]; omega)))
        obtain ⟨ft, hft⟩ : ∃ ft, ft = decide (fits O F4) := ⟨_, rfl⟩
        rw [← hft] at FT
        have HFT := hid hft
        clear hb6 GN hft
        go_wp2_with fail
        refine FT.out.mono ?_
        rintro e w7 ⟨rfl, hb7⟩
        have B7 := hid (B6.out.trans (hb7.mono B6.out.size))
        have B57 := hid (B56.out.trans (hb7.mono B56.out.size))
        clear hb7 FT
        go_upto_if 34 with fail
        go_cut [] (fun wx => Below w3.heap.size w3 wx)
        case first =>
          cases ft with
          | true =>
            have hft : fits O F4 := of_decide_eq_true HFT.out.symm
            have RG := hid (rgain_calls (OwnE.reads encBd_len (OwnE.below OR.out B57.out) (by rw [← HN.out]; omega)) (OwnE.reads encI_len (OwnE.below R4.out B57.out) (by rw [← HM.out]; omega)) (by rw [← HN.out]; omega) HOK.out hft)
            have hr := HRR.out
            rw [if_pos hft] at hr
            obtain ⟨G, hG⟩ : ∃ G, G = gsum O F4 := ⟨_, rfl⟩
            rw [← hG] at hr RG
            have g3 : (G != G) = false := by simp
            subst hr
            clear hft hG
            go_wp2_with fail
            refine RG.out.mono ?_
            rintro e w8 ⟨rfl, hb8⟩
            have B8 := hid (B7.out.trans (hb8.mono B7.out.size))
            clear hb8 RG
            go_wp2
            go_meet
            exact B8.out
          | false =>
            have hft : ¬ fits O F4 := of_decide_eq_false HFT.out.symm
            have hr := HRR.out
            rw [if_neg hft] at hr
            subst hr
            clear hft
            go_wp2
            go_meet
            exact B7.out
        case rest =>
          obtain ⟨w8, rfl⟩ : ∃ w8 : World, w8 = wc := ⟨_, rfl⟩
          have B8 := hid hcut
          have hmk := mk_i64 w8 n (by omega)
          have W0 := hid (RowL.made w8 n)
          have B9 := hid (hcut.alloc hcut.size (.cells (madeCells #[.int .i64 0] n) 2))
          have hgw : w3.heap.size ≤ w8.heap.size := hcut.size
          obtain ⟨gw, hgwe⟩ : ∃ gw, gw = w8.heap.size := ⟨_, rfl⟩
          rw [← hgwe] at W0 hgw
          have HGW := hid hgwe
          clear hcut hgwe R4 B4 B04 OR B5 B5c B6 B56 B7 B57
          go_upto_region 15 with fail
          rw [← HGW.out]
          go_loopg [10] n (fun k s10 wx => ∃ (j : Nat) (h : Nat → Int), j + k = n ∧ s10 = .int .i64 j ∧ RowL wx gw n h ∧ Below w3.heap.size w3 wx)
          case atStart => exact ⟨0, _, by omega, rfl, W0.out, B9.out⟩
          case round =>
            obtain ⟨j, h, hjk, rfl, hrw, hbx⟩ := hrel
            have HJK := hid hjk
            have RW := hid hrw
            have BX := hid hbx
            clear hjk hrw hbx W0 B9 B8 hmk
            have B0 := hid (B23.out.trans (BX.out.mono B23.out.size))
            have hsz := B23.out.size
            by_cases hjn : j < n
            · have gj : (j : Int) < (n : Int) := by omega
              have gj0 : (0 : Int) ≤ (j : Int) := by omega
              by_cases hjf : j < nf
              · have hjO : j < O.length := by rw [← HN.out]; exact hjn
                have hjl : j < fl.length := by rw [← HNF.out]; exact hjf
                have gf : (j : Int) < (nf : Int) := by omega
                obtain ⟨pq, cq, bq, hvq, hpq, hcq⟩ := OwnE.cells encBd_len R3.out
                injection hvq with q1 q2 q3
                subst q1 q3
                clear q2
                obtain ⟨rfl, hq1, hq2⟩ := hpq (by rw [← HN.out]; omega)
                have c2 := (BX.out.cell (p := ⟨bq, j * 3 + 2, none⟩) hq2).trans (hcq j hjO 2 (by omega))
                obtain ⟨rfl, hbb⟩ := HP3.out (by omega)
                have c3 := (B0.out.cell (p := ⟨bf, off + j * 1 + 0, none⟩) hbb).trans (HC3.out j hjl 0 (by omega))
                simp [encBd] at c2
                simp [encI] at c3
                have okb := HOK.out _ (List.getElem_mem hjO)
                obtain ⟨q, hq⟩ : ∃ q, q = O[j].q := ⟨_, rfl⟩
                obtain ⟨y, hy⟩ : ∃ y, y = fl[j] := ⟨_, rfl⟩
                have hqb : 1 ≤ q ∧ q ≤ 1000000000 := by rw [hq]; exact ⟨okb.2.2.2.1, okb.2.2.2.2⟩
                rw [← hq] at c2
                rw [← hy] at c3
                have m0 := RW.out.cell hjn
                have f0 := RW.out.froz j
                have l0 := RW.out.lt
                obtain ⟨u0, hu0⟩ : ∃ u0, u0 = h j := ⟨_, rfl⟩
                rw [← hu0] at m0
                have ur := um_range y (k := q + 1) (by omega)
                have e1 : IntKind.i64.wrap (q + 1) = q + 1 := IntWalk.i64_in _ (by omega)
                have e2 : IntKind.u64.wrap (q + 1) = q + 1 := IntWalk.u64_in _ (by omega)
                have e3 := um_tmod y (q + 1)
                have e4 : IntKind.i64.wrap (um y (q + 1)) = um y (q + 1) := IntWalk.i64_in _ (by omega)
                have e5 : ¬ (q + 1 = 0) := by omega
                have RW2 := hid (RW.out.set j (um y (q + 1)))
                have BX2 := hid (BX.out.trans ((set_kept wr gw j (.int .i64 (um y (q + 1)))).below BX.out.size (fun k hk => by omega)))
                clear hq hy hu0 hcq okb
                go_upto_region 18 with fail
                go_region
                all_goals go_wp2

                all_goals (
                  go_roundg (n - (j + 1))
                  · first | exact ⟨j + 1, _, by omega, by go_num, RW2.out, BX2.out⟩ | exact ⟨j + 1, _, by omega, by go_num, RW2.out, BX2.out.drew⟩
                  · have := HJK.out; omega)
              · have gf : ¬ (j : Int) < (nf : Int) := by omega
                go_wp2
                go_roundg (n - (j + 1))
                · exact ⟨j + 1, h, by omega, by go_num, RW.out, BX.out⟩
                · have := HJK.out; omega
            · have hjn2 : j = n := by have := HJK.out; omega
              subst hjn2
              have g4 : ¬ (j : Int) < (j : Int) := by omega
              have RO := hid (show RowI w.heap.size wr (.slice (some ⟨gw, 0, none⟩) j j) ((List.range j).map h) from RW.out.own (by simp) (fun k hk => by simp) (by omega) (by unfold maxLen; omega))
              go_wp2
              go_roundg (2 - (i + 1))
              · exact ⟨i + 1, _, by omega, by go_num, RO.out, by simp; omega, BX.out⟩
              · have := HIK.out; omega
end Go.Proofs.Ytjhelinbjlahiaa
