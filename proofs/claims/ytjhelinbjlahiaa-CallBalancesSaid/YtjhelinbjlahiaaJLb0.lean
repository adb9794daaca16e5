/- CallBalances: the walk. -/
import Derived.Test.YtjhelinbjlahiaaJFl0
import Derived.Test.YtjhelinbjlahiaaJGf
namespace Go.Proofs.Ytjhelinbjlahiaa
set_option linter.unusedSimpArgs false
set_option linter.unusedVariables false
open Go.RowKit
attribute [local go_sem] Oper.semAt_some
attribute [local go_sem ↓] Go.wp_at_zero Go.wp_at_succ
/-- One round of the law's loop, plain: what it says of a bid's fill. -/
structure BalF (l : List Bd) (P D S : Int) (F : List Int) : Prop where
  len : F.length = l.length
  buy : ∀ (i : Nat) (h1 : i < l.length) (h2 : i < F.length), l[i].s = 1 → (l[i].p < P → F[i] = 0) ∧ (D ≤ S → P ≤ l[i].p → F[i] = l[i].q)
  sell : ∀ (i : Nat) (h1 : i < l.length) (h2 : i < F.length), l[i].s = 2 → (P < l[i].p → F[i] = 0) ∧ (S ≤ D → l[i].p ≤ P → F[i] = l[i].q)
theorem bal_fills {l : List Bd} (hok : ∀ b ∈ l, b.ok) {P rule : Int} (hd : 0 ≤ dem l P) (hs : 0 ≤ sup l P) : BalF l P (dem l P) (sup l P) (fillsL l P (min (dem l P) (sup l P)) rule) := by
  refine ⟨fillsL_len _ _ _ _, fun i h1 h2 hsd => ?_, fun i h1 h2 hsd => ?_⟩
  · obtain ⟨a, b⟩ := (fillOf_full hok (x := P) (v := min (dem l P) (sup l P)) (rule := rule) (by omega) h1).1 hsd
    rw [fillsL_get]
    exact ⟨a, fun h => b (by omega)⟩
  · obtain ⟨a, b⟩ := (fillOf_full hok (x := P) (v := min (dem l P) (sup l P)) (rule := rule) (by omega) h1).2 hsd
    rw [fillsL_get]
    exact ⟨a, fun h => b (by omega)⟩
theorem demsup_bound {l : List Bd} (hl : l.length ≤ 4096) (hok : ∀ b ∈ l, b.ok) (x : Int) : (0 ≤ dem l x ∧ dem l x ≤ 5000000000000) ∧ 0 ≤ sup l x ∧ sup l x ≤ 5000000000000 := by
  have h1 := sumQ_bound (buyT x) hok
  have h2 := sumQ_bound (selT x) hok
  unfold dem sup; omega

set_option maxRecDepth 100000 in
set_option maxHeartbeats 8000000 in
theorem balances_law (w : World) (v : Value) (l : List Bd) (hv : ArgE encBd 3 w v l) (x0 r0 : Int) :
    Calls Try.prog 3 #[v, .int .i64 x0, .int .i64 r0] w fun e w' => e = .returned (.bool true) ∧ Below w.heap.size w w' := by
  obtain ⟨R, hR⟩ : ∃ R : Ending → World → Prop, R = fun e w' => e = .returned (.bool true) ∧ Below w.heap.size w w' := ⟨_, rfl⟩
  rw [← hR]
  have FN := hid (show ∀ w', Below w.heap.size w w' → R (.returned (.bool true)) w' from fun w' h => by rw [hR]; exact ⟨rfl, h⟩)
  clear hR
  have TM := hid (tame_calls (hv.src encBd_len (by omega)) 40 (by omega))
  obtain ⟨O, hO⟩ : ∃ O, O = tameL 40 l := ⟨_, rfl⟩
  have hOk : ∀ b ∈ O, b.ok := by rw [hO]; exact tameL_ok 40 l
  have hOl : O.length ≤ 40 := by rw [hO]; exact tameL_len 40 l
  rw [← hO] at TM
  have HOK := hid hOk
  have AW := hid awake_calls
  have ux := um_range x0 (k := 120) (by omega)
  have ur := um_range r0 (k := 2) (by omega)
  have t1 := um_tmod x0 120
  have t2 : IntKind.i64.wrap (um x0 120) = um x0 120 := IntWalk.i64_in _ (by omega)
  have t3 : IntKind.i64.wrap (1 + um x0 120) = 1 + um x0 120 := IntWalk.i64_in _ (by omega)
  have t4 := um_tmod r0 2
  have t5 : IntKind.i64.wrap (um r0 2) = um r0 2 := IntWalk.i64_in _ (by omega)
  have t6 : IntKind.i64.wrap (1 + um r0 2) = 1 + um r0 2 := IntWalk.i64_in _ (by omega)
  have CC := hid (clearF_cases (show O.length ≤ 4096 by omega) hOk (x := 1 + um x0 120) (rule := 1 + um r0 2) (by omega) (by omega))
  clear hO hv hOk
  go_enter Try.func3, Try.ntmps3
  go_wp2_with fail
  refine TM.out.mono ?_
  rintro e w2 ⟨v2, rfl, hr2, hb2⟩
  have B2 := hid hb2
  obtain ⟨pO, cO, hvO, _⟩ := hr2.form
  obtain ⟨n, hn⟩ : ∃ n, n = O.length := ⟨_, rfl⟩
  rw [← hn] at hvO hOl
  subst hvO
  have HN := hid hn
  have RO := hid (OwnE.reads encBd_len hr2 (by omega))
  have GV := hid (give_calls RO.out (by omega))
  clear hr2 hb2 TM hn
  go_wp2_with fail
  refine GV.out.mono ?_
  rintro e w3 ⟨v3, rfl, hr3, hb3⟩
  obtain ⟨pC, cC, hvC, _⟩ := hr3.form
  rw [← HN.out] at hvC
  subst hvC
  have B3 := hid (B2.out.trans (hb3.mono B2.out.size))
  have RO3 := hid (RO.out.below hb3)
  have CL := hid (clear_calls (OwnE.reads encBd_len hr3 (by rw [← HN.out]; omega)) (1 + um x0 120) (1 + um r0 2))
  clear hr3 hb3 GV
  go_wp2_with fail
  refine CL.out.mono ?_
  rintro e w4 ⟨⟨vf, rfl, hrf⟩, hb4⟩
  have B34 := hid hb4
  have B4 := hid (B3.out.trans (hb4.mono B3.out.size))
  have FACT := hid (fun P (hne : min (dem O P) (sup O P) ≠ 0) => (⟨demsup_bound (show O.length ≤ 4096 by rw [← HN.out]; omega) HOK.out P, bal_fills HOK.out (rule := 1 + um r0 2) (demsup_bound (show O.length ≤ 4096 by rw [← HN.out]; omega) HOK.out P).1.1 (demsup_bound (show O.length ≤ 4096 by rw [← HN.out]; omega) HOK.out P).2.1, fills_fit HOK.out, fills_sums HOK.out (by have := demsup_bound (show O.length ≤ 4096 by rw [← HN.out]; omega) HOK.out P; omega)⟩ : ((0 ≤ dem O P ∧ dem O P ≤ 5000000000000) ∧ 0 ≤ sup O P ∧ sup O P ≤ 5000000000000) ∧ BalF O P (dem O P) (sup O P) (fillsL O P (min (dem O P) (sup O P)) (1 + um r0 2)) ∧ fits O (fillsL O P (min (dem O P) (sup O P)) (1 + um r0 2)) ∧ sumB O (fillsL O P (min (dem O P) (sup O P)) (1 + um r0 2)) = min (min (dem O P) (sup O P)) (dem O P) ∧ sumS O (fillsL O P (min (dem O P) (sup O P)) (1 + um r0 2)) = min (min (dem O P) (sup O P)) (sup O P)))
  rcases CC.out with cc | ⟨_, cc0, cc⟩
  · rw [cc] at hrf ⊢
    obtain ⟨pf, cf, rfl⟩ := own_empty hrf
    have cb := Cells.new w4 #[.int .i64 0, .int .i64 0, .int .i64 0, .slice pf 0 cf] 26
    have NT := hid (nothing_calls pf cf (w4.alloc (.cells #[.int .i64 0, .int .i64 0, .int .i64 0, .slice pf 0 cf] 26)))
    have B5 := hid (B4.out.alloc B4.out.size (.cells #[.int .i64 0, .int .i64 0, .int .i64 0, .slice pf 0 cf] 26))
    clear hrf cb cc CL hb4 FACT
    go_wp2_with fail
    refine NT.out.mono ?_
    rintro e w6 ⟨rfl, hb6⟩
    have B6 := hid (B5.out.trans (hb6.mono B5.out.size))
    clear hb6 NT
    go_wp2_with fail
    refine (AW.out _).mono ?_
    rintro e w7 ⟨rfl, hb7⟩
    have F := hid (FN.out w7 (B6.out.trans (hb7.mono B6.out.size)))
    clear hb7
    go_wp2
    first | exact F.out | (go_ret; exact F.out)
  · obtain ⟨P, hP⟩ : ∃ P, P = priceZ (zonesL O) (1 + um x0 120) := ⟨_, rfl⟩
    rw [← hP] at cc cc0
    obtain ⟨⟨hD, hS⟩, hbal, hfit, hsb, hss⟩ := FACT.out P cc0
    obtain ⟨D, hDe⟩ : ∃ D, D = dem O P := ⟨_, rfl⟩
    obtain ⟨S, hSe⟩ : ∃ S, S = sup O P := ⟨_, rfl⟩
    rw [← hDe, ← hSe] at cc cc0 hbal hfit hsb hss
    rw [← hDe] at hD
    rw [← hSe] at hS
    obtain ⟨V, hV⟩ : ∃ V, V = min D S := ⟨_, rfl⟩
    rw [← hV] at cc cc0 hbal hfit hsb hss
    obtain ⟨F, hF⟩ : ∃ F, F = fillsL O P V (1 + um r0 2) := ⟨_, rfl⟩
    rw [← hF] at cc hbal hfit hsb hss
    rw [show min V D = V by omega] at hsb
    rw [show min V S = V by omega] at hss
    rw [cc] at hrf ⊢
    have hFn : F.length = n := by rw [hbal.len, HN.out]
    obtain ⟨pf, cf, hvf, _⟩ := hrf.form
    have hvf2 : vf = .slice pf n cf := by rw [hvf]; show Value.slice pf F.length cf = _; rw [hFn]
    subst hvf2
    have BAL := hid hbal
    have FIT := hid hfit
    have SB := hid hsb
    have SS := hid hss
    have HFN := hid hFn
    have HVD := hid hV
    have hV1 : ¬ V < 1 := by omega
    have RF := hid (show ReadsE encI 1 w4 (.slice pf n cf) F from OwnE.reads encI_len hrf (by show F.length ≤ _; omega))
    obtain ⟨wb, hwb⟩ : ∃ wb, wb = w4.alloc (.cells #[.int .i64 P, .int .i64 V, .int .i64 (D - S), .slice pf n cf] 26) := ⟨_, rfl⟩
    have B5 := hid (show Below w4.heap.size w4 wb by rw [hwb]; exact (Below.refl _ _).alloc (Nat.le_refl _) _)
    have C5 := hid (show Cells wb w4.heap.size #[.int .i64 P, .int .i64 V, .int .i64 (D - S), .slice pf n cf] 26 by rw [hwb]; exact Cells.new w4 _ _)
    have HWB := hid hwb
    have FT := hid (rfit_calls (RO3.out.below (B34.out.trans (B5.out.mono B34.out.size))) (RF.out.below B5.out))
    rw [decide_eq_true hfit] at FT
    have x3 : wb.cell? ⟨w4.heap.size, 3, none⟩ = some (.slice pf n cf) := by rw [C5.out.cell]; rfl
    have gV : (V != V) = false := by simp
    clear hrf hvf cc hP hDe hSe hV hF hsb hss hfit hbal hFn CL hb4 FACT CC hwb
    go_upto_region 5 with fail
    rw [← HWB.out]
    go_wp2_with fail
    refine FT.out.mono ?_
    rintro e w6 ⟨rfl, hb6⟩
    have B6 := hid (B5.out.trans (hb6.mono B5.out.size))
    have c6 := C5.out.below hb6 C5.out.lt
    have y1 : w6.cell? ⟨w4.heap.size, 1, none⟩ = some (.int .i64 V) := by rw [c6.cell]; rfl
    have y3 : w6.cell? ⟨w4.heap.size, 3, none⟩ = some (.slice pf n cf) := by rw [c6.cell]; rfl
    have C6 := hid c6
    have SM := hid (sums2_calls (RO3.out.below (B34.out.trans (B6.out.mono B34.out.size))) (RF.out.below B6.out) (by rw [← HN.out, HFN.out]) (by rw [← HN.out]; omega) (fun y hy => by
      obtain ⟨j, hj, rfl⟩ := List.getElem_of_mem hy
      have hjO : j < O.length := by rw [← HN.out, ← HFN.out]; exact hj
      have h1 := (fitF_iff (by rw [← HN.out, HFN.out])).1 FIT.out.2 j hjO hj
      have h2 := (HOK.out _ (List.getElem_mem hjO)).2.2.2.2
      omega))
    rw [SB.out, SS.out] at SM
    clear hb6 c6 FT x3
    go_wp2_with fail
    refine SM.out.mono ?_
    rintro e w7 ⟨rfl, hb7⟩
    have B7 := hid (B6.out.trans (hb7.mono B6.out.size))
    have c7 := C6.out.below hb7 C6.out.lt
    have z1 : w7.cell? ⟨w4.heap.size, 1, none⟩ = some (.int .i64 V) := by rw [c7.cell]; rfl
    have C7 := hid c7
    clear hb7 c7 SM y1 y3
    go_upto_region 13 with fail
    clear z1
    go_loopg [12, 13, 14, 15, 16, 17] n (fun k s12 s13 s14 s15 s16 s17 wx => ∃ (i : Nat) (bu se ea ch : Bool), i + k = n ∧ s16 = .int .i64 i ∧ s12 = .bool bu ∧ s13 = .bool se ∧ s14 = .bool ea ∧ s15 = .bool ch ∧ (D ≤ S → bu = true ∧ ea = false) ∧ (S ≤ D → se = true ∧ ch = false) ∧ Below w7.heap.size w7 wx)
    case atStart => exact ⟨0, true, true, false, false, by omega, rfl, rfl, rfl, rfl, rfl, fun _ => ⟨rfl, rfl⟩, fun _ => ⟨rfl, rfl⟩, Below.refl _ _⟩
    case round =>
      obtain ⟨i, bu, se, ea, ch, hik, rfl, rfl, rfl, rfl, rfl, hb1, hb2, hbx⟩ := hrel
      have HIK := hid hik
      have HB1 := hid hb1
      have HB2 := hid hb2
      have BX := hid hbx
      clear hik hb1 hb2 hbx
      by_cases hin : i < n
      · have hil : i < O.length := by rw [← HN.out]; exact hin
        have hiF : i < F.length := by rw [HFN.out]; exact hin
        obtain ⟨_, pq, cq, bq, oq, hvq, hpq, hcq⟩ := RO3.out
        injection hvq with q1 q2 q3
        obtain ⟨hp1, hbq⟩ := hpq (by rw [← HN.out]; omega)
        rw [hp1] at q1
        obtain ⟨_, pz, cz, bz, oz, hvz, hpz, hcz⟩ := RF.out
        injection hvz with q4 q5 q6
        obtain ⟨hp2, hbz⟩ := hpz (by rw [HFN.out]; omega)
        rw [hp2] at q4
        subst q1 q3 q4 q6
        clear q2 q5 hp1 hp2
        have CELLS := hid (show ∀ wx, Below w7.heap.size w7 wx → wx.cell? ⟨w4.heap.size, 0, none⟩ = some (.int .i64 P) ∧ wx.cell? ⟨w4.heap.size, 3, none⟩ = some (.slice (some ⟨bz, oz, none⟩) n cf) ∧ wx.cell? ⟨bq, oq + i * 3, none⟩ = some (.int .i64 O[i].s) ∧ wx.cell? ⟨bq, oq + i * 3 + 1, none⟩ = some (.int .i64 O[i].p) ∧ wx.cell? ⟨bq, oq + i * 3 + 2, none⟩ = some (.int .i64 O[i].q) ∧ wx.cell? ⟨bz, oz + i, none⟩ = some (.int .i64 F[i]) ∧ w4.heap.size < wx.heap.size ∧ bq < wx.heap.size from fun wx hb => by
          have c9 := C7.out.below hb C7.out.lt
          have e47 : Below w4.heap.size w4 wx := B7.out.trans (hb.mono B7.out.size)
          have e37 : Below w3.heap.size w3 wx := B34.out.trans (e47.mono B34.out.size)
          refine ⟨by rw [c9.cell]; rfl, by rw [c9.cell]; rfl, ?_, ?_, ?_, ?_, c9.lt, Nat.lt_of_lt_of_le hbq e37.size⟩
          · exact (e37.cell (p := ⟨bq, oq + i * 3, none⟩) hbq).trans (hcq i hil 0 (by omega))
          · exact (e37.cell (p := ⟨bq, oq + i * 3 + 1, none⟩) hbq).trans (hcq i hil 1 (by omega))
          · exact (e37.cell (p := ⟨bq, oq + i * 3 + 2, none⟩) hbq).trans (hcq i hil 2 (by omega))
          · have := (e47.cell (p := ⟨bz, oz + i * 1 + 0, none⟩) hbz).trans (hcz i hiF 0 (by omega))
            simpa [encI] using this)
        have BUY := hid (BAL.out.buy i hil hiF)
        have SELL := hid (BAL.out.sell i hil hiF)
        have hsd := (HOK.out _ (List.getElem_mem hil)).1
        obtain ⟨b, hb⟩ : ∃ b, b = O[i] := ⟨_, rfl⟩
        obtain ⟨y, hy⟩ : ∃ y, y = F[i] := ⟨_, rfl⟩
        rw [← hb] at CELLS BUY SELL hsd
        rw [← hy] at CELLS BUY SELL
        have gi : (i : Int) < (n : Int) := by omega
        have gi0 : (0 : Int) ≤ (i : Int) := by omega
        clear hb hy hpq hcq hpz hcz
        obtain ⟨w8, rfl⟩ : ∃ w8 : World, w8 = wr := ⟨_, rfl⟩
        obtain ⟨k0, k1, k2, k3, k4, k5, k6, k7⟩ := CELLS.out w8 BX.out
        go_upto_region 15 with fail
        go_cut [17] (fun s17 wx => s17 = .bool (y == b.q) ∧ Below w7.heap.size w7 wx)
        case first =>
          go_region
          all_goals go_wp2
          all_goals (
            go_meet
            exact ⟨rfl, BX.out.drew⟩)
        case rest =>
        obtain ⟨rfl, hba⟩ := hcut
        have BA := hid hba
        clear hba k0 k1 k2 k3 k4 k5 k6 k7
        obtain ⟨w9, rfl⟩ : ∃ w9 : World, w9 = wc := ⟨_, rfl⟩
        obtain ⟨k0, k1, k2, k3, k4, k5, k6, k7⟩ := CELLS.out w9 BA.out
        obtain ⟨fu, hfu⟩ : ∃ fu, fu = (y == b.q) := ⟨_, rfl⟩
        rw [← hfu]
        have HFU := hid hfu
        clear hfu
        rcases hsd with hs | hs
        · have e1 : (b.s == 1) = true := by simpa using hs
          go_upto_region 17 with fail
          go_cut [112] (fun s wx => s = .bool false ∧ Below w7.heap.size w7 wx)
          case first =>
            by_cases hw : b.p < P
            · have hy0 := (BUY.out hs).1 hw
              have g5 : ¬ (0 : Int) < y := by omega
              clear hy0 hs
              go_region
              all_goals go_wp2
              all_goals (
                go_meet
                exact ⟨rfl, BA.out.drew⟩)
            · clear hs
              go_region
              all_goals go_wp2
              all_goals (
                go_meet
                exact ⟨rfl, BA.out.drew⟩)
          case rest =>
            obtain ⟨rfl, hbb⟩ := hcut
            have BB := hid hbb
            clear hbb k0 k1 k2 k3 k4 k5 k6 k7
            obtain ⟨w10, rfl⟩ : ∃ w10 : World, w10 = wc := ⟨_, rfl⟩
            obtain ⟨k0, k1, k2, k3, k4, k5, k6, k7⟩ := CELLS.out w10 BB.out
            go_upto_region 19 with fail
            go_cut [12] (fun s wx => ∃ t, s = .bool t ∧ (D ≤ S → t = true) ∧ Below w7.heap.size w7 wx)
            case first =>
              have NT := hid (show D ≤ S → bu = true ∧ (fu = true ∨ b.p < P) from fun q => by
                refine ⟨(HB1.out q).1, ?_⟩
                by_cases hw : b.p < P
                · exact .inr hw
                · left; rw [HFU.out]; have := (BUY.out hs).2 q (by omega); simpa using this)
              cases bu with
              | false =>
                go_region
                all_goals go_wp2
                all_goals (
                  go_meet
                  exact ⟨false, rfl, fun q => (NT.out q).1, BB.out.drew⟩)
              | true =>
                cases fu with
                | true =>
                  go_region
                  all_goals go_wp2
                  all_goals (
                    go_meet
                    exact ⟨true, rfl, fun _ => rfl, BB.out.drew⟩)
                | false =>
                  have N2 := hid (show D ≤ S → decide (b.p < P) = true from fun q => by
                    rcases (NT.out q).2 with e | e
                    · cases e
                    · simpa using e)
                  go_region
                  all_goals go_wp2
                  all_goals (
                    go_meet
                    exact ⟨_, rfl, N2.out, BB.out.drew⟩)
            case rest =>
              obtain ⟨bt, rfl, hbt, hbb⟩ := hcut
              have HBT := hid hbt
              have BC := hid hbb
              clear hbb hbt k0 k1 k2 k3 k4 k5 k6 k7
              obtain ⟨w11, rfl⟩ : ∃ w11 : World, w11 = wc := ⟨_, rfl⟩
              obtain ⟨k0, k1, k2, k3, k4, k5, k6, k7⟩ := CELLS.out w11 BC.out
              have NT := hid (show D ≤ S → ea = false ∧ (fu = true ∨ ¬ P < b.p) from fun q => by
                refine ⟨(HB1.out q).2, ?_⟩
                by_cases hw : P < b.p
                · left; rw [HFU.out]; have := (BUY.out hs).2 q (by omega); simpa using this
                · exact .inr hw)
              cases ea with
              | true =>
                go_upto_region 20 with fail
                go_region
                all_goals go_wp2
                all_goals (
                  go_roundg (n - (i + 1))
                  · exact ⟨i + 1, bt, se, true, ch, by omega, by go_num, rfl, rfl, rfl, rfl, fun q => ⟨HBT.out q, (by have := (NT.out q).1; cases this)⟩, HB2.out, BC.out.drew⟩
                  · have := HIK.out; omega)
              | false =>
                cases fu with
                | true =>
                  go_upto_region 20 with fail
                  go_region
                  all_goals go_wp2
                  all_goals (
                    go_roundg (n - (i + 1))
                    · exact ⟨i + 1, bt, se, false, ch, by omega, by go_num, rfl, rfl, rfl, rfl, fun q => ⟨HBT.out q, rfl⟩, HB2.out, BC.out.drew⟩
                    · have := HIK.out; omega)
                | false =>
                  have N2 := hid (show D ≤ S → decide (P < b.p) = false from fun q => by
                    rcases (NT.out q).2 with e | e
                    · cases e
                    · simpa using e)
                  go_upto_region 20 with fail
                  go_region
                  all_goals go_wp2
                  all_goals (
                    go_roundg (n - (i + 1))
                    · exact ⟨i + 1, bt, se, _, ch, by omega, by go_num, rfl, rfl, rfl, rfl, fun q => ⟨HBT.out q, N2.out q⟩, HB2.out, BC.out.drew⟩
                    · have := HIK.out; omega)
        · have e1 : (b.s == 1) = false := by simp [hs]
          go_upto_region 21 with fail
          go_cut [157] (fun s wx => s = .bool false ∧ Below w7.heap.size w7 wx)
          case first =>
            by_cases hw : P < b.p
            · have hy0 := (SELL.out hs).1 hw
              have g5 : ¬ (0 : Int) < y := by omega
              clear hy0 hs
              go_region
              all_goals go_wp2
              all_goals (
                go_meet
                exact ⟨rfl, BA.out.drew⟩)
            · clear hs
              go_region
              all_goals go_wp2
              all_goals (
                go_meet
                exact ⟨rfl, BA.out.drew⟩)
          case rest =>
            obtain ⟨rfl, hbb⟩ := hcut
            have BB := hid hbb
            clear hbb k0 k1 k2 k3 k4 k5 k6 k7
            obtain ⟨w10, rfl⟩ : ∃ w10 : World, w10 = wc := ⟨_, rfl⟩
            obtain ⟨k0, k1, k2, k3, k4, k5, k6, k7⟩ := CELLS.out w10 BB.out
            go_upto_region 23 with fail
            go_cut [13] (fun s wx => ∃ t, s = .bool t ∧ (S ≤ D → t = true) ∧ Below w7.heap.size w7 wx)
            case first =>
              have NT := hid (show S ≤ D → se = true ∧ (fu = true ∨ P < b.p) from fun q => by
                refine ⟨(HB2.out q).1, ?_⟩
                by_cases hw : P < b.p
                · exact .inr hw
                · left; rw [HFU.out]; have := (SELL.out hs).2 q (by omega); simpa using this)
              cases se with
              | false =>
                go_region
                all_goals go_wp2
                all_goals (
                  go_meet
                  exact ⟨false, rfl, fun q => (NT.out q).1, BB.out.drew⟩)
              | true =>
                cases fu with
                | true =>
                  go_region
                  all_goals go_wp2
                  all_goals (
                    go_meet
                    exact ⟨true, rfl, fun _ => rfl, BB.out.drew⟩)
                | false =>
                  have N2 := hid (show S ≤ D → decide (P < b.p) = true from fun q => by
                    rcases (NT.out q).2 with e | e
                    · cases e
                    · simpa using e)
                  go_region
                  all_goals go_wp2
                  all_goals (
                    go_meet
                    exact ⟨_, rfl, N2.out, BB.out.drew⟩)
            case rest =>
              obtain ⟨bt, rfl, hbt, hbb⟩ := hcut
              have HBT := hid hbt
              have BC := hid hbb
              clear hbb hbt k0 k1 k2 k3 k4 k5 k6 k7
              obtain ⟨w11, rfl⟩ : ∃ w11 : World, w11 = wc := ⟨_, rfl⟩
              obtain ⟨k0, k1, k2, k3, k4, k5, k6, k7⟩ := CELLS.out w11 BC.out
              have NT := hid (show S ≤ D → ch = false ∧ (fu = true ∨ ¬ b.p < P) from fun q => by
                refine ⟨(HB2.out q).2, ?_⟩
                by_cases hw : b.p < P
                · left; rw [HFU.out]; have := (SELL.out hs).2 q (by omega); simpa using this
                · exact .inr hw)
              cases ch with
              | true =>
                go_upto_region 24 with fail
                go_region
                all_goals go_wp2
                all_goals (
                  go_roundg (n - (i + 1))
                  · exact ⟨i + 1, bu, bt, ea, true, by omega, by go_num, rfl, rfl, rfl, rfl, HB1.out, fun q => ⟨HBT.out q, (by have := (NT.out q).1; cases this)⟩, BC.out.drew⟩
                  · have := HIK.out; omega)
              | false =>
                cases fu with
                | true =>
                  go_upto_region 24 with fail
                  go_region
                  all_goals go_wp2
                  all_goals (
                    go_roundg (n - (i + 1))
                    · exact ⟨i + 1, bu, bt, ea, false, by omega, by go_num, rfl, rfl, rfl, rfl, HB1.out, fun q => ⟨HBT.out q, rfl⟩, BC.out.drew⟩
                    · have := HIK.out; omega)
                | false =>
                  have N2 := hid (show S ≤ D → decide (b.p < P) = false from fun q => by
                    rcases (NT.out q).2 with e | e
                    · cases e
                    · simpa using e)
                  go_upto_region 24 with fail
                  go_region
                  all_goals go_wp2
                  all_goals (
                    go_roundg (n - (i + 1))
                    · exact ⟨i + 1, bu, bt, ea, _, by omega, by go_num, rfl, rfl, rfl, rfl, HB1.out, fun q => ⟨HBT.out q, N2.out q⟩, BC.out.drew⟩
                    · have := HIK.out; omega)
      · have hin' : i = n := by have := HIK.out; omega
        subst hin'
        have g2 : ¬ (i : Int) < (i : Int) := by omega
        have fin : (!(ea && ch) && (bu || se)) = true := by
          rcases (show D ≤ S ∨ S ≤ D by omega) with q | q
          · obtain ⟨rfl, rfl⟩ := HB1.out q; simp
          · obtain ⟨rfl, rfl⟩ := HB2.out q; simp
        have F2 := hid (show ∀ w', Below wr.heap.size wr w' → R (.returned (.bool true)) w' from fun w' hb => FN.out w' (B4.out.trans ((B7.out.trans ((BX.out.trans (hb.mono BX.out.size)).mono B7.out.size)).mono B4.out.size)))
        cases ea <;> cases ch <;> cases bu <;> cases se <;> simp at fin
        all_goals (
          go_wp2_with fail
          refine (AW.out _).mono ?_
          rintro e w9 ⟨rfl, hb9⟩
          have F3 := hid (F2.out w9 hb9)
          clear hb9
          go_wp2
          first | exact F3.out | (go_ret; exact F3.out))
end Go.Proofs.Ytjhelinbjlahiaa
