/- CallMore: the walk. -/
import Derived.Test.YtjhelinbjlahiaaJMo0
import Derived.Test.YtjhelinbjlahiaaJLg0
import Derived.Test.YtjhelinbjlahiaaJLp0
import Derived.Test.YtjhelinbjlahiaaJLu0
namespace Go.Proofs.Ytjhelinbjlahiaa
set_option linter.unusedSimpArgs false
set_option linter.unusedVariables false
open Go.RowKit
attribute [local go_sem] Oper.semAt_some
attribute [local go_sem ↓] Go.wp_at_zero Go.wp_at_succ
theorem more_append {B1 B2 : Nat} {w : World} {v u : Value} {l m : List Bd} (h1 : RowR B1 w v l) (h2 : RowR B2 w u m) (hl : l.length ≤ 30) (hm : m.length ≤ 1) (hB : B1 ≤ w.heap.size) :
    ∃ v' w', (Builtin.append_ #[22, 22] 22 #[v, u]).run Try.prog w = .ok v' w' ∧ RowR B1 w' v' (l ++ m) ∧ Below B1 w w' := by
  obtain ⟨v', w', r1, r2, r3⟩ := own_app (ty := 22) undR infoR rfl (by omega) encBd_len encBd_one h1 hB (h2.srcx (by omega)) (by unfold maxLen; omega) (by omega)
  refine ⟨v', w', r1, r2, r3.below hB fun k hk => ?_⟩
  obtain ⟨p, c, rfl, h⟩ := h1.form
  rcases h with ⟨rfl, _⟩ | ⟨g, rfl, hg, _⟩
  · cases hk
  · simp [Value.ownBlock] at hk; omega
theorem price_pos {l : List Bd} (hl : l.length ≤ 4096) (hok : ∀ b ∈ l, b.ok) (ref : Int) (h : most l ≠ 0) : priceZ (zonesL l) ref ≠ 0 := by
  obtain ⟨z, hz, _, h1, _, _⟩ := price_best hok hl ref h
  have := ((zonesL_ok hl hok).1 z (keptF_sub _ (keptF_sub _ hz))).1
  omega

set_option maxRecDepth 100000 in
set_option maxHeartbeats 8000000 in
theorem more_law (w : World) (v : Value) (l : List Bd) (hv : ArgE encBd 3 w v l) (b : Bd) (a0 a1 : Int) :
    Calls Try.prog 11 #[v, .agg #[.int .i64 b.s, .int .i64 b.p, .int .i64 b.q], .agg #[.int .i64 a0, .int .i64 a1]] w fun e w' => e = .returned (.bool true) ∧ Below w.heap.size w w' := by
  obtain ⟨R, hR⟩ : ∃ R : Ending → World → Prop, R = fun e w' => e = .returned (.bool true) ∧ Below w.heap.size w w' := ⟨_, rfl⟩
  rw [← hR]
  have FN := hid (show ∀ w', Below w.heap.size w w' → R (.returned (.bool true)) w' from fun w' h => by rw [hR]; exact ⟨rfl, h⟩)
  clear hR
  obtain ⟨wb, hwb⟩ : ∃ wb, wb = (w.alloc (.cells #[.int .i64 b.s, .int .i64 b.p, .int .i64 b.q] 40)).alloc (.cells #[.int .i64 a0, .int .i64 a1] 43) := ⟨_, rfl⟩
  have BB := hid (show Below w.heap.size w wb by rw [hwb]; exact ((Below.refl _ _).alloc (Nat.le_refl _) _).alloc (by simp) _)
  have c4 : Cells wb w.heap.size #[.int .i64 b.s, .int .i64 b.p, .int .i64 b.q] 40 := by rw [hwb]; exact (Cells.new w _ _).alloc _
  have c5 : Cells wb (w.heap.size + 1) #[.int .i64 a0, .int .i64 a1] 43 := by
    rw [hwb]
    have := Cells.new (w.alloc (.cells #[.int .i64 b.s, .int .i64 b.p, .int .i64 b.q] 40)) #[.int .i64 a0, .int .i64 a1] 43
    simpa using this
  have HWB := hid hwb
  have TM := hid (tame_calls ((hv.src encBd_len (by omega)).below BB.out) 30 (by omega))
  obtain ⟨O, hO⟩ : ∃ O, O = tameL 30 l := ⟨_, rfl⟩
  have hOk : ∀ b ∈ O, b.ok := by rw [hO]; exact tameL_ok 30 l
  have hOl : O.length ≤ 30 := by rw [hO]; exact tameL_len 30 l
  rw [← hO] at TM
  have HOK := hid hOk
  have AW := hid awake_calls
  have C4 := hid c4
  have C5 := hid c5
  clear hO hv hOk hwb c4 c5
  go_enter Try.func11, Try.ntmps11
  go_upto_region 1 with fail
  try rw [← HWB.out]
  go_wp2_with fail
  refine TM.out.mono ?_
  rintro e w2 ⟨v2, rfl, hr2, hb2⟩
  have B2 := hid (BB.out.trans (hb2.mono BB.out.size))
  have C42 := hid (C4.out.below hb2 C4.out.lt)
  have C52 := hid (C5.out.below hb2 C5.out.lt)
  obtain ⟨pO, cO, hvO, _⟩ := hr2.form
  obtain ⟨n, hn⟩ : ∃ n, n = O.length := ⟨_, rfl⟩
  rw [← hn] at hvO hOl
  subst hvO
  have HN := hid hn
  have RO := hid (OwnE.reads encBd_len hr2 (by omega))
  have SO := hid (OwnE.srcx hr2 (by omega))
  have k0 : w2.cell? ⟨w.heap.size, 0, none⟩ = some (.int .i64 b.s) := by rw [C42.out.cell]; rfl
  have k1 : w2.cell? ⟨w.heap.size, 1, none⟩ = some (.int .i64 b.p) := by rw [C42.out.cell]; rfl
  have k2 : w2.cell? ⟨w.heap.size, 2, none⟩ = some (.int .i64 b.q) := by rw [C42.out.cell]; rfl
  clear hr2 hb2 TM hn
  have TK : O.take 30 = O := List.take_of_length_le (by rw [HN.out] at hOl; exact hOl)
  have SM := hid (show ∀ wx, Below w2.heap.size w2 wx → Calls Try.prog 36 #[.slice pO n cO, .int .i64 30] wx fun e w' => ∃ v', e = .returned v' ∧ RowR w2.heap.size w' v' O ∧ Below w2.heap.size w2 w' ∧ Below wx.heap.size wx w' from fun wx hb =>
    (some_calls (SO.out.below hb) 30 (by omega)).mono fun e w' h => by
      obtain ⟨v', h1, h2, h3⟩ := h
      rw [TK] at h2
      exact ⟨v', h1, h2.mono hb.size, hb.trans (h3.mono hb.size), h3⟩)
  have FB : tameL 1 [b] = [fixB b] := rfl
  have OL : O.length ≤ 30 := by rw [← HN.out]; exact hOl
  have T2 := hid (show ∀ wx B w3 v3, Below w2.heap.size w2 wx → Cells wx B #[.int .i64 b.s, .int .i64 b.p, .int .i64 b.q] 40 → RowR w2.heap.size w3 v3 O → Below w3.heap.size w3 wx → Calls Try.prog 14 #[.slice (some ⟨B, 0, none⟩) 1 1, .int .i64 1] wx fun e w' => ∃ v' v5 w5, e = .returned v' ∧ (Builtin.append_ #[22, 22] 22 #[v3, v']).run Try.prog w' = .ok v5 w5 ∧ RowR w2.heap.size w5 v5 (O ++ [fixB b]) ∧ Below w2.heap.size w2 w' ∧ Below w2.heap.size w2 w5 from fun wx B w3 v3 hb hc hr3 h3x =>
    (tame_calls (l := [b]) (.inr ⟨_, _, rfl, Nat.le_refl 1, fun j x hx => by
      have hj : j < 3 := (List.getElem?_eq_some_iff.1 hx).1
      rw [addr_add, Nat.zero_add, hc.cell]
      rcases (show j = 0 ∨ j = 1 ∨ j = 2 by omega) with rfl | rfl | rfl <;> exact hx⟩) 1 (by omega)).mono fun e w' h => by
        obtain ⟨v', h1, h2, h3⟩ := h
        rw [FB] at h2
        have hw : Below w2.heap.size w2 w' := hb.trans (h3.mono hb.size)
        obtain ⟨v5, w5, r1, r2, r3⟩ := more_append (hr3.below (h3x.trans (h3.mono h3x.size))) h2 OL (Nat.le_refl _) hw.size
        exact ⟨v', v5, w5, h1, r1, r2, hw, hw.trans r3⟩)
  have KS := hid (show ∀ wh, Below w2.heap.size w2 wh → wh.cell? ⟨w.heap.size, 0, none⟩ = some (.int .i64 b.s) ∧ wh.cell? ⟨w.heap.size, 1, none⟩ = some (.int .i64 b.p) ∧ wh.cell? ⟨w.heap.size, 2, none⟩ = some (.int .i64 b.q) from fun wh hb => by
    have c := C42.out.below hb C42.out.lt
    refine ⟨?_, ?_, ?_⟩ <;> (rw [c.cell]; rfl))
  clear TK FB OL
  obtain ⟨W, hW⟩ : ∃ W, W = O ++ [fixB b] := ⟨_, rfl⟩
  have HWK := hid (show ∀ c ∈ W, c.ok from fun c hc => by
    rw [hW] at hc
    rcases List.mem_append.1 hc with q | q
    · exact HOK.out c q
    · rw [List.mem_singleton.1 q]; exact fixB_ok b)
  have HWL := hid (show W.length = n + 1 by rw [hW, List.length_append, ← HN.out]; rfl)
  have MM := hid (show most O ≤ most W by rw [hW]; exact most_more (by rw [← HN.out]; omega) HOK.out (fixB_ok b))
  have HOL := hid (show O.length ≤ 4096 by rw [← HN.out]; omega)
  have HWL2 := hid (show W.length ≤ 4096 by rw [HWL.out]; omega)
  rw [← hW] at T2
  clear hW
  have u0 := um_range a0 (k := 120) (by omega)
  have u1 := um_range a1 (k := 120) (by omega)
  have t1 := um_tmod a0 120
  have t2 : IntKind.i64.wrap (um a0 120) = um a0 120 := IntWalk.i64_in _ (by omega)
  have t3 : IntKind.i64.wrap (1 + um a0 120) = 1 + um a0 120 := IntWalk.i64_in _ (by omega)
  have t4 := um_tmod a1 120
  have t5 : IntKind.i64.wrap (um a1 120) = um a1 120 := IntWalk.i64_in _ (by omega)
  have t6 : IntKind.i64.wrap (1 + um a1 120) = 1 + um a1 120 := IntWalk.i64_in _ (by omega)
  go_upto_region 2 with fail
  go_cut [8] (fun s8 wx => RowR w2.heap.size wx s8 W ∧ Below w2.heap.size w2 wx)
  case first =>
    have hcur := Below.refl w2.heap.size w2
    go_region_held3 (fun wh => wh.cell? ⟨w.heap.size, 0, none⟩ = some (.int .i64 b.s) ∧ wh.cell? ⟨w.heap.size, 1, none⟩ = some (.int .i64 b.p) ∧ wh.cell? ⟨w.heap.size, 2, none⟩ = some (.int .i64 b.q))
      (first | exact KS.out _ hcur | exact KS.out _ hcur.drew | exact KS.out _ (hcur.alloc hcur.size _) | exact KS.out _ (hcur.drew.alloc (Nat.le_refl _) _) | assumption | go_keep)
      (first
        | (go_at_call 36; refine (SM.out _ ?_).mono ?_; (first | exact hcur.drew | exact hcur.drew.alloc (Nat.le_refl _) _); rintro e w3 ⟨v3, rfl, hr3, hbc, hb3⟩; replace hcur := hbc)
        | (go_at_call 14; refine (T2.out _ _ _ _ ?_ ?_ hr3 ?_).mono ?_; (first | exact hcur | exact hcur.alloc hcur.size _); (first | exact Cells.new _ _ _ | exact (Cells.new w2.drew _ _).below hb3 (Cells.new w2.drew _ _).lt); (first | exact Below.refl _ _ | exact (Below.refl _ _).alloc (Nat.le_refl _) _); rintro e w4 ⟨v4, v5, w5, rfl, r5, hr5, hb4, hb5⟩; replace hcur := hb4)
        | (refine step_append_run (by rfl) (.tmp 26) (.tmp 29) 22 (by rfl) _ _ v5 w5 (by rfl) (by rfl) r5 ?_; replace hcur := hb5))
    all_goals go_wp2
    all_goals (
      go_meet
      exact ⟨hr5, hb5⟩)
  case rest =>
  obtain ⟨hrw, hbw⟩ := hcut
  obtain ⟨pW, cW, hvW, _⟩ := hrw.form
  rw [HWL.out] at hvW
  subst hvW
  have RW := hid (OwnE.reads encBd_len hrw (by rw [HWL.out]; omega))
  have B3 := hid hbw
  clear hrw hbw k0 k1 k2 SM T2 KS
  obtain ⟨w3, rfl⟩ : ∃ w3 : World, w3 = wc := ⟨_, rfl⟩
  have c5 := C52.out.below B3.out C52.out.lt
  have x0 : w3.cell? ⟨w.heap.size + 1, 0, none⟩ = some (.int .i64 a0) := by rw [c5.cell]; rfl
  have x1 : w3.cell? ⟨w.heap.size + 1, 1, none⟩ = some (.int .i64 a1) := by rw [c5.cell]; rfl
  have RO3 := hid (RO.out.below B3.out)
  clear c5
  have hmM := MM.out
  obtain ⟨M, hM⟩ : ∃ M, M = most W := ⟨_, rfl⟩
  obtain ⟨m, hm⟩ : ∃ m, m = most O := ⟨_, rfl⟩
  have hm0 : 0 ≤ m := by rw [hm]; exact (mostV_spec (zonesL O) 0).1
  go_upto_region 3 with fail
  go_cut [9, 10] (fun s9 s10 wx => s9 = .int .i64 (1 + um a0 120) ∧ s10 = .int .i64 (1 + um a1 120) ∧ Below w3.heap.size w3 wx)
  case first =>
    go_region
    all_goals go_wp2
    all_goals (
      go_meet
      exact ⟨rfl, rfl, (Below.refl _ _).drew⟩)
  case rest =>
  obtain ⟨rfl, rfl, hbx⟩ := hcut
  obtain ⟨w4, rfl⟩ : ∃ w4 : World, w4 = wc := ⟨_, rfl⟩
  have RO4 := hid (RO3.out.below hbx)
  have RW4 := hid (RW.out.below hbx)
  have B4 := hid (B2.out.trans ((B3.out.trans (hbx.mono B3.out.size)).mono B2.out.size))
  clear hbx x0 x1 t1 t2 t3 t4 t5 t6
  obtain ⟨L, hL⟩ : ∃ L, L = 1 + um a0 120 := ⟨_, rfl⟩
  obtain ⟨H, hH⟩ : ∃ H, H = 1 + um a1 120 := ⟨_, rfl⟩
  rw [← hL, ← hH]
  obtain ⟨lo, hlo⟩ : ∃ lo, min L H = lo := ⟨_, rfl⟩
  obtain ⟨hi, hhi⟩ : ∃ hi, max L H = hi := ⟨_, rfl⟩
  have hlh : lo ≤ hi := by omega
  have rlo : 1 ≤ lo ∧ lo ≤ 1000000 := by omega
  have rhi : 1 ≤ hi ∧ hi ≤ 1000000 := by omega
  have LH := hid hlh
  have RL := hid rlo
  have RH := hid rhi
  have GV := hid (give_calls RO4.out (by rw [← HN.out]; omega))
  clear hL hH hlh rlo rhi u0 u1
  go_upto_region 5 with fail
  go_wp2_with fail
  refine GV.out.mono ?_
  rintro e w5 ⟨v5, rfl, hr5, hb5⟩
  obtain ⟨pC, cC, hvC, _⟩ := hr5.form
  rw [← HN.out] at hvC
  subst hvC
  have BE := hid (best_calls (OwnE.reads encBd_len hr5 (by rw [← HN.out]; omega)))
  have B5 := hid (B4.out.trans (hb5.mono B4.out.size))
  have RW5 := hid (RW4.out.below hb5)
  rw [bsF_ok HOL.out HOK.out, ← hm] at BE
  clear hr5 hb5 GV hlo hhi
  have GV2 := hid (fun wx (hb : Below w5.heap.size w5 wx) => give_calls (RW5.out.below hb) (by rw [HWL.out]; omega))
  have BW := hid (fun wx v (hr : RowC w5.heap.size wx v W) => best_calls (OwnE.reads encBd_len hr (by rw [HWL.out]; omega)))
  rw [bsF_ok HWL2.out HWK.out, ← hM] at BW
  have PW := hid (fun wx v (hr : RowC w5.heap.size wx v W) x => pricef_calls (OwnE.reads encBd_len hr (by rw [HWL.out]; omega)) x)
  have PF := hid (fun x => prF_ok HWL2.out HWK.out x)
  have PM := hid (price_mono HWL2.out HWK.out LH.out)
  have PZ := hid (fun x (h : M = 0) => price_zero HWK.out HWL2.out x (hM ▸ h))
  have PB := hid (fun x (h : M ≠ 0) => best_range HWL2.out HWK.out x (hM ▸ h))
  rw [← hM, ← hm] at hmM
  have HMM := hid hmM
  have PP := hid (fun x (h : M ≠ 0) => price_pos HWL2.out HWK.out x (hM ▸ h))
  have HM0 := hid hm0
  clear hM hm hmM hm0
  by_cases hM0 : M = 0
  · have hm0 : m = 0 := by have := HMM.out; have := HM0.out; omega
    rw [if_pos hM0] at BW
    rw [if_pos hm0] at BE
    have pz := PZ.out lo hM0
    have pz2 := PZ.out hi hM0
    have P1 := PF.out lo
    have P2 := PF.out hi
    rw [if_pos RL.out, if_pos pz] at P1
    rw [if_pos RH.out, if_pos pz2] at P2
    have HP1 := hid P1
    have HP2 := hid P2
    clear pz pz2 P1 P2 hM0 hm0
    go_wp2_with fail
    refine BE.out.mono ?_
    rintro e w6 ⟨rfl, hb6⟩
    have B6 := hid hb6
    clear hb6 BE
    go_wp2_with fail
    refine (GV2.out _ B6.out).mono ?_
    rintro e w7 ⟨v7, rfl, hr7, hb7⟩
    have B7 := hid (B6.out.trans (hb7.mono B6.out.size))
    have BW1 := hid (BW.out w7 v7 (hr7.mono B6.out.size))
    clear hr7 hb7
    go_wp2_with fail
    refine BW1.out.mono ?_
    rintro e w8 ⟨rfl, hb8⟩
    have B8 := hid (B7.out.trans (hb8.mono B7.out.size))
    clear hb8 BW1
    go_wp2_with fail
    refine (GV2.out _ B8.out).mono ?_
    rintro e w9 ⟨v9, rfl, hr9, hb9⟩
    have B9 := hid (B8.out.trans (hb9.mono B8.out.size))
    have PW1 := hid (PW.out w9 v9 (hr9.mono B8.out.size) lo)
    rw [HP1.out] at PW1
    clear hr9 hb9
    go_wp2_with fail
    refine PW1.out.mono ?_
    rintro e w10 ⟨rfl, hb10⟩
    have B10 := hid (B9.out.trans (hb10.mono B9.out.size))
    clear hb10 PW1
    go_wp2_with fail
    refine (GV2.out _ B10.out).mono ?_
    rintro e w11 ⟨v11, rfl, hr11, hb11⟩
    have B11 := hid (B10.out.trans (hb11.mono B10.out.size))
    have PW2 := hid (PW.out w11 v11 (hr11.mono B10.out.size) hi)
    rw [HP2.out] at PW2
    clear hr11 hb11
    go_wp2_with fail
    refine PW2.out.mono ?_
    rintro e w12 ⟨rfl, hb12⟩
    have B12 := hid (B11.out.trans (hb12.mono B11.out.size))
    clear hb12 PW2
    go_wp2_with fail
    refine (AW.out _).mono ?_
    rintro e w13 ⟨rfl, hb13⟩
    have F := hid (FN.out w13 (B5.out.trans ((B12.out.trans (hb13.mono B12.out.size)).mono B5.out.size)))
    clear hb13
    go_wp2
    first | exact F.out | (go_ret; exact F.out)
  · rw [if_neg hM0] at BW
    have pz := PP.out lo hM0
    have pz2 := PP.out hi hM0
    have pb := (PB.out lo hM0).1
    have pb2 := (PB.out hi hM0).2
    have P1 := PF.out lo
    have P2 := PF.out hi
    rw [if_pos RL.out, if_neg pz] at P1
    rw [if_pos RH.out, if_neg pz2] at P2
    have pm := PM.out
    obtain ⟨p, hp⟩ : ∃ p, p = priceZ (zonesL W) lo := ⟨_, rfl⟩
    obtain ⟨q, hq⟩ : ∃ q, q = priceZ (zonesL W) hi := ⟨_, rfl⟩
    obtain ⟨f0, hf0⟩ : ∃ f0, f0 = ((bestZ W).getD 0 zn0).f := ⟨_, rfl⟩
    obtain ⟨g0, hg0⟩ : ∃ g0, g0 = ((bestZ W).getD ((bestZ W).length - 1) zn0).t := ⟨_, rfl⟩
    rw [← hf0, ← hg0] at BW
    rw [← hp] at P1 pm
    rw [← hq] at P2 pm
    rw [← hp, ← hf0] at pb
    rw [← hq, ← hg0] at pb2
    have HP1 := hid P1
    have HP2 := hid P2
    have mM := HMM.out
    have nv : ¬ M < m := by omega
    clear pz pz2 P1 P2 hM0 hp hq hf0 hg0 mM
    by_cases hm0 : m = 0
    · rw [if_pos hm0] at BE
      subst hm0
      go_wp2_with fail
      refine BE.out.mono ?_
      rintro e w6 ⟨rfl, hb6⟩
      have B6 := hid hb6
      clear hb6 BE
      go_wp2_with fail
      refine (GV2.out _ B6.out).mono ?_
      rintro e w7 ⟨v7, rfl, hr7, hb7⟩
      have B7 := hid (B6.out.trans (hb7.mono B6.out.size))
      have BW1 := hid (BW.out w7 v7 (hr7.mono B6.out.size))
      clear hr7 hb7
      go_wp2_with fail
      refine BW1.out.mono ?_
      rintro e w8 ⟨rfl, hb8⟩
      have B8 := hid (B7.out.trans (hb8.mono B7.out.size))
      clear hb8 BW1
      go_wp2_with fail
      refine (GV2.out _ B8.out).mono ?_
      rintro e w9 ⟨v9, rfl, hr9, hb9⟩
      have B9 := hid (B8.out.trans (hb9.mono B8.out.size))
      have PW1 := hid (PW.out w9 v9 (hr9.mono B8.out.size) lo)
      rw [HP1.out] at PW1
      clear hr9 hb9
      go_wp2_with fail
      refine PW1.out.mono ?_
      rintro e w10 ⟨rfl, hb10⟩
      have B10 := hid (B9.out.trans (hb10.mono B9.out.size))
      clear hb10 PW1
      go_wp2_with fail
      refine (GV2.out _ B10.out).mono ?_
      rintro e w11 ⟨v11, rfl, hr11, hb11⟩
      have B11 := hid (B10.out.trans (hb11.mono B10.out.size))
      have PW2 := hid (PW.out w11 v11 (hr11.mono B10.out.size) hi)
      rw [HP2.out] at PW2
      clear hr11 hb11
      go_wp2_with fail
      refine PW2.out.mono ?_
      rintro e w12 ⟨rfl, hb12⟩
      have B12 := hid (B11.out.trans (hb12.mono B11.out.size))
      clear hb12 PW2
      go_wp2_with fail
      refine (AW.out _).mono ?_
      rintro e w13 ⟨rfl, hb13⟩
      have F := hid (FN.out w13 (B5.out.trans ((B12.out.trans (hb13.mono B12.out.size)).mono B5.out.size)))
      clear hb13
      go_wp2
      first | exact F.out | (go_ret; exact F.out)
    · rw [if_neg hm0] at BE
      obtain ⟨f1, hf1⟩ : ∃ f1, f1 = ((bestZ O).getD 0 zn0).f := ⟨_, rfl⟩
      obtain ⟨g1, hg1⟩ : ∃ g1, g1 = ((bestZ O).getD ((bestZ O).length - 1) zn0).t := ⟨_, rfl⟩
      rw [← hf1, ← hg1] at BE
      clear hf1 hg1 hm0
      go_wp2_with fail
      refine BE.out.mono ?_
      rintro e w6 ⟨rfl, hb6⟩
      have B6 := hid hb6
      clear hb6 BE
      go_wp2_with fail
      refine (GV2.out _ B6.out).mono ?_
      rintro e w7 ⟨v7, rfl, hr7, hb7⟩
      have B7 := hid (B6.out.trans (hb7.mono B6.out.size))
      have BW1 := hid (BW.out w7 v7 (hr7.mono B6.out.size))
      clear hr7 hb7
      go_wp2_with fail
      refine BW1.out.mono ?_
      rintro e w8 ⟨rfl, hb8⟩
      have B8 := hid (B7.out.trans (hb8.mono B7.out.size))
      clear hb8 BW1
      go_wp2_with fail
      refine (GV2.out _ B8.out).mono ?_
      rintro e w9 ⟨v9, rfl, hr9, hb9⟩
      have B9 := hid (B8.out.trans (hb9.mono B8.out.size))
      have PW1 := hid (PW.out w9 v9 (hr9.mono B8.out.size) lo)
      rw [HP1.out] at PW1
      clear hr9 hb9
      go_wp2_with fail
      refine PW1.out.mono ?_
      rintro e w10 ⟨rfl, hb10⟩
      have B10 := hid (B9.out.trans (hb10.mono B9.out.size))
      clear hb10 PW1
      go_wp2_with fail
      refine (GV2.out _ B10.out).mono ?_
      rintro e w11 ⟨v11, rfl, hr11, hb11⟩
      have B11 := hid (B10.out.trans (hb11.mono B10.out.size))
      have PW2 := hid (PW.out w11 v11 (hr11.mono B10.out.size) hi)
      rw [HP2.out] at PW2
      clear hr11 hb11
      go_wp2_with fail
      refine PW2.out.mono ?_
      rintro e w12 ⟨rfl, hb12⟩
      have B12 := hid (B11.out.trans (hb12.mono B11.out.size))
      clear hb12 PW2
      go_wp2_with fail
      refine (AW.out _).mono ?_
      rintro e w13 ⟨rfl, hb13⟩
      have F := hid (FN.out w13 (B5.out.trans ((B12.out.trans (hb13.mono B12.out.size)).mono B5.out.size)))
      clear hb13
      go_wp2
      first | exact F.out | (go_ret; exact F.out)
end Go.Proofs.Ytjhelinbjlahiaa
