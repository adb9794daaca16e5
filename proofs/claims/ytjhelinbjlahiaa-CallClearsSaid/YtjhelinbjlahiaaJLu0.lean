/- CallCurves: the walk. -/
import Derived.Test.YtjhelinbjlahiaaJIv0
import Derived.Test.YtjhelinbjlahiaaJLg0
namespace Go.Proofs.Ytjhelinbjlahiaa
set_option linter.unusedSimpArgs false
set_option linter.unusedVariables false
open Go.RowKit
attribute [local go_sem] Oper.semAt_some
attribute [local go_sem ↓] Go.wp_at_zero Go.wp_at_succ
theorem own_empty {α : Type} {enc : α → List Value} {sz : Nat} {e : TypeId} {B : Nat} {w : World} {v : Value} (h : OwnE enc sz e B w v ([] : List α)) : ∃ p c, v = .slice p 0 c := by
  obtain ⟨p, c, h1, _⟩ := h.form
  exact ⟨p, c, h1⟩
theorem atF_ok {l : List Bd} (h1 : l.length ≤ 4096) (h2 : ∀ b ∈ l, b.ok) (x : Int) : atF l x = if 1 ≤ x ∧ x ≤ 1000000 then (dem l x, sup l x, 0) else (0, 0, 1) := by
  unfold atF
  rw [if_neg (by rw [chk_ok h1 h2]; decide), inC_of]
  by_cases h : 1 ≤ x ∧ x ≤ 1000000
  · rw [if_pos h, if_pos (by simpa using h)]
  · rw [if_neg h, if_neg (by simpa using h)]
theorem bsF_ok {l : List Bd} (h1 : l.length ≤ 4096) (h2 : ∀ b ∈ l, b.ok) : bsF l = if most l = 0 then (0, 0, 0, 30) else (((bestZ l).getD 0 zn0).f, ((bestZ l).getD ((bestZ l).length - 1) zn0).t, most l, 0) := by
  unfold bsF
  rw [if_neg (by rw [chk_ok h1 h2]; decide), (bestZ_vol h1 h2).2.1]

set_option maxRecDepth 100000 in
set_option maxHeartbeats 8000000 in
theorem curves_law (w : World) (v : Value) (l : List Bd) (hv : ArgE encBd 3 w v l) (x0 : Int) :
    Calls Try.prog 8 #[v, .int .i64 x0] w fun e w' => e = .returned (.bool true) ∧ Below w.heap.size w w' := by
  obtain ⟨R, hR⟩ : ∃ R : Ending → World → Prop, R = fun e w' => e = .returned (.bool true) ∧ Below w.heap.size w w' := ⟨_, rfl⟩
  rw [← hR]
  have FN := hid (show ∀ w', Below w.heap.size w w' → R (.returned (.bool true)) w' from fun w' h => by rw [hR]; exact ⟨rfl, h⟩)
  clear hR
  have TM := hid (tame_calls (hv.src encBd_len (by omega)) 40 (by omega))
  obtain ⟨O, hO⟩ : ∃ O, O = tameL 40 l := ⟨_, rfl⟩
  have hOk : ∀ b ∈ O, b.ok := by rw [hO]; exact tameL_ok 40 l
  have hOl : O.length ≤ 40 := by rw [hO]; exact tameL_len 40 l
  rw [← hO] at TM
  have HOK := hid hOk
  have AW := hid awake_calls
  have BS0 := hid (bsF_ok (show O.length ≤ 4096 by omega) hOk)
  have BZ := hid (bestZ_vol (show O.length ≤ 4096 by omega) hOk)
  obtain ⟨lo, hlo⟩ : ∃ lo, lo = ((bestZ O).getD 0 zn0).f := ⟨_, rfl⟩
  obtain ⟨hi', hhi⟩ : ∃ hi', hi' = ((bestZ O).getD ((bestZ O).length - 1) zn0).t := ⟨_, rfl⟩
  rw [← hlo, ← hhi] at BS0
  have HLO := hid hlo
  have HHI := hid hhi
  clear hO hv hOk hlo hhi
  go_enter Try.func8, Try.ntmps8
  go_wp2_with fail
  refine TM.out.mono ?_
  rintro e w2 ⟨v2, rfl, hr2, hb2⟩
  have B2 := hid hb2
  obtain ⟨pO, cO, hvO, _⟩ := hr2.form
  obtain ⟨n, hn⟩ : ∃ n, n = O.length := ⟨_, rfl⟩
  rw [← hn] at hvO hOl
  subst hvO
  have HN := hid hn
  have RO := hid (OwnE.reads encBd_len hr2 (by omega))
  have GV := hid (give_calls RO.out (by omega))
  clear hr2 hb2 TM hn
  go_wp2_with fail
  refine GV.out.mono ?_
  rintro e w3 ⟨v3, rfl, hr3, hb3⟩
  obtain ⟨pC, cC, hvC, _⟩ := hr3.form
  rw [← HN.out] at hvC
  subst hvC
  have B3 := hid (B2.out.trans (hb3.mono B2.out.size))
  have RO3 := hid (RO.out.below hb3)
  have RC := hid (OwnE.reads encBd_len hr3 (by rw [← HN.out]; omega))
  clear hr3 hb3 GV
  go_upto_region 4 with fail
  go_loopg [1, 7] 2 (fun k s1 s7 wx => ∃ (i : Nat) (x : Int), i + k = 2 ∧ s7 = .int .i64 i ∧ s1 = .int .i64 x ∧ Below w3.heap.size w3 wx)
  case atStart => exact ⟨0, x0, rfl, rfl, rfl, Below.refl _ _⟩
  case round =>
    obtain ⟨i, x, hik, rfl, rfl, hbx⟩ := hrel
    have HIK := hid hik
    have BX := hid hbx
    clear hik hbx
    by_cases hi : i = 2
    · subst hi
      have BST := hid (best_calls (RC.out.below BX.out))
      rw [BS0.out] at BST
      go_wp2_with fail
      refine BST.out.mono ?_
      rintro e w5 ⟨rfl, hb5⟩
      have B5 := hid (BX.out.trans (hb5.mono BX.out.size))
      have RB := hid (rbest_calls (RO3.out.below B5.out) (by rw [← HN.out]; omega) HOK.out)
      unfold rbestL at RB
      have BZ2 := BZ.out
      obtain ⟨M, hM⟩ : ∃ M, M = most O := ⟨_, rfl⟩
      obtain ⟨K, hK⟩ : ∃ K, K = bestZ O := ⟨_, rfl⟩
      rw [← hM]
      rw [← hM, ← hK] at RB BZ2
      rw [← hK] at HLO HHI
      obtain ⟨bz1, bz2, bz3⟩ := BZ2
      have BZV := hid bz2
      have BK := hid bz3
      clear hb5 BST hM hK BS0 BZ bz2 bz3
      by_cases hM0 : M = 0
      · rw [if_pos hM0] at RB ⊢
        clear hM0 bz1
        go_wp2_with fail
        refine RB.out.mono ?_
        rintro e w6 ⟨v6, rfl, hr6, hb6⟩
        obtain ⟨p6, c6, rfl⟩ := own_empty hr6
        have B6 := hid (B5.out.trans (hb6.mono B5.out.size))
        clear hr6 hb6 RB
        go_wp2_with fail
        refine (AW.out _).mono ?_
        rintro e w7 ⟨rfl, hb7⟩
        have F := hid (FN.out w7 (B3.out.trans ((B6.out.trans (hb7.mono B6.out.size)).mono B3.out.size)))
        clear hb7
        go_wp2
        first | exact F.out | (go_ret; exact F.out)
      · rw [if_neg hM0] at RB ⊢
        clear hM0
        have hK0 : 0 < K.length := List.length_pos_iff.2 bz1
        go_wp2_with fail
        refine RB.out.mono ?_
        rintro e w6 ⟨v6, rfl, hr6, hb6⟩
        have B6 := hid (B5.out.trans (hb6.mono B5.out.size))
        obtain ⟨p6, c6, g, hv6, hp6, hc6⟩ := OwnE.cells encIv_len hr6
        obtain ⟨j, hj⟩ : ∃ j, K.length = j + 1 := ⟨K.length - 1, by omega⟩
        have e0 : K.getD 0 zn0 = K[0] := by simp [hK0]
        have e1 : K.getD (K.length - 1) zn0 = K[j]'(by omega) := by
          have : K.length - 1 = j := by omega
          rw [this]; simp [show j < K.length by omega]
        have bzv := BZV.out
        have hlo := HLO.out
        have hhi := HHI.out
        rw [e0] at bzv hlo
        rw [e1] at hhi
        have d0 := hc6 0 hK0 0 (by omega)
        have d2 := hc6 0 hK0 2 (by omega)
        have d1 := hc6 j (by omega) 1 (by omega)
        simp [encIv] at d0 d1 d2
        rw [bzv] at d2
        rw [← hlo] at d0
        rw [← hhi] at d1
        have hm40 : K.length ≤ 5000 := by
          have h1 := (zonesL_ok (show O.length ≤ 4096 by rw [← HN.out]; omega) HOK.out).2
          have h2 : K.length ≤ (zonesL O).length := by rw [BK.out]; exact List.length_filter_le _ _
          omega
        obtain ⟨rfl, _, hgl⟩ := hp6 hK0
        obtain ⟨m, hm⟩ : ∃ m, m = K.length := ⟨_, rfl⟩
        rw [← hm] at hv6 hj hm40
        subst hv6
        have ew : IntKind.i64.wrap ((m : Int) - 1) = (j : Int) := by rw [show (m : Int) - 1 = (j : Int) by omega]; exact IntWalk.i64_in _ (by omega)
        have g0 : (0 : Int) < (m : Int) := by omega
        have g1 : (j : Int) < (m : Int) := by omega
        have g2 : (0 : Int) ≤ (j : Int) := by omega
        have g3 : ((m : Int) == 0) = false := by simp; omega
        have a1 : (lo == lo) = true := by simp
        have a2 : (hi' == hi') = true := by simp
        have a3 : (M == M) = true := by simp
        clear hr6 hb6 RB hlo hhi e0 e1 hc6 hp6 bzv hj hm bz1 BZV hK0
        go_wp2_with fail
        refine (AW.out _).mono ?_
        rintro e w7 ⟨rfl, hb7⟩
        have F := hid (FN.out w7 (B3.out.trans ((B6.out.trans (hb7.mono B6.out.size)).mono B3.out.size)))
        clear hb7
        go_wp2
        first | exact F.out | (go_ret; exact F.out)
    · have gi : (i : Int) < 2 := by have := HIK.out; omega
      have hi2 : i < 2 := by omega
      have AT := hid (at_calls (RC.out.below BX.out) x)
      rw [atF_ok (by rw [← HN.out]; omega) HOK.out] at AT
      have ur := um_range x (k := 1000000) (by omega)
      have t1 := um_tmod x 1000000
      have t2 : IntKind.i64.wrap (um x 1000000) = um x 1000000 := IntWalk.i64_in _ (by omega)
      have t3 : IntKind.i64.wrap (1 + um x 1000000) = 1 + um x 1000000 := IntWalk.i64_in _ (by omega)
      clear hi
      by_cases hin : 1 ≤ x ∧ x ≤ 1000000
      · rw [if_pos hin] at AT
        have n1 : ¬ x < 1 := by omega
        have n2 : ¬ 1000000 < x := by omega
        obtain ⟨D, hD⟩ : ∃ D, D = dem O x := ⟨_, rfl⟩
        obtain ⟨S, hS⟩ : ∃ S, S = sup O x := ⟨_, rfl⟩
        have RA := hid (fun wx (hb : Below w3.heap.size w3 wx) => rat_calls (RO3.out.below hb) (by rw [← HN.out]; omega) HOK.out x)
        rw [← hD, ← hS] at AT RA
        have g1 : (D != D) = false := by simp
        have g2 : (S != S) = false := by simp
        clear hin hD hS
        go_wp2_with fail
        refine AT.out.mono ?_
        rintro e w5 ⟨rfl, hb5⟩
        have B5 := hid (BX.out.trans (hb5.mono BX.out.size))
        clear hb5 AT
        go_wp2_with fail
        refine (RA.out _ B5.out).mono ?_
        rintro e w6 ⟨rfl, hw6⟩
        subst hw6
        go_wp2
        go_roundg (2 - (i + 1))
        · exact ⟨i + 1, _, by omega, by go_num, rfl, B5.out⟩
        · have := HIK.out; omega
      · rw [if_neg hin] at AT
        have hcase : x < 1 ∨ (¬ x < 1 ∧ 1000000 < x) := by omega
        clear hin
        go_wp2_with fail
        refine AT.out.mono ?_
        rintro e w5 ⟨rfl, hb5⟩
        have B5 := hid (BX.out.trans (hb5.mono BX.out.size))
        clear hb5 AT
        rcases hcase with n1 | ⟨n1, n2⟩
        all_goals (
          go_wp2
          go_roundg (2 - (i + 1))
          · exact ⟨i + 1, _, by omega, by go_num, rfl, B5.out⟩
          · have := HIK.out; omega)
end Go.Proofs.Ytjhelinbjlahiaa
