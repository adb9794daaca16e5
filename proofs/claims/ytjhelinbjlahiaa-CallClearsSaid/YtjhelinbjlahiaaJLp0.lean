/- CallPrices: the walk. -/
import Derived.Test.YtjhelinbjlahiaaJPr0
import Derived.Test.YtjhelinbjlahiaaJLu0
namespace Go.Proofs.Ytjhelinbjlahiaa
set_option linter.unusedSimpArgs false
set_option linter.unusedVariables false
open Go.RowKit
attribute [local go_sem] Oper.semAt_some
attribute [local go_sem ↓] Go.wp_at_zero Go.wp_at_succ
theorem price_range {l : List Bd} (hl : l.length ≤ 4096) (hok : ∀ b ∈ l, b.ok) (ref : Int) : priceZ (zonesL l) ref = 0 ∨ (1 ≤ priceZ (zonesL l) ref ∧ priceZ (zonesL l) ref ≤ 1000000) := by
  have h3 := (Zi_ok hl hok ref 3)
  obtain ⟨h1, _, h2⟩ := h3
  have e : priceZ (zonesL l) ref = if ((Zi ref (zonesL l) 3).getD 0 zn0).vol = 0 then 0 else ((Zi ref (zonesL l) 3).getD 0 zn0).pk (leanF (Zi ref (zonesL l) 2)) ref := rfl
  rw [e]
  have h0 : 0 < (Zi ref (zonesL l) 3).length := List.length_pos_iff.2 h2
  have eg : (Zi ref (zonesL l) 3).getD 0 zn0 = (Zi ref (zonesL l) 3)[0] := by simp [h0]
  rw [eg]
  have hz := h1 _ (List.getElem_mem h0)
  generalize (Zi ref (zonesL l) 3)[0] = z at hz
  split
  · exact .inl rfl
  · refine .inr ?_
    obtain ⟨a, b, c, _⟩ := hz
    unfold Zn.pk
    split
    · omega
    · split <;> omega
theorem prF_ok {l : List Bd} (h1 : l.length ≤ 4096) (h2 : ∀ b ∈ l, b.ok) (x : Int) : prF l x = if 1 ≤ x ∧ x ≤ 1000000 then (if priceZ (zonesL l) x = 0 then (0, 30) else (priceZ (zonesL l) x, 0)) else (0, 1) := by
  unfold prF
  rw [if_neg (by rw [chk_ok h1 h2]; decide), inC_of]
  by_cases h : 1 ≤ x ∧ x ≤ 1000000
  · rw [if_pos h, if_pos (by simpa using h)]
  · rw [if_neg h, if_neg (by simpa using h)]

set_option maxRecDepth 100000 in
set_option maxHeartbeats 8000000 in
theorem prices_law (w : World) (v : Value) (l : List Bd) (hv : ArgE encBd 3 w v l) (x0 : Int) :
    Calls Try.prog 6 #[v, .int .i64 x0] w fun e w' => e = .returned (.bool true) ∧ Below w.heap.size w w' := by
  obtain ⟨R, hR⟩ : ∃ R : Ending → World → Prop, R = fun e w' => e = .returned (.bool true) ∧ Below w.heap.size w w' := ⟨_, rfl⟩
  rw [← hR]
  have FN := hid (show ∀ w', Below w.heap.size w w' → R (.returned (.bool true)) w' from fun w' h => by rw [hR]; exact ⟨rfl, h⟩)
  clear hR
  have TM := hid (tame_calls (hv.src encBd_len (by omega)) 40 (by omega))
  obtain ⟨O, hO⟩ : ∃ O, O = tameL 40 l := ⟨_, rfl⟩
  have hOk : ∀ b ∈ O, b.ok := by rw [hO]; exact tameL_ok 40 l
  have hOl : O.length ≤ 40 := by rw [hO]; exact tameL_len 40 l
  rw [← hO] at TM
  have HOK := hid hOk
  have AW := hid awake_calls
  clear hO hv hOk
  go_enter Try.func6, Try.ntmps6
  go_wp2_with fail
  refine TM.out.mono ?_
  rintro e w2 ⟨v2, rfl, hr2, hb2⟩
  have B2 := hid hb2
  obtain ⟨pO, cO, hvO, _⟩ := hr2.form
  obtain ⟨n, hn⟩ : ∃ n, n = O.length := ⟨_, rfl⟩
  rw [← hn] at hvO hOl
  subst hvO
  have HN := hid hn
  have RO := hid (OwnE.reads encBd_len hr2 (by omega))
  have GV := hid (give_calls RO.out (by omega))
  clear hr2 hb2 TM hn
  go_wp2_with fail
  refine GV.out.mono ?_
  rintro e w3 ⟨v3, rfl, hr3, hb3⟩
  obtain ⟨pC, cC, hvC, _⟩ := hr3.form
  rw [← HN.out] at hvC
  subst hvC
  have B3 := hid (B2.out.trans (hb3.mono B2.out.size))
  have RO3 := hid (RO.out.below hb3)
  have RC := hid (OwnE.reads encBd_len hr3 (by rw [← HN.out]; omega))
  clear hr3 hb3 GV
  go_upto_region 4 with fail
  go_loopg [1, 7] 2 (fun k s1 s7 wx => ∃ (i : Nat) (x : Int), i + k = 2 ∧ s7 = .int .i64 i ∧ s1 = .int .i64 x ∧ Below w3.heap.size w3 wx)
  case atStart => exact ⟨0, x0, rfl, rfl, rfl, Below.refl _ _⟩
  case round =>
    obtain ⟨i, x, hik, rfl, rfl, hbx⟩ := hrel
    have HIK := hid hik
    have BX := hid hbx
    clear hik hbx
    by_cases hi : i = 2
    · subst hi
      go_wp2_with fail
      refine (AW.out _).mono ?_
      rintro e w7 ⟨rfl, hb7⟩
      have F := hid (FN.out w7 (B3.out.trans ((BX.out.trans (hb7.mono BX.out.size)).mono B3.out.size)))
      clear hb7
      go_wp2
      first | exact F.out | (go_ret; exact F.out)
    · have gi : (i : Int) < 2 := by have := HIK.out; omega
      have hi2 : i < 2 := by omega
      have PR := hid (pricef_calls (RC.out.below BX.out) x)
      rw [prF_ok (by rw [← HN.out]; omega) HOK.out] at PR
      have ur := um_range x (k := 120) (by omega)
      have t1 := um_tmod x 120
      have t2 : IntKind.i64.wrap (um x 120) = um x 120 := IntWalk.i64_in _ (by omega)
      have t3 : IntKind.i64.wrap (1 + um x 120) = 1 + um x 120 := IntWalk.i64_in _ (by omega)
      clear hi
      by_cases hin : 1 ≤ x ∧ x ≤ 1000000
      · rw [if_pos hin] at PR
        have n1 : ¬ x < 1 := by omega
        have n2 : ¬ 1000000 < x := by omega
        have RP := hid (fun wx (hb : Below w3.heap.size w3 wx) => rprice_calls (RO3.out.below hb) (by rw [← HN.out]; omega) HOK.out hin)
        have hpr := price_range (show O.length ≤ 4096 by rw [← HN.out]; omega) HOK.out x
        obtain ⟨P, hP⟩ : ∃ P, P = priceZ (zonesL O) x := ⟨_, rfl⟩
        rw [← hP] at PR RP hpr
        have g1 : (P != P) = false := by simp
        clear hin hP
        by_cases hp0 : P = 0
        · rw [if_pos hp0] at PR
          subst hp0
          clear hpr g1
          go_wp2_with fail
          refine PR.out.mono ?_
          rintro e w5 ⟨rfl, hb5⟩
          have B5 := hid (BX.out.trans (hb5.mono BX.out.size))
          clear hb5 PR
          go_wp2_with fail
          refine (RP.out _ B5.out).mono ?_
          rintro e w6 ⟨rfl, hb6⟩
          have B6 := hid (B5.out.trans (hb6.mono B5.out.size))
          clear hb6 RP
          go_wp2
          go_roundg (2 - (i + 1))
          · exact ⟨i + 1, _, by omega, by go_num, rfl, B6.out⟩
          · have := HIK.out; omega
        · rw [if_neg hp0] at PR
          have g2 : (P == 0) = false := by simpa using hp0
          have g3 : (0 : Int) < P := by omega
          clear hp0 hpr
          go_wp2_with fail
          refine PR.out.mono ?_
          rintro e w5 ⟨rfl, hb5⟩
          have B5 := hid (BX.out.trans (hb5.mono BX.out.size))
          clear hb5 PR
          go_wp2_with fail
          refine (RP.out _ B5.out).mono ?_
          rintro e w6 ⟨rfl, hb6⟩
          have B6 := hid (B5.out.trans (hb6.mono B5.out.size))
          clear hb6 RP
          go_wp2
          go_roundg (2 - (i + 1))
          · exact ⟨i + 1, _, by omega, by go_num, rfl, B6.out⟩
          · have := HIK.out; omega
      · rw [if_neg hin] at PR
        have hcase : x < 1 ∨ (¬ x < 1 ∧ 1000000 < x) := by omega
        clear hin
        go_wp2_with fail
        refine PR.out.mono ?_
        rintro e w5 ⟨rfl, hb5⟩
        have B5 := hid (BX.out.trans (hb5.mono BX.out.size))
        clear hb5 PR
        rcases hcase with n1 | ⟨n1, n2⟩
        all_goals (
          go_wp2
          go_roundg (2 - (i + 1))
          · exact ⟨i + 1, _, by omega, by go_num, rfl, B5.out⟩
          · have := HIK.out; omega)
end Go.Proofs.Ytjhelinbjlahiaa
