/- The program's Worth. -/
import Derived.Test.YtnnbdjfeagcbdaaWorth
import Derived.Test.YtnnbdjfeagcbdaaDiv
namespace Go.Proofs.Ytnnbdjfeagcbdaa
set_option linter.unusedSimpArgs false
set_option linter.unusedVariables false
open Go.RowKit Go.Shelf
attribute [local go_sem] Oper.semAt_some

theorem three_min (p g a : Int) : (p ≤ g ∧ p ≤ a) ∨ (g < p ∧ g ≤ a) ∨ (p ≤ g ∧ a < p) ∨ (g < p ∧ a < g) := by omega

set_option maxRecDepth 100000 in
set_option maxHeartbeats 8000000 in
theorem worth_ok (p g a s : Int) (hok : okW p g a s) (w : World) :
    Calls Try.prog 37 #[.int .i64 p, .int .i64 g, .int .i64 a, .int .i64 s] w fun e w' => e = .returned (.tuple #[.int .i64 (worthP p g a s).1, .int .i64 (worthP p g a s).2]) ∧ Below w.heap.size w w' := by
  have res : worthP p g a s = (p * g * a / (1000 * s), 0) := if_pos hok
  unfold okW at hok
  obtain ⟨o1, o2, o3, o4, o5, o6, o7, o8⟩ := hok
  have x1 : 0 ≤ p * g := Int.mul_nonneg (by omega) (by omega)
  have x2 : p * g ≤ 1000000000 * 1000000000 := Int.mul_le_mul (by omega) (by omega) (by omega) (by omega)
  obtain ⟨X, hX⟩ : ∃ X : Nat, (X : Int) = p * g := ⟨(p * g).toNat, by omega⟩
  obtain ⟨A, rfl⟩ : ∃ A : Nat, a = A := ⟨a.toNat, by omega⟩
  obtain ⟨D, hD⟩ : ∃ D : Nat, (D : Int) = 1000 * s := ⟨(1000 * s).toNat, by omega⟩
  rw [← hX] at res
  rw [← hD] at res
  have w1 : IntKind.i64.wrap (p * g) = (X : Int) := by rw [hX]; exact IntWalk.i64_in _ (by omega)
  have w2 : IntKind.u64.wrap (X : Int) = (X : Int) := IntWalk.u64_in _ (by omega)
  have w3 : IntKind.u64.wrap (A : Int) = (A : Int) := IntWalk.u64_in _ (by omega)
  have w4 : IntKind.i64.wrap (1000 * s) = (D : Int) := by rw [hD]; exact IntWalk.i64_in _ (by omega)
  have w5 : IntKind.u64.wrap (D : Int) = (D : Int) := IntWalk.u64_in _ (by omega)
  have hXA : X * A ≤ 1000000000000000000 * 3000 := Nat.mul_le_mul (by omega) (by omega)
  obtain ⟨H, hH⟩ : ∃ H, H = X * A / 18446744073709551616 := ⟨_, rfl⟩
  obtain ⟨L, hL⟩ : ∃ L, L = X * A % 18446744073709551616 := ⟨_, rfl⟩
  have hHL : H * 18446744073709551616 + L = X * A := by rw [hH, hL, Nat.mul_comm]; exact Nat.div_add_mod _ _
  obtain ⟨N, hN⟩ : ∃ N, N = (H * 18446744073709551616 + L) / D := ⟨_, rfl⟩
  have hDp : 1000 ≤ D := by omega
  have hN1 : N ≤ 3000000000000000000 := by
    rw [hN, hHL]
    refine Nat.le_of_lt_succ ((Nat.div_lt_iff_lt_mul (by omega)).2 ?_)
    have : 3000000000000000001 * 1000 ≤ 3000000000000000001 * D := Nat.mul_le_mul_left _ hDp
    omega
  have w6 : IntKind.i64.wrap (N : Int) = (N : Int) := IntWalk.i64_in _ (by omega)
  have hHb : H < 1000 := by omega
  have hLb : L < 18446744073709551616 := by rw [hL]; exact Nat.mod_lt _ (by decide)
  have RES := hid (show worthP p g A s = ((N : Int), 0) by rw [res, hN, hHL]; simp)
  have E1 := hid (show ((X * A / 18446744073709551616 : Nat) : Int) = (H : Int) by rw [hH])
  have E2 := hid (show ((X * A % 18446744073709551616 : Nat) : Int) = (L : Int) by rw [hL])
  have E3 := hid (show (((H * 18446744073709551616 + L) / D : Nat) : Int) = (N : Int) by rw [hN])
  have hXb : X < 18446744073709551616 := by omega
  have hDb : D < 18446744073709551616 := by omega
  clear res x1 x2 hX hXA hH hL hHL hN hD
  rcases three_min p g (A : Int) with ⟨m1, m2⟩ | ⟨m1, m2⟩ | ⟨m1, m2⟩ | ⟨m1, m2⟩
  · have hM : max p g ≤ 1000000000 := by omega
    go_enter Try.func37, Try.ntmps37
    go_wp2_with fail
    refine (Try.bits_Mul64 X A (by omega) (by omega) _).mono ?_
    rintro e w1 ⟨rfl, rfl⟩
    rw [E1.out, E2.out]
    go_wp2_with fail
    refine (div64_calls H L D (by omega) (by omega) (by omega) _).mono ?_
    rintro e w2 ⟨rfl, nk, rfl⟩
    rw [E3.out]
    go_wp2
    refine bodyPost_ret (v := .tuple #[.int .i64 (N : Int), .int .i64 0]) (by simp [results, Try.results37, go_sem]) rfl ⟨by rw [RES.out], below_drewN (Below.refl _ _) _⟩
  · have hM : max p g ≤ 1000000000 := by omega
    go_enter Try.func37, Try.ntmps37
    go_wp2_with fail
    refine (Try.bits_Mul64 X A (by omega) (by omega) _).mono ?_
    rintro e w1 ⟨rfl, rfl⟩
    rw [E1.out, E2.out]
    go_wp2_with fail
    refine (div64_calls H L D (by omega) (by omega) (by omega) _).mono ?_
    rintro e w2 ⟨rfl, nk, rfl⟩
    rw [E3.out]
    go_wp2
    refine bodyPost_ret (v := .tuple #[.int .i64 (N : Int), .int .i64 0]) (by simp [results, Try.results37, go_sem]) rfl ⟨by rw [RES.out], below_drewN (Below.refl _ _) _⟩
  · have hM : max p g ≤ 1000000000 := by omega
    go_enter Try.func37, Try.ntmps37
    go_wp2_with fail
    refine (Try.bits_Mul64 X A (by omega) (by omega) _).mono ?_
    rintro e w1 ⟨rfl, rfl⟩
    rw [E1.out, E2.out]
    go_wp2_with fail
    refine (div64_calls H L D (by omega) (by omega) (by omega) _).mono ?_
    rintro e w2 ⟨rfl, nk, rfl⟩
    rw [E3.out]
    go_wp2
    refine bodyPost_ret (v := .tuple #[.int .i64 (N : Int), .int .i64 0]) (by simp [results, Try.results37, go_sem]) rfl ⟨by rw [RES.out], below_drewN (Below.refl _ _) _⟩
  · have hM : max p g ≤ 1000000000 := by omega
    go_enter Try.func37, Try.ntmps37
    go_wp2_with fail
    refine (Try.bits_Mul64 X A (by omega) (by omega) _).mono ?_
    rintro e w1 ⟨rfl, rfl⟩
    rw [E1.out, E2.out]
    go_wp2_with fail
    refine (div64_calls H L D (by omega) (by omega) (by omega) _).mono ?_
    rintro e w2 ⟨rfl, nk, rfl⟩
    rw [E3.out]
    go_wp2
    refine bodyPost_ret (v := .tuple #[.int .i64 (N : Int), .int .i64 0]) (by simp [results, Try.results37, go_sem]) rfl ⟨by rw [RES.out], below_drewN (Below.refl _ _) _⟩

set_option maxRecDepth 100000 in
set_option maxHeartbeats 8000000 in
theorem worth_calls (p g a s : Int) (w : World) :
    Calls Try.prog 37 #[.int .i64 p, .int .i64 g, .int .i64 a, .int .i64 s] w fun e w' => e = .returned (.tuple #[.int .i64 (worthP p g a s).1, .int .i64 (worthP p g a s).2]) ∧ Below w.heap.size w w' := by
  rcases three_min p g a with ⟨m1, m2⟩ | ⟨m1, m2⟩ | ⟨m1, m2⟩ | ⟨m1, m2⟩
  · by_cases h1 : p < 0
    · have e := hid (show worthP p g a s = (0, 1) from if_neg (by unfold okW; omega))
      go_enter Try.func37, Try.ntmps37
      go_wp2
      refine bodyPost_ret (v := .tuple #[.int .i64 0, .int .i64 1]) (by simp [results, Try.results37, go_sem]) rfl ⟨by rw [e.out], Below.refl _ _⟩
    by_cases h2 : 1000000000 < max p g
    · have e := hid (show worthP p g a s = (0, 1) from if_neg (by unfold okW; omega))
      go_enter Try.func37, Try.ntmps37
      go_wp2
      refine bodyPost_ret (v := .tuple #[.int .i64 0, .int .i64 1]) (by simp [results, Try.results37, go_sem]) rfl ⟨by rw [e.out], Below.refl _ _⟩
    by_cases h3 : 3000 < a
    · have e := hid (show worthP p g a s = (0, 1) from if_neg (by unfold okW; omega))
      go_enter Try.func37, Try.ntmps37
      go_wp2
      refine bodyPost_ret (v := .tuple #[.int .i64 0, .int .i64 1]) (by simp [results, Try.results37, go_sem]) rfl ⟨by rw [e.out], Below.refl _ _⟩
    by_cases h4 : s < 1
    · have e := hid (show worthP p g a s = (0, 1) from if_neg (by unfold okW; omega))
      go_enter Try.func37, Try.ntmps37
      go_wp2
      refine bodyPost_ret (v := .tuple #[.int .i64 0, .int .i64 1]) (by simp [results, Try.results37, go_sem]) rfl ⟨by rw [e.out], Below.refl _ _⟩
    by_cases h5 : 3000 < s
    · have e := hid (show worthP p g a s = (0, 1) from if_neg (by unfold okW; omega))
      go_enter Try.func37, Try.ntmps37
      go_wp2
      refine bodyPost_ret (v := .tuple #[.int .i64 0, .int .i64 1]) (by simp [results, Try.results37, go_sem]) rfl ⟨by rw [e.out], Below.refl _ _⟩
    exact worth_ok p g a s (by unfold okW; omega) w
  · by_cases h1 : g < 0
    · have e := hid (show worthP p g a s = (0, 1) from if_neg (by unfold okW; omega))
      go_enter Try.func37, Try.ntmps37
      go_wp2
      refine bodyPost_ret (v := .tuple #[.int .i64 0, .int .i64 1]) (by simp [results, Try.results37, go_sem]) rfl ⟨by rw [e.out], Below.refl _ _⟩
    by_cases h2 : 1000000000 < max p g
    · have e := hid (show worthP p g a s = (0, 1) from if_neg (by unfold okW; omega))
      go_enter Try.func37, Try.ntmps37
      go_wp2
      refine bodyPost_ret (v := .tuple #[.int .i64 0, .int .i64 1]) (by simp [results, Try.results37, go_sem]) rfl ⟨by rw [e.out], Below.refl _ _⟩
    by_cases h3 : 3000 < a
    · have e := hid (show worthP p g a s = (0, 1) from if_neg (by unfold okW; omega))
      go_enter Try.func37, Try.ntmps37
      go_wp2
      refine bodyPost_ret (v := .tuple #[.int .i64 0, .int .i64 1]) (by simp [results, Try.results37, go_sem]) rfl ⟨by rw [e.out], Below.refl _ _⟩
    by_cases h4 : s < 1
    · have e := hid (show worthP p g a s = (0, 1) from if_neg (by unfold okW; omega))
      go_enter Try.func37, Try.ntmps37
      go_wp2
      refine bodyPost_ret (v := .tuple #[.int .i64 0, .int .i64 1]) (by simp [results, Try.results37, go_sem]) rfl ⟨by rw [e.out], Below.refl _ _⟩
    by_cases h5 : 3000 < s
    · have e := hid (show worthP p g a s = (0, 1) from if_neg (by unfold okW; omega))
      go_enter Try.func37, Try.ntmps37
      go_wp2
      refine bodyPost_ret (v := .tuple #[.int .i64 0, .int .i64 1]) (by simp [results, Try.results37, go_sem]) rfl ⟨by rw [e.out], Below.refl _ _⟩
    exact worth_ok p g a s (by unfold okW; omega) w
  · by_cases h1 : a < 0
    · have e := hid (show worthP p g a s = (0, 1) from if_neg (by unfold okW; omega))
      go_enter Try.func37, Try.ntmps37
      go_wp2
      refine bodyPost_ret (v := .tuple #[.int .i64 0, .int .i64 1]) (by simp [results, Try.results37, go_sem]) rfl ⟨by rw [e.out], Below.refl _ _⟩
    by_cases h2 : 1000000000 < max p g
    · have e := hid (show worthP p g a s = (0, 1) from if_neg (by unfold okW; omega))
      go_enter Try.func37, Try.ntmps37
      go_wp2
      refine bodyPost_ret (v := .tuple #[.int .i64 0, .int .i64 1]) (by simp [results, Try.results37, go_sem]) rfl ⟨by rw [e.out], Below.refl _ _⟩
    by_cases h3 : 3000 < a
    · have e := hid (show worthP p g a s = (0, 1) from if_neg (by unfold okW; omega))
      go_enter Try.func37, Try.ntmps37
      go_wp2
      refine bodyPost_ret (v := .tuple #[.int .i64 0, .int .i64 1]) (by simp [results, Try.results37, go_sem]) rfl ⟨by rw [e.out], Below.refl _ _⟩
    by_cases h4 : s < 1
    · have e := hid (show worthP p g a s = (0, 1) from if_neg (by unfold okW; omega))
      go_enter Try.func37, Try.ntmps37
      go_wp2
      refine bodyPost_ret (v := .tuple #[.int .i64 0, .int .i64 1]) (by simp [results, Try.results37, go_sem]) rfl ⟨by rw [e.out], Below.refl _ _⟩
    by_cases h5 : 3000 < s
    · have e := hid (show worthP p g a s = (0, 1) from if_neg (by unfold okW; omega))
      go_enter Try.func37, Try.ntmps37
      go_wp2
      refine bodyPost_ret (v := .tuple #[.int .i64 0, .int .i64 1]) (by simp [results, Try.results37, go_sem]) rfl ⟨by rw [e.out], Below.refl _ _⟩
    exact worth_ok p g a s (by unfold okW; omega) w
  · by_cases h1 : a < 0
    · have e := hid (show worthP p g a s = (0, 1) from if_neg (by unfold okW; omega))
      go_enter Try.func37, Try.ntmps37
      go_wp2
      refine bodyPost_ret (v := .tuple #[.int .i64 0, .int .i64 1]) (by simp [results, Try.results37, go_sem]) rfl ⟨by rw [e.out], Below.refl _ _⟩
    by_cases h2 : 1000000000 < max p g
    · have e := hid (show worthP p g a s = (0, 1) from if_neg (by unfold okW; omega))
      go_enter Try.func37, Try.ntmps37
      go_wp2
      refine bodyPost_ret (v := .tuple #[.int .i64 0, .int .i64 1]) (by simp [results, Try.results37, go_sem]) rfl ⟨by rw [e.out], Below.refl _ _⟩
    by_cases h3 : 3000 < a
    · have e := hid (show worthP p g a s = (0, 1) from if_neg (by unfold okW; omega))
      go_enter Try.func37, Try.ntmps37
      go_wp2
      refine bodyPost_ret (v := .tuple #[.int .i64 0, .int .i64 1]) (by simp [results, Try.results37, go_sem]) rfl ⟨by rw [e.out], Below.refl _ _⟩
    by_cases h4 : s < 1
    · have e := hid (show worthP p g a s = (0, 1) from if_neg (by unfold okW; omega))
      go_enter Try.func37, Try.ntmps37
      go_wp2
      refine bodyPost_ret (v := .tuple #[.int .i64 0, .int .i64 1]) (by simp [results, Try.results37, go_sem]) rfl ⟨by rw [e.out], Below.refl _ _⟩
    by_cases h5 : 3000 < s
    · have e := hid (show worthP p g a s = (0, 1) from if_neg (by unfold okW; omega))
      go_enter Try.func37, Try.ntmps37
      go_wp2
      refine bodyPost_ret (v := .tuple #[.int .i64 0, .int .i64 1]) (by simp [results, Try.results37, go_sem]) rfl ⟨by rw [e.out], Below.refl _ _⟩
    exact worth_ok p g a s (by unfold okW; omega) w
end Go.Proofs.Ytnnbdjfeagcbdaa
