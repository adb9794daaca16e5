/- The reference's Worth. -/
import Derived.Test.YtnnbdjfeagcbdaaRAlpha
namespace Go.Proofs.Ytnnbdjfeagcbdaa
set_option linter.unusedSimpArgs false
set_option linter.unusedVariables false
open Go.RowKit Go.Shelf
attribute [local go_sem] Oper.semAt_some

def okW (p g a s : Int) : Prop := 0 ≤ p ∧ p ≤ 1000000000 ∧ 0 ≤ g ∧ g ≤ 1000000000 ∧ 0 ≤ a ∧ a ≤ 3000 ∧ 1 ≤ s ∧ s ≤ 3000
instance (p g a s : Int) : Decidable (okW p g a s) := by unfold okW; infer_instance
def worthP (p g a s : Int) : Int × Int := if okW p g a s then (p * g * a / (1000 * s), 0) else (0, 1)
theorem worth_split (x d a : Int) (hd : 0 < d) : x / d * a + x % d * a / d = x * a / d := by
  have h : x * a = (x % d * a) + d * (x / d * a) := by
    have := Int.emod_add_mul_ediv x d
    calc x * a = (x % d + d * (x / d)) * a := by rw [this]
      _ = _ := by rw [Int.add_mul, Int.mul_assoc]
  rw [h, Int.add_mul_ediv_left _ _ (by omega), Int.add_comm]

set_option maxRecDepth 100000 in
set_option maxHeartbeats 4000000 in
theorem rworth_calls (p g a s : Int) (w : World) :
    Calls Try.prog 38 #[.int .i64 p, .int .i64 g, .int .i64 a, .int .i64 s] w fun e w' => e = .returned (.tuple #[.int .i64 (worthP p g a s).1, .int .i64 (worthP p g a s).2]) ∧ Below w.heap.size w w' := by
  by_cases b0 : p < 0
  · have e := hid (show worthP p g a s = (0, 1) from if_neg (by unfold okW; omega))
    go_enter Try.func38, Try.ntmps38
    go_wp2
    refine bodyPost_ret (v := .tuple #[.int .i64 0, .int .i64 1]) (by simp [results, Try.results38, go_sem]) rfl ⟨by rw [e.out], Below.refl _ _⟩
  by_cases b1 : 1000000000 < p
  · have e := hid (show worthP p g a s = (0, 1) from if_neg (by unfold okW; omega))
    go_enter Try.func38, Try.ntmps38
    go_wp2
    refine bodyPost_ret (v := .tuple #[.int .i64 0, .int .i64 1]) (by simp [results, Try.results38, go_sem]) rfl ⟨by rw [e.out], Below.refl _ _⟩
  by_cases b2 : g < 0
  · have e := hid (show worthP p g a s = (0, 1) from if_neg (by unfold okW; omega))
    go_enter Try.func38, Try.ntmps38
    go_wp2
    refine bodyPost_ret (v := .tuple #[.int .i64 0, .int .i64 1]) (by simp [results, Try.results38, go_sem]) rfl ⟨by rw [e.out], Below.refl _ _⟩
  by_cases b3 : 1000000000 < g
  · have e := hid (show worthP p g a s = (0, 1) from if_neg (by unfold okW; omega))
    go_enter Try.func38, Try.ntmps38
    go_wp2
    refine bodyPost_ret (v := .tuple #[.int .i64 0, .int .i64 1]) (by simp [results, Try.results38, go_sem]) rfl ⟨by rw [e.out], Below.refl _ _⟩
  by_cases b4 : a < 0
  · have e := hid (show worthP p g a s = (0, 1) from if_neg (by unfold okW; omega))
    go_enter Try.func38, Try.ntmps38
    go_wp2
    refine bodyPost_ret (v := .tuple #[.int .i64 0, .int .i64 1]) (by simp [results, Try.results38, go_sem]) rfl ⟨by rw [e.out], Below.refl _ _⟩
  by_cases b5 : 3000 < a
  · have e := hid (show worthP p g a s = (0, 1) from if_neg (by unfold okW; omega))
    go_enter Try.func38, Try.ntmps38
    go_wp2
    refine bodyPost_ret (v := .tuple #[.int .i64 0, .int .i64 1]) (by simp [results, Try.results38, go_sem]) rfl ⟨by rw [e.out], Below.refl _ _⟩
  by_cases b6 : s < 1
  · have e := hid (show worthP p g a s = (0, 1) from if_neg (by unfold okW; omega))
    go_enter Try.func38, Try.ntmps38
    go_wp2
    refine bodyPost_ret (v := .tuple #[.int .i64 0, .int .i64 1]) (by simp [results, Try.results38, go_sem]) rfl ⟨by rw [e.out], Below.refl _ _⟩
  by_cases b7 : 3000 < s
  · have e := hid (show worthP p g a s = (0, 1) from if_neg (by unfold okW; omega))
    go_enter Try.func38, Try.ntmps38
    go_wp2
    refine bodyPost_ret (v := .tuple #[.int .i64 0, .int .i64 1]) (by simp [results, Try.results38, go_sem]) rfl ⟨by rw [e.out], Below.refl _ _⟩
  have hok : okW p g a s := by unfold okW; omega
  have RES := hid (show worthP p g a s = (p * g * a / (1000 * s), 0) from if_pos hok)
  have x1 : 0 ≤ p * g := Int.mul_nonneg (by omega) (by omega)
  have x2 : p * g ≤ 1000000000 * 1000000000 := Int.mul_le_mul (by omega) (by omega) (by omega) (by omega)
  obtain ⟨x, hx⟩ : ∃ x, x = p * g := ⟨_, rfl⟩
  rw [← hx] at x1 x2 RES
  obtain ⟨d, hd⟩ : ∃ d, d = 1000 * s := ⟨_, rfl⟩
  have hs := hid (worth_split x d a (by omega))
  rw [← hd] at RES
  have hdp : 1000 ≤ d := by omega
  have hdz : (d == 0) = false := by rw [beq_eq_false_iff_ne]; omega
  have hdz' : d ≠ 0 := by omega
  have d1 : 0 ≤ x / d := Int.ediv_nonneg x1 (by omega)
  have d2 : x / d ≤ 1000000000000000 := Int.le_of_lt_add_one (Int.ediv_lt_of_lt_mul (by omega) (by omega))
  have r1 : 0 ≤ x % d := Int.emod_nonneg _ hdz'
  have r2 : x % d < d := Int.emod_lt_of_pos _ (by omega)
  have m1 : 0 ≤ x / d * a := Int.mul_nonneg d1 (by omega)
  have m2 : x / d * a ≤ 1000000000000000 * 3000 := Int.mul_le_mul d2 (by omega) (by omega) (by omega)
  have m3 : 0 ≤ x % d * a := Int.mul_nonneg r1 (by omega)
  have m4 : x % d * a ≤ 3000000 * 3000 := Int.mul_le_mul (by omega) (by omega) (by omega) (by omega)
  have n1 : 0 ≤ x % d * a / d := Int.ediv_nonneg m3 (by omega)
  have n2 : x % d * a / d ≤ x % d * a := Int.ediv_le_self _ m3
  have t1 : x.tdiv d = x / d := Int.tdiv_eq_ediv_of_nonneg x1
  have t2 : x.tmod d = x % d := Int.tmod_eq_emod_of_nonneg x1
  have t3 : (x % d * a).tdiv d = x % d * a / d := Int.tdiv_eq_ediv_of_nonneg m3
  have w0 : IntKind.i64.wrap (p * g) = x := by rw [← hx]; exact IntWalk.i64_in _ (by omega)
  have w1 : IntKind.i64.wrap (1000 * s) = d := by rw [← hd]; exact IntWalk.i64_in _ (by omega)
  have w2 : IntKind.i64.wrap (x / d) = x / d := IntWalk.i64_in _ (by omega)
  have w3 : IntKind.i64.wrap (x % d) = x % d := IntWalk.i64_in _ (by omega)
  have w4 : IntKind.i64.wrap (x / d * a) = x / d * a := IntWalk.i64_in _ (by omega)
  have w5 : IntKind.i64.wrap (x % d * a) = x % d * a := IntWalk.i64_in _ (by omega)
  have w6 : IntKind.i64.wrap (x % d * a / d) = x % d * a / d := IntWalk.i64_in _ (by omega)
  have w7 : IntKind.i64.wrap (x / d * a + x % d * a / d) = x / d * a + x % d * a / d := IntWalk.i64_in _ (by omega)
  clear hx hd
  go_enter Try.func38, Try.ntmps38
  go_wp2
  go_quiet (fail)
  go_wp2
  refine bodyPost_ret (v := .tuple #[.int .i64 (x / d * a + x % d * a / d), .int .i64 0]) (by simp [results, Try.results38, go_sem]) rfl ⟨by rw [RES.out, hs.out], below_drewN (Below.refl _ _) _⟩
end Go.Proofs.Ytnnbdjfeagcbdaa
