/- The division of two words by one, by digits. No program in sight. -/
import Derived.Lib.BitFns
import Derived.Laws.BitsAllLaws
import Derived.Laws.MathBits
import Derived.IntWalk
namespace Go.Proofs.YtepldjidkomclaaGreat.Ca
set_option linter.unusedSimpArgs false
set_option linter.unusedVariables false
section
variable {A C Y u d q r : Int}
theorem le_quo {a b q : Int} (hb : 0 < b) (h : q * b ≤ a) : q ≤ a / b := (Int.le_ediv_iff_mul_le hb).2 h
theorem quo_le {a b q : Int} (hb : 0 < b) (h : a < (q + 1) * b) : a / b ≤ q := Int.le_of_lt_add_one ((Int.ediv_lt_iff_lt_mul hb).2 h)
structure Digit (A C Y u d : Int) : Prop where
  y : Y = A * 4294967296 + C
  c0 : 0 ≤ C
  c1 : C < 4294967296
  a0 : 2147483648 ≤ A
  a1 : A < 4294967296
  u0 : 0 ≤ u
  u1 : u < Y
  d0 : 0 ≤ d
  d1 : d < 4294967296
theorem Digit.ypos (h : Digit A C Y u d) : 0 < Y := by have := h.y; have := h.c0; have := h.a0; omega
theorem Digit.prod (h : Digit A C Y u d) (q : Int) : q * Y = q * A * 4294967296 + q * C := by rw [h.y, Int.mul_add, Int.mul_assoc]
theorem Digit.start (h : Digit A C Y u d) : u / A * A + (u - u / A * A) = u ∧ (u * 4294967296 + d) / Y ≤ u / A ∧ u / A ≤ 4294967297 ∧ 0 ≤ u / A ∧ 0 ≤ u - u / A * A ∧ u - u / A * A < A ∧ u / A * A ≤ u ∧ 0 ≤ u / A * A := by
  have ha : 0 < A := by have := h.a0; omega
  have e := Int.emod_add_mul_ediv u A
  have m0 := Int.emod_nonneg u (by omega : A ≠ 0)
  have m1 := Int.emod_lt_of_pos u ha
  have q0 : 0 ≤ u / A := Int.ediv_nonneg h.u0 (by omega)
  have hc : A * (u / A) = u / A * A := Int.mul_comm _ _
  have hp : 0 ≤ u / A * A := Int.mul_nonneg q0 (by omega)
  refine ⟨by omega, ?_, ?_, q0, by omega, by omega, by omega, hp⟩
  · refine quo_le h.ypos ?_
    rw [h.prod]; simp only [Int.add_mul, Int.one_mul]
    have := Int.mul_nonneg q0 h.c0
    have := h.d1; have := h.c0
    omega
  · refine quo_le ha ?_
    have := h.u1; have := h.y; have := h.c1; have := h.a0
    omega
theorem Digit.hit (h : Digit A C Y u d) (e : q * A + r = u) (hq : (u * 4294967296 + d) / Y ≤ q) (ht : q * C ≤ 4294967296 * r + d) : q = (u * 4294967296 + d) / Y := by
  have := le_quo (q := q) (a := u * 4294967296 + d) h.ypos (by rw [h.prod]; omega)
  omega
theorem Digit.over (h : Digit A C Y u d) (e : q * A + r = u) (hq : (u * 4294967296 + d) / Y ≤ q) (ht : 4294967296 ≤ q ∨ 4294967296 * r + d < q * C) : (u * 4294967296 + d) / Y ≤ q - 1 := by
  refine quo_le h.ypos ?_
  rw [Int.sub_add_cancel]
  rcases ht with ht | ht
  · have : 4294967296 * Y ≤ q * Y := Int.mul_le_mul_of_nonneg_right ht (Int.le_of_lt h.ypos)
    have := h.u1; have := h.d1
    omega
  · rw [h.prod]; omega
theorem Digit.broke (h : Digit A C Y u d) (e : q * A + r = u) (hq : (u * 4294967296 + d) / Y ≤ q) (h0 : 0 ≤ q) (h1 : q ≤ 4294967296) (hr : 4294967296 ≤ r) : q = (u * 4294967296 + d) / Y := by
  refine h.hit e hq ?_
  have : q * C ≤ 4294967296 * 4294967295 := Int.mul_le_mul h1 (by have := h.c1; omega) h.c0 (by omega)
  have := h.d0
  omega
theorem Digit.quo_bounds (h : Digit A C Y u d) : 0 ≤ (u * 4294967296 + d) / Y ∧ (u * 4294967296 + d) / Y < 4294967296 := by
  have := h.u0; have := h.d0; have := h.u1; have := h.d1
  refine ⟨Int.ediv_nonneg (by omega) (Int.le_of_lt h.ypos), (Int.ediv_lt_iff_lt_mul h.ypos).2 (by omega)⟩
end
theorem bitLen_bounds : ∀ (f x : Nat), x ≠ 0 → x < 2 ^ f → 2 ^ (Lib.bitLenAux f x - 1) ≤ x ∧ x < 2 ^ Lib.bitLenAux f x ∧ 1 ≤ Lib.bitLenAux f x ∧ Lib.bitLenAux f x ≤ f
  | 0, x, h0, h => by simp at h; omega
  | f + 1, x, h0, h => by
    by_cases h1 : x = 1
    · subst h1
      have : Lib.bitLenAux (f + 1) 1 = 1 := by cases f <;> simp [Lib.bitLenAux]
      rw [this]
      simp
    · have ih := bitLen_bounds f (x / 2) (by omega) (by rw [Nat.pow_succ] at h; omega)
      have e : Lib.bitLenAux (f + 1) x = 1 + Lib.bitLenAux f (x / 2) := by simp [Lib.bitLenAux, h0]
      rw [e]
      obtain ⟨i1, i2, i3, i4⟩ := ih
      have p1 : 2 ^ (1 + Lib.bitLenAux f (x / 2) - 1) = 2 * 2 ^ (Lib.bitLenAux f (x / 2) - 1) := by
        rw [show 1 + Lib.bitLenAux f (x / 2) - 1 = (Lib.bitLenAux f (x / 2) - 1) + 1 by omega, Nat.pow_succ, Nat.mul_comm]
      have p2 : 2 ^ (1 + Lib.bitLenAux f (x / 2)) = 2 * 2 ^ Lib.bitLenAux f (x / 2) := by rw [Nat.add_comm, Nat.pow_succ, Nat.mul_comm]
      rw [p1, p2]
      omega
theorem norm_y (y : Nat) (h0 : 0 < y) (h1 : y < 18446744073709551616) : Lib.bitLen y ≤ 64 ∧ 64 - Lib.bitLen y < 64 ∧ 9223372036854775808 ≤ y * 2 ^ (64 - Lib.bitLen y) ∧ y * 2 ^ (64 - Lib.bitLen y) < 18446744073709551616 := by
  obtain ⟨i1, i2, i3, i4⟩ := bitLen_bounds 64 y (by omega) h1
  obtain ⟨n, hn⟩ : ∃ n, n = Lib.bitLenAux 64 y := ⟨_, rfl⟩
  have e : Lib.bitLen y = n := hn.symm
  rw [← hn] at i1 i2 i3 i4
  rw [e]
  have p1 : 2 ^ (n - 1) * 2 ^ (64 - n) = 9223372036854775808 := by rw [← Nat.pow_add, show n - 1 + (64 - n) = 63 by omega]
  have p2 : 2 ^ n * 2 ^ (64 - n) = 18446744073709551616 := by rw [← Nat.pow_add, show n + (64 - n) = 64 by omega]
  have hp : 0 < 2 ^ (64 - n) := Nat.two_pow_pos _
  refine ⟨by omega, by omega, ?_, ?_⟩
  · rw [← p1]; exact Nat.mul_le_mul_right _ i1
  · rw [← p2]; exact Nat.mul_lt_mul_of_pos_right i2 hp
theorem norm_u (hi lo s : Nat) (hs : s < 64) (hlo : lo < 18446744073709551616) (hhi : hi * 2 ^ s < 18446744073709551616) :
    (hi * 2 ^ s ||| lo / 2 ^ (64 - s)) = (hi * 18446744073709551616 + lo) * 2 ^ s / 18446744073709551616 ∧ lo * 2 ^ s % 18446744073709551616 = (hi * 18446744073709551616 + lo) * 2 ^ s % 18446744073709551616 ∧ lo / 2 ^ (64 - s) < 18446744073709551616 := by
  have p : 2 ^ (64 - s) * 2 ^ s = 18446744073709551616 := by rw [← Nat.pow_add, Nat.sub_add_cancel (by omega)]
  have hp : 0 < 2 ^ (64 - s) := Nat.two_pow_pos _
  have hps : 0 < 2 ^ s := Nat.two_pow_pos _
  have hlt : lo / 2 ^ (64 - s) < 2 ^ s := by rw [Nat.div_lt_iff_lt_mul hp, Nat.mul_comm, p]; exact hlo
  have e1 : (hi * 18446744073709551616 + lo) * 2 ^ s = hi * 2 ^ s * 18446744073709551616 + lo * 2 ^ s := by rw [Nat.add_mul, Nat.mul_right_comm]
  have e2 : lo * 2 ^ s / 18446744073709551616 = lo / 2 ^ (64 - s) := by rw [← p, Nat.mul_div_mul_right _ _ hps]
  refine ⟨?_, ?_, Nat.lt_of_le_of_lt (Nat.div_le_self _ _) hlo⟩
  · rw [e1, Nat.mul_comm (hi * 2 ^ s) 18446744073709551616, Nat.mul_add_div (by decide), e2, Nat.mul_comm hi, Nat.two_pow_add_eq_or_of_lt hlt]
  · rw [e1, Nat.mul_comm (hi * 2 ^ s) 18446744073709551616, Nat.mul_add_mod]
end Go.Proofs.YtepldjidkomclaaGreat.Ca
