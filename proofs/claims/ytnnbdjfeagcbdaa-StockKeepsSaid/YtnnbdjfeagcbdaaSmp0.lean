/- The generator: next, Draw, below, Below. -/
import Derived.Test.YtnnbdjfeagcbdaaRow
import Derived.Laws.BitsAllLaws
namespace Go.Proofs.Ytnnbdjfeagcbdaa
set_option linter.unusedSimpArgs false
set_option linter.unusedVariables false
open Go.RowKit
attribute [local go_sem] Oper.semAt_some

/-- The state after a step, and the number that it gives. -/
def drawS (x : Nat) : Nat := (x + 11400714819323198485) % 18446744073709551616
def mix1 (x : Nat) : Nat := ((x ^^^ x / 1073741824) * 13787848793156543929) % 18446744073709551616
def mix2 (x : Nat) : Nat := ((x ^^^ x / 134217728) * 10723151780598845931) % 18446744073709551616
def mix3 (x : Nat) : Nat := x ^^^ x / 2147483648
def drawZ (x : Nat) : Nat := mix3 (mix2 (mix1 (drawS x)))
theorem xor_lt64 (x k : Nat) (h : x < 18446744073709551616) : x ^^^ x / k < 18446744073709551616 :=
  Nat.xor_lt_two_pow (n := 64) h (Nat.lt_of_le_of_lt (Nat.div_le_self _ _) h)
theorem drawS_lt (x : Nat) : drawS x < 18446744073709551616 := Nat.mod_lt _ (by decide)
theorem mix1_lt (x : Nat) : mix1 x < 18446744073709551616 := Nat.mod_lt _ (by decide)
theorem mix2_lt (x : Nat) : mix2 x < 18446744073709551616 := Nat.mod_lt _ (by decide)
theorem drawZ_lt (x : Nat) : drawZ x < 18446744073709551616 := xor_lt64 _ _ (mix2_lt _)
/-- What the walk meets, one word after the other. -/
theorem draw_facts (x : Nat) : ∃ a a1 a2 b b1 b2 c c1 d : Nat, a = drawS x ∧ d = drawZ x ∧ (a < 18446744073709551616 ∧ b < 18446744073709551616 ∧ c < 18446744073709551616 ∧ d < 18446744073709551616) ∧
    IntKind.u64.wrap ((x : Int) + 11400714819323198485) = (a : Int) ∧ (a : Int) / 1073741824 = (a1 : Int) ∧ bits .xor .u64 (a : Int) (a1 : Int) = (a2 : Int) ∧
    IntKind.u64.wrap ((a2 : Int) * 13787848793156543929) = (b : Int) ∧ (b : Int) / 134217728 = (b1 : Int) ∧ bits .xor .u64 (b : Int) (b1 : Int) = (b2 : Int) ∧
    IntKind.u64.wrap ((b2 : Int) * 10723151780598845931) = (c : Int) ∧ (c : Int) / 2147483648 = (c1 : Int) ∧ bits .xor .u64 (c : Int) (c1 : Int) = (d : Int) := by
  have ha := drawS_lt x
  have hb := mix1_lt (drawS x)
  have hc := mix2_lt (mix1 (drawS x))
  have lt (y k : Nat) (h : y < 18446744073709551616) : y / k < 18446744073709551616 := Nat.lt_of_le_of_lt (Nat.div_le_self _ _) h
  refine ⟨drawS x, drawS x / 1073741824, drawS x ^^^ drawS x / 1073741824, mix1 (drawS x), mix1 (drawS x) / 134217728, mix1 (drawS x) ^^^ mix1 (drawS x) / 134217728, mix2 (mix1 (drawS x)), mix2 (mix1 (drawS x)) / 2147483648, drawZ x, rfl, rfl, ⟨ha, hb, hc, drawZ_lt x⟩, ?_, rfl, ?_, ?_, rfl, ?_, ?_, rfl, ?_⟩
  · rw [IntKind.wrap_u64]; unfold drawS; omega
  · exact u64_xor_nat _ _ ha (lt _ _ ha)
  · rw [IntKind.wrap_u64, mix1]; simp
  · exact u64_xor_nat _ _ hb (lt _ _ hb)
  · rw [IntKind.wrap_u64, mix2]; simp
  · exact u64_xor_nat _ _ hc (lt _ _ hc)

set_option maxHeartbeats 1000000 in
theorem rdraw_calls (x : Nat) (hx : x < 18446744073709551616) (w : World) :
    Calls Try.prog 95 #[.int .u64 x] w fun e w' => e = .returned (.tuple #[.int .u64 (drawS x : Nat), .int .u64 (drawZ x : Nat)]) ∧ w' = w := by
  obtain ⟨a, a1, a2, b, b1, b2, c, c1, d, ea, ed, bb, f1, f2, f3, f4, f5, f6, f7, f8, f9⟩ := draw_facts x
  rw [← ea, ← ed]
  obtain ⟨g1, g2, g3, g4⟩ := bb
  clear ea ed
  go_enter Try.func95, Try.ntmps95
  go_wp2
  refine bodyPost_ret (v := .tuple #[.int .u64 (a : Int), .int .u64 (d : Int)]) (by simp [results, Try.results95, go_sem]) rfl ⟨rfl, rfl⟩

set_option maxHeartbeats 1000000 in
theorem next_calls (x : Nat) (hx : x < 18446744073709551616) (B : Nat) (w : World) (h0 : w.cell? ⟨B, 0, none⟩ = some (.int .u64 x)) (hf : w.frozen? ⟨B, 0, none⟩ = false) :
    Calls Try.prog 94 #[.pointer (some ⟨B, 0, none⟩)] w fun e w' => e = .returned (.int .u64 (drawZ x : Nat)) ∧ w' = w.setCell ⟨B, 0, none⟩ (.int .u64 (drawS x : Nat)) := by
  obtain ⟨a, a1, a2, b, b1, b2, c, c1, d, ea, ed, bb, f1, f2, f3, f4, f5, f6, f7, f8, f9⟩ := draw_facts x
  rw [← ea, ← ed]
  obtain ⟨g1, g2, g3, g4⟩ := bb
  have hlt := World.block_lt_of_cell? _ _ h0
  clear ea ed
  go_enter Try.func94, Try.ntmps94
  go_wp2
  go_ret
  exact ⟨rfl, rfl⟩

/-- A number is used. -/
def takes (m z : Nat) : Prop := z + 18446744073709551616 % m < 18446744073709551616
instance (m z : Nat) : Decidable (takes m z) := by unfold takes; infer_instance
/-- The state and the number that drawing below m comes to. -/
inductive BelR (m : Nat) : Nat → Nat → Nat → Prop
  | hit (x : Nat) (h : takes m (drawZ x)) : BelR m x (drawS x) (drawZ x % m)
  | miss (x y r : Nat) (h : ¬ takes m (drawZ x)) (h2 : BelR m (drawS x) y r) : BelR m x y r
theorem BelR.lt {m x y r : Nat} (h : BelR m x y r) (hm : 0 < m) : y < 18446744073709551616 ∧ r < m := by
  induction h with
  | hit x h => exact ⟨drawS_lt x, Nat.mod_lt _ hm⟩
  | miss x y r _ _ ih => exact ih
theorem BelR.same {m x y r y' r' : Nat} (h : BelR m x y r) (h' : BelR m x y' r') : y = y' ∧ r = r' := by
  induction h generalizing y' r' with
  | hit x h =>
    cases h' with
    | hit => exact ⟨rfl, rfl⟩
    | miss _ _ _ h2 => exact absurd h h2
  | miss x y r h _ ih =>
    cases h' with
    | hit _ h2 => exact absurd h2 h
    | miss _ _ _ _ h3 => exact ih h3
/-- How many steps it is from a state to 0. -/
def dist (s : Nat) : Nat := ((18446744073709551616 - s) * 17428512612931826493) % 18446744073709551616
theorem dist_int (s : Nat) (h : s ≤ 18446744073709551616) : (dist s : Int) = (18446744073709551616 - (s : Int)) * 17428512612931826493 % 18446744073709551616 := by
  unfold dist
  rw [Int.natCast_emod, Int.natCast_mul, Int.natCast_sub h]
  simp
theorem inv64 : (17428512612931826493 * 11400714819323198485 : Int) = 1 + 18446744073709551616 * 10771413168148108919 := by simp
theorem inv_mul (t q X K G M : Int) (e1 : t * X = M * q) (h : X * G = 1 + M * K) : t = M * (q * G - t * K) := by
  have e2 : t * X * G = M * q * G := by rw [e1]
  rw [Int.mul_assoc, h, Int.mul_add, Int.mul_one] at e2
  have e4 : M * (q * G - t * K) = M * q * G - t * (M * K) := by rw [Int.mul_sub, ← Int.mul_assoc, Int.mul_left_comm]
  rw [e4, ← e2]; omega
theorem no_mult (t z : Int) (e3 : t = 18446744073709551616 * z) (h1 : 0 < t) (h2 : t < 18446744073709551616) : False := by omega
theorem step_mul (t q r u : Int) (e1 : t * 17428512612931826493 = 18446744073709551616 * q + r) (h : u = t - 11400714819323198485) : u * 17428512612931826493 = (r - 1) + 18446744073709551616 * (q - 10771413168148108919) := by
  subst h; rw [Int.sub_mul, e1]; omega
theorem step_mul2 (t q r u : Int) (e1 : t * 17428512612931826493 = 18446744073709551616 * q + r) (h : u = t - 11400714819323198485 + 18446744073709551616) : u * 17428512612931826493 = (r - 1) + 18446744073709551616 * (q - 10771413168148108919 + 17428512612931826493) := by
  subst h; rw [Int.add_mul, Int.sub_mul, e1]; omega
theorem rem_step (r q : Int) (u : Int) (r1 : 0 < r) (r2 : r < 18446744073709551616) (e : u = (r - 1) + 18446744073709551616 * q) : u % 18446744073709551616 = r - 1 := by
  rw [e, Int.add_mul_emod_self_left]
  exact Int.emod_eq_of_lt (by omega) (by omega)
theorem dist_core (t u : Int) (t0 : 0 < t) (t1 : t < 18446744073709551616) (hc : u = t - 11400714819323198485 ∨ u = t - 11400714819323198485 + 18446744073709551616) :
    u * 17428512612931826493 % 18446744073709551616 = t * 17428512612931826493 % 18446744073709551616 - 1 := by
  obtain ⟨q, hq⟩ : ∃ q, q = t * 17428512612931826493 / 18446744073709551616 := ⟨_, rfl⟩
  obtain ⟨r, hr⟩ : ∃ r, r = t * 17428512612931826493 % 18446744073709551616 := ⟨_, rfl⟩
  have e1 : t * 17428512612931826493 = 18446744073709551616 * q + r := by rw [hq, hr]; exact (Int.mul_ediv_add_emod _ _).symm
  have r0 : 0 ≤ r := by rw [hr]; exact Int.emod_nonneg _ (by decide)
  have r2 : r < 18446744073709551616 := by rw [hr]; exact Int.emod_lt_of_pos _ (by decide)
  rw [← hr]
  have r1 : r ≠ 0 := by
    intro h0
    rw [h0, Int.add_zero] at e1
    exact no_mult t _ (inv_mul t q _ _ _ _ e1 inv64) t0 t1
  have r3 : 0 < r := by clear e1 hr hq hc; omega
  rcases hc with h | h
  · exact rem_step r _ _ r3 r2 (step_mul t q r u e1 h)
  · exact rem_step r _ _ r3 r2 (step_mul2 t q r u e1 h)
theorem dist_pos (d e : Nat) (x : Int) (h1 : (d : Int) = x) (h2 : (e : Int) = x - 1) : e < d := by omega
theorem dist_step (s : Nat) (h0 : s ≠ 0) (h : s < 18446744073709551616) : dist (drawS s) < dist s := by
  have hlt := drawS_lt s
  refine dist_pos _ _ _ (dist_int s (Nat.le_of_lt h)) ?_
  rw [dist_int _ (Nat.le_of_lt hlt)]
  exact dist_core _ _ (by clear hlt; omega) (by clear hlt; omega) (by unfold drawS; omega)
theorem drawZ_zero (x : Nat) (h : drawS x = 0) : drawZ x = 0 := by unfold drawZ; rw [h]; decide +kernel
theorem takes_zero (m : Nat) (hm : 0 < m) (hm2 : m < 18446744073709551616) : takes m 0 := by
  unfold takes
  have := Nat.mod_lt 18446744073709551616 hm
  omega
theorem miss_dist (m x : Nat) (hm : 0 < m) (hm2 : m < 18446744073709551616) (h : ¬ takes m (drawZ x)) : dist (drawS (drawS x)) < dist (drawS x) :=
  dist_step _ (fun e => h (by rw [drawZ_zero x e]; exact takes_zero m hm hm2)) (drawS_lt x)
end Go.Proofs.Ytnnbdjfeagcbdaa
