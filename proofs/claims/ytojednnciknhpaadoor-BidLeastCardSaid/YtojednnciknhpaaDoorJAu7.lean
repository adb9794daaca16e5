/- The reserves lot by lot, from the lowest; tables cell by cell. No program in sight. -/
import Derived.Lib.TrailingZeros
import Derived.Test.YtojednnciknhpaaDoorJMem
namespace Go.Proofs.YtojednnciknhpaaDoor
set_option linter.unusedSimpArgs false
set_option linter.unusedVariables false
open Go.RowKit
theorem and_pred_half (x : Nat) : (x &&& (x - 1)) / 2 = if x % 2 = 1 then x / 2 else (x / 2) &&& (x / 2 - 1) := by
  rw [Nat.and_div_two]
  split
  · rename_i h
    rw [show (x - 1) / 2 = x / 2 by omega, Nat.and_self]
  · rename_i h
    rw [show (x - 1) / 2 = x / 2 - 1 by omega]
theorem and_pred_bit (x : Nat) : ¬ (x &&& (x - 1)) % 2 = 1 := by
  rw [Nat.and_mod_two_eq_one]
  omega
theorem and_pred_lt {x : Nat} (h : x ≠ 0) : x &&& (x - 1) < x := by
  have := Nat.and_le_right (n := x) (m := x - 1)
  omega
theorem rsv_zero : ∀ res : List Int, rsvF res 0 = 0
  | [] => rfl
  | r :: l => by simp [rsvF, rsv_zero l]
/-- The lowest lot, and the others. -/
theorem rsv_low : ∀ (res : List Int) (f x : Nat), 0 < x → x < 2 ^ f → rsvF res x = res.getD (Lib.ctzFrom f x) 0 + rsvF res (x &&& (x - 1))
  | [], f, x, _, _ => by simp [rsvF]
  | r :: l, 0, x, h0, h => by simp at h; omega
  | r :: l, f + 1, x, h0, h => by
    rw [rsvF, rsvF, if_neg (and_pred_bit x), and_pred_half]
    unfold Lib.ctzFrom
    by_cases h1 : x % 2 = 1
    · rw [if_pos h1, if_pos h1, if_pos h1]
      simp
    · rw [if_neg h1, if_neg h1, if_neg h1]
      have hx : x / 2 < 2 ^ f := by rw [Nat.pow_succ] at h; omega
      rw [rsv_low l f (x / 2) (by omega) hx, Nat.add_comm 1]
      simp
theorem ctz_lt {x g : Nat} (h0 : 0 < x) (h : x < 2 ^ g) (hg : g ≤ 32) : Lib.ctz 32 x < g := by
  unfold Lib.ctz
  rw [if_neg (by omega)]
  obtain ⟨m, hm, _⟩ := Lib.ctzFrom_spec 32 x h0 (Nat.lt_of_lt_of_le h (Nat.pow_le_pow_right (by omega) hg))
  refine Classical.byContradiction fun q => ?_
  have h2 : 2 ^ g ≤ 2 ^ Lib.ctzFrom 32 x := Nat.pow_le_pow_right (by omega) (by omega)
  have h3 : 2 ^ Lib.ctzFrom 32 x ≤ 2 ^ Lib.ctzFrom 32 x * (2 * m + 1) := Nat.le_mul_of_pos_right _ (by omega)
  omega
theorem rsv_ctz (res : List Int) {x : Nat} (h0 : 0 < x) (h : x < 4294967296) : rsvF res x = res.getD (Lib.ctz 32 x) 0 + rsvF res (x &&& (x - 1)) := by
  rw [rsv_low res 32 x h0 h]
  unfold Lib.ctz
  rw [if_neg (by omega)]
/-- How a bidder's offers raise a total, so far. -/
def upF (T : Nat → Int) (s : Nat) (l : List Of) (m : Int) : Int := l.foldl (fun m o => if diffN o.lots s = 0 then max m (o.w + T (diffN s o.lots)) else m) m
theorem upF_snoc (T : Nat → Int) (s : Nat) (l : List Of) (o : Of) (m : Int) : upF T s (l ++ [o]) m = if diffN o.lots s = 0 then max (upF T s l m) (o.w + T (diffN s o.lots)) else upF T s l m := by
  unfold upF
  rw [List.foldl_append]
  rfl
theorem tabF_some (res : List Int) (l : List Of) (r : List (Option (List Of))) (s : Nat) : tabF res (some l :: r) s = upF (tabF res r) s l (tabF res r s) := rfl
theorem tabF_none (res : List Int) (r : List (Option (List Of))) (s : Nat) : tabF res (none :: r) s = tabF res r s := rfl
end Go.Proofs.YtojednnciknhpaaDoor
