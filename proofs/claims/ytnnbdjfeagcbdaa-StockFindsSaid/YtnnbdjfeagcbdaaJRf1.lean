/- The reference: what a change does to a pocket; valid spans, lots, members. -/
import Derived.Deep.DeepCutAuto
import Derived.Test.YtnnbdjfeagcbdaaJAll
import Derived.Test.YtnnbdjfeagcbdaaJReg
namespace Go.Proofs.Ytnnbdjfeagcbdaa
set_option linter.unusedSimpArgs false
set_option linter.unusedVariables false
open Go.RowKit Go.Shelf
attribute [local go_sem] Oper.semAt_some

/-- What a change of the reference does to a pocket. -/
def changedC (what : Nat) (tt p : Cl) : Cl :=
  match what with
  | 1 => { p with owner := tt.owner }
  | 2 => { p with holder := tt.holder }
  | 3 => { p with holder := 0 }
  | 4 => { p with owner := p.holder, holder := 0 }
  | 5 => ⟨2, 0, 0, 0⟩
  | _ => p
theorem changedC_state (what : Nat) (tt d : Cl) (h : d.state ≠ 0) : (changedC what tt d).state ≠ 0 := by
  unfold changedC
  split <;> first | exact h | (simp only [ne_eq]; omega)

set_option maxRecDepth 100000 in
set_option maxHeartbeats 4000000 in
theorem changed_rcalls (w : World) (what : Nat) (hwh : what ≤ 5) (tt p : Cl) :
    Calls Try.prog 115 #[p.val, tt.val, .int .i64 what] w fun e w' => e = .returned (changedC what tt p).val ∧ Below w.heap.size w w' := by
  have l1 : w.heap.size < w.heap.size + 1 + 1 := by omega
  have l2 : w.heap.size < w.heap.size + 1 + 1 + 1 := by omega
  have l3 : w.heap.size + 1 < w.heap.size + 1 + 1 + 1 := by omega
  obtain ⟨a, b, c, d⟩ := p
  obtain ⟨a', b', c', d'⟩ := tt
  have hk : what = 0 ∨ what = 1 ∨ what = 2 ∨ what = 3 ∨ what = 4 ∨ what = 5 := by omega
  rcases hk with hk | hk | hk | hk | hk | hk
  · subst hk
    go_enter Try.func115, Try.ntmps115
    go_wp2
    refine bodyPost_ret (v := .agg #[.int .i64 a, .int .i64 b, .int .i64 c, .int .i64 d]) (by simp [results, Try.results115, go_sem]) rfl ⟨rfl, ?_⟩
    repeat (first | exact Below.refl _ _ | refine Below.setCell ?_ (by simp; try omega) _ | refine Below.alloc ?_ (by simp; try omega) _)
  · subst hk
    go_enter Try.func115, Try.ntmps115
    go_wp2
    refine bodyPost_ret (v := .agg #[.int .i64 a, .int .i64 b, .int .i64 c', .int .i64 d]) (by simp [results, Try.results115, go_sem]) rfl ⟨rfl, ?_⟩
    repeat (first | exact Below.refl _ _ | refine Below.setCell ?_ (by simp; try omega) _ | refine Below.alloc ?_ (by simp; try omega) _)
  · subst hk
    go_enter Try.func115, Try.ntmps115
    go_wp2
    refine bodyPost_ret (v := .agg #[.int .i64 a, .int .i64 b, .int .i64 c, .int .i64 d']) (by simp [results, Try.results115, go_sem]) rfl ⟨rfl, ?_⟩
    repeat (first | exact Below.refl _ _ | refine Below.setCell ?_ (by simp; try omega) _ | refine Below.alloc ?_ (by simp; try omega) _)
  · subst hk
    go_enter Try.func115, Try.ntmps115
    go_wp2
    refine bodyPost_ret (v := .agg #[.int .i64 a, .int .i64 b, .int .i64 c, .int .i64 0]) (by simp [results, Try.results115, go_sem]) rfl ⟨rfl, ?_⟩
    repeat (first | exact Below.refl _ _ | refine Below.setCell ?_ (by simp; try omega) _ | refine Below.alloc ?_ (by simp; try omega) _)
  · subst hk
    go_enter Try.func115, Try.ntmps115
    go_wp2
    refine bodyPost_ret (v := .agg #[.int .i64 a, .int .i64 b, .int .i64 d, .int .i64 0]) (by simp [results, Try.results115, go_sem]) rfl ⟨rfl, ?_⟩
    repeat (first | exact Below.refl _ _ | refine Below.setCell ?_ (by simp; try omega) _ | refine Below.alloc ?_ (by simp; try omega) _)
  · subst hk
    go_enter Try.func115, Try.ntmps115
    go_wp2
    refine bodyPost_ret (v := .agg #[.int .i64 2, .int .i64 0, .int .i64 0, .int .i64 0]) (by simp [results, Try.results115, go_sem]) rfl ⟨rfl, ?_⟩
    repeat (first | exact Below.refl _ _ | refine Below.setCell ?_ (by simp; try omega) _ | refine Below.alloc ?_ (by simp; try omega) _)

theorem member_r_calls (n : Int) (w : World) : Calls Try.prog 88 #[.int .i64 n] w fun e w' => e = .returned (.bool (inB 1000 n)) ∧ w' = w := by
  by_cases h1 : 1 ≤ n
  · by_cases h2 : n ≤ 1000
    · have e : inB 1000 n = true := by simp only [inB, Bool.and_eq_true, decide_eq_true_eq]; omega
      rw [e]
      go_enter Try.func88, Try.ntmps88
      go_wp2
      go_ret
      exact ⟨rfl, rfl⟩
    · have e : inB 1000 n = false := by simp only [inB, Bool.and_eq_false_iff, decide_eq_false_iff_not]; omega
      rw [e]
      go_enter Try.func88, Try.ntmps88
      go_wp2
      go_ret
      exact ⟨rfl, rfl⟩
  · have e : inB 1000 n = false := by simp only [inB, Bool.and_eq_false_iff, decide_eq_false_iff_not]; omega
    rw [e]
    go_enter Try.func88, Try.ntmps88
    go_wp2
    go_ret
    exact ⟨rfl, rfl⟩

theorem lot_r_calls (n : Int) (w : World) : Calls Try.prog 89 #[.int .i64 n] w fun e w' => e = .returned (.bool (inB 1000000 n)) ∧ w' = w := by
  by_cases h1 : 1 ≤ n
  · by_cases h2 : n ≤ 1000000
    · have e : inB 1000000 n = true := by simp only [inB, Bool.and_eq_true, decide_eq_true_eq]; omega
      rw [e]
      go_enter Try.func89, Try.ntmps89
      go_wp2
      go_ret
      exact ⟨rfl, rfl⟩
    · have e : inB 1000000 n = false := by simp only [inB, Bool.and_eq_false_iff, decide_eq_false_iff_not]; omega
      rw [e]
      go_enter Try.func89, Try.ntmps89
      go_wp2
      go_ret
      exact ⟨rfl, rfl⟩
  · have e : inB 1000000 n = false := by simp only [inB, Bool.and_eq_false_iff, decide_eq_false_iff_not]; omega
    rw [e]
    go_enter Try.func89, Try.ntmps89
    go_wp2
    go_ret
    exact ⟨rfl, rfl⟩

set_option maxHeartbeats 1000000 in
theorem valid_rcalls (a c : Int) (w : World) : Calls Try.prog 104 #[.agg #[.int .i64 a, .int .i64 c]] w fun e w' => e = .returned (.bool (okSpan a c)) ∧ Below w.heap.size w w' := by
  by_cases h1 : 1 ≤ a
  · by_cases h3 : a ≤ 1000000
    · have hw1 : IntKind.i64.wrap (1000000 - a) = 1000000 - a := IntWalk.i64_in _ (by omega)
      have hw2 : IntKind.i64.wrap (1000000 - a + 1) = 1000000 - a + 1 := IntWalk.i64_in _ (by omega)
      by_cases h2 : 1 ≤ c
      · by_cases h4 : c ≤ 1000000 - a + 1
        · have e : okSpan a c = true := (okSpan_iff a c).2 (by omega)
          rw [e]
          go_enter Try.func104, Try.ntmps104
          go_wp2
          go_ret
          exact ⟨rfl, Below.alloc (Below.refl _ _) (Nat.le_refl _) _⟩
        · have e : okSpan a c = false := by rw [Bool.eq_false_iff]; intro h; exact h4 (by have := (okSpan_iff a c).1 h; omega)
          rw [e]
          go_enter Try.func104, Try.ntmps104
          go_wp2
          go_ret
          exact ⟨rfl, Below.alloc (Below.refl _ _) (Nat.le_refl _) _⟩
      · have e : okSpan a c = false := by rw [Bool.eq_false_iff]; intro h; exact h2 (by have := (okSpan_iff a c).1 h; omega)
        rw [e]
        go_enter Try.func104, Try.ntmps104
        go_wp2
        go_ret
        exact ⟨rfl, Below.alloc (Below.refl _ _) (Nat.le_refl _) _⟩
    · have e : okSpan a c = false := by rw [Bool.eq_false_iff]; intro h; exact h3 (by have := (okSpan_iff a c).1 h; omega)
      rw [e]
      go_enter Try.func104, Try.ntmps104
      go_wp2
      go_ret
      exact ⟨rfl, Below.alloc (Below.refl _ _) (Nat.le_refl _) _⟩
  · have e : okSpan a c = false := by rw [Bool.eq_false_iff]; intro h; exact h1 (by have := (okSpan_iff a c).1 h; omega)
    rw [e]
    go_enter Try.func104, Try.ntmps104
    go_wp2
    go_ret
    exact ⟨rfl, Below.alloc (Below.refl _ _) (Nat.le_refl _) _⟩
end Go.Proofs.Ytnnbdjfeagcbdaa
