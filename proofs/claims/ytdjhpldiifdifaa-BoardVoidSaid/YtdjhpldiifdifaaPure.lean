/- The small functions of orders: in, isSide, good, valid. -/
import Derived.Test.YtdjhpldiifdifaaEach
namespace Go.Proofs.Ytdjhpldiifdifaa
set_option linter.unusedSimpArgs false
set_option linter.unusedVariables false
open Go.RowKit Go.Shelf
attribute [local go_sem] Oper.semAt_some
attribute [local go_sem ↓] Go.wp_at_zero Go.wp_at_succ

def Od.vals (o : Od) : Array Value := #[.int .i64 o.m, .int .i64 o.s, .int .i64 o.k, .int .i64 o.f, .int .i64 o.p, .int .i64 o.t, .int .i64 o.q, .int .i64 o.pk]

theorem in_calls (x lo hi : Int) (w : World) : Calls Try.prog 48 #[.int .i64 x, .int .i64 lo, .int .i64 hi] w fun e w' => e = .returned (.bool (inB2 x lo hi)) ∧ w' = w := by
  unfold inB2
  by_cases h1 : lo ≤ x
  · by_cases h2 : x ≤ hi
    · go_enter Try.func48, Try.ntmps48
      go_wp2
      go_ret
      exact ⟨by simp; omega, rfl⟩
    · go_enter Try.func48, Try.ntmps48
      go_wp2
      go_ret
      exact ⟨by simp; omega, rfl⟩
  · go_enter Try.func48, Try.ntmps48
    go_wp2
    go_ret
    exact ⟨by simp; omega, rfl⟩
theorem isSide_calls (s : Int) (w : World) : Calls Try.prog 47 #[.int .i64 s] w fun e w' => e = .returned (.bool (sideB s)) ∧ w' = w := by
  unfold sideB
  by_cases h1 : s = 1
  · subst h1
    go_enter Try.func47, Try.ntmps47
    go_wp2
    go_ret
    exact ⟨rfl, rfl⟩
  · by_cases h2 : s = 2
    · subst h2
      go_enter Try.func47, Try.ntmps47
      go_wp2
      go_ret
      exact ⟨rfl, rfl⟩
    · have e1 : (s == 1) = false := by simpa using h1
      have e2 : (s == 2) = false := by simpa using h2
      go_enter Try.func47, Try.ntmps47
      go_wp2
      go_ret
      exact ⟨by simp [h1, h2], rfl⟩
set_option maxHeartbeats 1000000 in
theorem good_calls (o : Od) (price : Int) (w : World) : Calls Try.prog 74 #[.agg o.vals, .int .i64 price] w fun e w' => e = .returned (.bool (o.good price)) ∧ Below w.heap.size w w' := by
  unfold Od.good Od.vals
  by_cases h1 : o.k = 2
  · have e1 : (o.k == 2) = true := by simpa using h1
    rw [if_pos h1]
    clear h1
    go_enter Try.func74, Try.ntmps74
    go_wp2
    go_ret
    exact ⟨rfl, Below.alloc (Below.refl _ _) (Nat.le_refl _) _⟩
  · have e1 : (o.k == 2) = false := by simpa using h1
    rw [if_neg h1]
    clear h1
    by_cases h2 : o.s = 1
    · have e2 : (o.s == 1) = true := by simpa using h2
      rw [if_pos h2]
      clear h2
      go_enter Try.func74, Try.ntmps74
      go_wp2
      go_ret
      exact ⟨rfl, Below.alloc (Below.refl _ _) (Nat.le_refl _) _⟩
    · have e2 : (o.s == 1) = false := by simpa using h2
      rw [if_neg h2]
      clear h2
      go_enter Try.func74, Try.ntmps74
      go_wp2
      go_ret
      exact ⟨by first | (simp; done) | (simp; rfl), Below.alloc (Below.refl _ _) (Nat.le_refl _) _⟩

set_option maxRecDepth 100000 in
set_option maxHeartbeats 4000000 in
theorem valid_calls (o : Od) (w : World) : Calls Try.prog 43 #[.agg o.vals] w fun e w' => e = .returned (.bool o.ok) ∧ Below w.heap.size w w' := by
  unfold Od.ok Od.vals
  cases h0 : inB2 o.m 1 1000
  · simp only [Bool.false_and, Bool.true_and, Bool.and_false]
    go_enter Try.func43, Try.ntmps43
    go_wp2_with (first | (go_at_call 48; refine (in_calls _ _ _ _).mono ?_; rintro e w1 ⟨rfl, rfl⟩) | (go_at_call 47; refine (isSide_calls _ _).mono ?_; rintro e w1 ⟨rfl, rfl⟩))
    go_ret
    exact ⟨by first | (simp; done) | (simp; rfl), Below.alloc (Below.refl _ _) (Nat.le_refl _) _⟩
  cases h1 : sideB o.s
  · simp only [Bool.false_and, Bool.true_and, Bool.and_false]
    go_enter Try.func43, Try.ntmps43
    go_wp2_with (first | (go_at_call 48; refine (in_calls _ _ _ _).mono ?_; rintro e w1 ⟨rfl, rfl⟩) | (go_at_call 47; refine (isSide_calls _ _).mono ?_; rintro e w1 ⟨rfl, rfl⟩))
    go_ret
    exact ⟨by first | (simp; done) | (simp; rfl), Below.alloc (Below.refl _ _) (Nat.le_refl _) _⟩
  cases h2 : inB2 o.f 1 4
  · simp only [Bool.false_and, Bool.true_and, Bool.and_false]
    go_enter Try.func43, Try.ntmps43
    go_wp2_with (first | (go_at_call 48; refine (in_calls _ _ _ _).mono ?_; rintro e w1 ⟨rfl, rfl⟩) | (go_at_call 47; refine (isSide_calls _ _).mono ?_; rintro e w1 ⟨rfl, rfl⟩))
    go_ret
    exact ⟨by first | (simp; done) | (simp; rfl), Below.alloc (Below.refl _ _) (Nat.le_refl _) _⟩
  cases h3 : inB2 o.q 1 1000000000
  · simp only [Bool.false_and, Bool.true_and, Bool.and_false]
    go_enter Try.func43, Try.ntmps43
    go_wp2_with (first | (go_at_call 48; refine (in_calls _ _ _ _).mono ?_; rintro e w1 ⟨rfl, rfl⟩) | (go_at_call 47; refine (isSide_calls _ _).mono ?_; rintro e w1 ⟨rfl, rfl⟩))
    go_ret
    exact ⟨by first | (simp; done) | (simp; rfl), Below.alloc (Below.refl _ _) (Nat.le_refl _) _⟩
  cases h4 : inB2 o.t 0 1000000
  · simp only [Bool.false_and, Bool.true_and, Bool.and_false]
    go_enter Try.func43, Try.ntmps43
    go_wp2_with (first | (go_at_call 48; refine (in_calls _ _ _ _).mono ?_; rintro e w1 ⟨rfl, rfl⟩) | (go_at_call 47; refine (isSide_calls _ _).mono ?_; rintro e w1 ⟨rfl, rfl⟩))
    go_ret
    exact ⟨by first | (simp; done) | (simp; rfl), Below.alloc (Below.refl _ _) (Nat.le_refl _) _⟩
  simp only [h0, h1, h2, h3, h4, Bool.true_and]
  by_cases k1 : o.k = 1
  · have e1 : (o.k == 1) = true := by simpa using k1
    rw [if_pos k1]
    clear k1
    cases h5 : inB2 o.p 1 1000000
    · simp only [Bool.false_and]
      go_enter Try.func43, Try.ntmps43
      go_wp2_with (first | (go_at_call 48; refine (in_calls _ _ _ _).mono ?_; rintro e w1 ⟨rfl, rfl⟩) | (go_at_call 47; refine (isSide_calls _ _).mono ?_; rintro e w1 ⟨rfl, rfl⟩))
      go_ret
      exact ⟨by first | (simp; done) | (simp; rfl), Below.alloc (Below.refl _ _) (Nat.le_refl _) _⟩
    simp only [Bool.true_and]
    by_cases p0 : o.pk = 0
    · have e3 : (o.pk == 0) = true := by simpa using p0
      rw [decide_eq_true p0]
      clear p0
      simp only [Bool.true_or]
      go_enter Try.func43, Try.ntmps43
      go_wp2_with (first | (go_at_call 48; refine (in_calls _ _ _ _).mono ?_; rintro e w1 ⟨rfl, rfl⟩) | (go_at_call 47; refine (isSide_calls _ _).mono ?_; rintro e w1 ⟨rfl, rfl⟩))
      go_ret
      exact ⟨by first | (simp; done) | (simp; rfl), Below.alloc (Below.refl _ _) (Nat.le_refl _) _⟩
    · have e3 : (o.pk == 0) = false := by simpa using p0
      rw [decide_eq_false p0]
      clear p0
      simp only [Bool.false_or]
      cases h6 : inB2 o.pk 1 o.q
      · simp only [Bool.false_and]
        go_enter Try.func43, Try.ntmps43
        go_wp2_with (first | (go_at_call 48; refine (in_calls _ _ _ _).mono ?_; rintro e w1 ⟨rfl, rfl⟩) | (go_at_call 47; refine (isSide_calls _ _).mono ?_; rintro e w1 ⟨rfl, rfl⟩))
        go_ret
        exact ⟨by first | (simp; done) | (simp; rfl), Below.alloc (Below.refl _ _) (Nat.le_refl _) _⟩
      simp only [Bool.true_and]
      by_cases f1 : o.f = 1
      · have e4 : (o.f == 1) = true := by simpa using f1
        rw [decide_eq_true f1]
        simp only [Bool.true_or]
        clear f1
        go_enter Try.func43, Try.ntmps43
        go_wp2_with (first | (go_at_call 48; refine (in_calls _ _ _ _).mono ?_; rintro e w1 ⟨rfl, rfl⟩) | (go_at_call 47; refine (isSide_calls _ _).mono ?_; rintro e w1 ⟨rfl, rfl⟩))
        go_ret
        exact ⟨by first | (simp; done) | (simp; rfl), Below.alloc (Below.refl _ _) (Nat.le_refl _) _⟩
      · have e4 : (o.f == 1) = false := by simpa using f1
        rw [decide_eq_false f1]
        clear f1
        simp only [Bool.false_or]
        go_enter Try.func43, Try.ntmps43
        go_wp2_with (first | (go_at_call 48; refine (in_calls _ _ _ _).mono ?_; rintro e w1 ⟨rfl, rfl⟩) | (go_at_call 47; refine (isSide_calls _ _).mono ?_; rintro e w1 ⟨rfl, rfl⟩))
        go_ret
        exact ⟨by first | (simp; done) | (simp; rfl), Below.alloc (Below.refl _ _) (Nat.le_refl _) _⟩
  · have e1 : (o.k == 1) = false := by simpa using k1
    rw [if_neg k1]
    clear k1
    by_cases k2 : o.k = 2
    · have e2 : (o.k == 2) = true := by simpa using k2
      rw [if_pos k2]
      clear k2
      by_cases z : o.p = 0
      · have e5 : (o.p != 0) = false := by simpa using z
        rw [decide_eq_true z]
        clear z
        simp only [Bool.true_and]
        by_cases f2 : o.f = 2
        · have e6f2 : (o.f != 2) = false := by simpa using f2
          rw [decide_eq_true f2]
          simp only [Bool.true_or, Bool.or_true, Bool.false_or, Bool.true_and]
          clear f2
          by_cases p0 : o.pk = 0
          · have e3 : (o.pk == 0) = true := by simpa using p0
            rw [decide_eq_true p0]
            clear p0
            simp only [Bool.true_or]
            go_enter Try.func43, Try.ntmps43
            go_wp2_with (first | (go_at_call 48; refine (in_calls _ _ _ _).mono ?_; rintro e w1 ⟨rfl, rfl⟩) | (go_at_call 47; refine (isSide_calls _ _).mono ?_; rintro e w1 ⟨rfl, rfl⟩))
            go_ret
            exact ⟨by first | (simp; done) | (simp; rfl), Below.alloc (Below.refl _ _) (Nat.le_refl _) _⟩
          · have e3 : (o.pk == 0) = false := by simpa using p0
            rw [decide_eq_false p0]
            clear p0
            simp only [Bool.false_or]
            cases h6 : inB2 o.pk 1 o.q
            · simp only [Bool.false_and]
              go_enter Try.func43, Try.ntmps43
              go_wp2_with (first | (go_at_call 48; refine (in_calls _ _ _ _).mono ?_; rintro e w1 ⟨rfl, rfl⟩) | (go_at_call 47; refine (isSide_calls _ _).mono ?_; rintro e w1 ⟨rfl, rfl⟩))
              go_ret
              exact ⟨by first | (simp; done) | (simp; rfl), Below.alloc (Below.refl _ _) (Nat.le_refl _) _⟩
            simp only [Bool.true_and]
            by_cases f1 : o.f = 1
            · have e4 : (o.f == 1) = true := by simpa using f1
              rw [decide_eq_true f1]
              simp only [Bool.true_or]
              clear f1
              go_enter Try.func43, Try.ntmps43
              go_wp2_with (first | (go_at_call 48; refine (in_calls _ _ _ _).mono ?_; rintro e w1 ⟨rfl, rfl⟩) | (go_at_call 47; refine (isSide_calls _ _).mono ?_; rintro e w1 ⟨rfl, rfl⟩))
              go_ret
              exact ⟨by first | (simp; done) | (simp; rfl), Below.alloc (Below.refl _ _) (Nat.le_refl _) _⟩
            · have e4 : (o.f == 1) = false := by simpa using f1
              rw [decide_eq_false f1]
              clear f1
              simp only [Bool.false_or]
              go_enter Try.func43, Try.ntmps43
              go_wp2_with (first | (go_at_call 48; refine (in_calls _ _ _ _).mono ?_; rintro e w1 ⟨rfl, rfl⟩) | (go_at_call 47; refine (isSide_calls _ _).mono ?_; rintro e w1 ⟨rfl, rfl⟩))
              go_ret
              exact ⟨by first | (simp; done) | (simp; rfl), Below.alloc (Below.refl _ _) (Nat.le_refl _) _⟩
        have e6f2 : (o.f != 2) = true := by simpa using f2
        rw [decide_eq_false f2]
        clear f2
        by_cases f3 : o.f = 3
        · have e6f3 : (o.f != 3) = false := by simpa using f3
          rw [decide_eq_true f3]
          simp only [Bool.true_or, Bool.or_true, Bool.false_or, Bool.true_and]
          clear f3
          by_cases p0 : o.pk = 0
          · have e3 : (o.pk == 0) = true := by simpa using p0
            rw [decide_eq_true p0]
            clear p0
            simp only [Bool.true_or]
            go_enter Try.func43, Try.ntmps43
            go_wp2_with (first | (go_at_call 48; refine (in_calls _ _ _ _).mono ?_; rintro e w1 ⟨rfl, rfl⟩) | (go_at_call 47; refine (isSide_calls _ _).mono ?_; rintro e w1 ⟨rfl, rfl⟩))
            go_ret
            exact ⟨by first | (simp; done) | (simp; rfl), Below.alloc (Below.refl _ _) (Nat.le_refl _) _⟩
          · have e3 : (o.pk == 0) = false := by simpa using p0
            rw [decide_eq_false p0]
            clear p0
            simp only [Bool.false_or]
            cases h6 : inB2 o.pk 1 o.q
            · simp only [Bool.false_and]
              go_enter Try.func43, Try.ntmps43
              go_wp2_with (first | (go_at_call 48; refine (in_calls _ _ _ _).mono ?_; rintro e w1 ⟨rfl, rfl⟩) | (go_at_call 47; refine (isSide_calls _ _).mono ?_; rintro e w1 ⟨rfl, rfl⟩))
              go_ret
              exact ⟨by first | (simp; done) | (simp; rfl), Below.alloc (Below.refl _ _) (Nat.le_refl _) _⟩
            simp only [Bool.true_and]
            by_cases f1 : o.f = 1
            · have e4 : (o.f == 1) = true := by simpa using f1
              rw [decide_eq_true f1]
              simp only [Bool.true_or]
              clear f1
              go_enter Try.func43, Try.ntmps43
              go_wp2_with (first | (go_at_call 48; refine (in_calls _ _ _ _).mono ?_; rintro e w1 ⟨rfl, rfl⟩) | (go_at_call 47; refine (isSide_calls _ _).mono ?_; rintro e w1 ⟨rfl, rfl⟩))
              go_ret
              exact ⟨by first | (simp; done) | (simp; rfl), Below.alloc (Below.refl _ _) (Nat.le_refl _) _⟩
            · have e4 : (o.f == 1) = false := by simpa using f1
              rw [decide_eq_false f1]
              clear f1
              simp only [Bool.false_or]
              go_enter Try.func43, Try.ntmps43
              go_wp2_with (first | (go_at_call 48; refine (in_calls _ _ _ _).mono ?_; rintro e w1 ⟨rfl, rfl⟩) | (go_at_call 47; refine (isSide_calls _ _).mono ?_; rintro e w1 ⟨rfl, rfl⟩))
              go_ret
              exact ⟨by first | (simp; done) | (simp; rfl), Below.alloc (Below.refl _ _) (Nat.le_refl _) _⟩
        have e6f3 : (o.f != 3) = true := by simpa using f3
        rw [decide_eq_false f3]
        clear f3
        simp only [Bool.false_or, Bool.false_and]
        go_enter Try.func43, Try.ntmps43
        go_wp2_with (first | (go_at_call 48; refine (in_calls _ _ _ _).mono ?_; rintro e w1 ⟨rfl, rfl⟩) | (go_at_call 47; refine (isSide_calls _ _).mono ?_; rintro e w1 ⟨rfl, rfl⟩))
        go_ret
        exact ⟨by first | (simp; done) | (simp; rfl), Below.alloc (Below.refl _ _) (Nat.le_refl _) _⟩
      · have e5 : (o.p != 0) = true := by simpa using z
        rw [decide_eq_false z]
        clear z
        simp only [Bool.false_and]
        go_enter Try.func43, Try.ntmps43
        go_wp2_with (first | (go_at_call 48; refine (in_calls _ _ _ _).mono ?_; rintro e w1 ⟨rfl, rfl⟩) | (go_at_call 47; refine (isSide_calls _ _).mono ?_; rintro e w1 ⟨rfl, rfl⟩))
        go_ret
        exact ⟨by first | (simp; done) | (simp; rfl), Below.alloc (Below.refl _ _) (Nat.le_refl _) _⟩
    · have e2 : (o.k == 2) = false := by simpa using k2
      rw [if_neg k2]
      clear k2
      simp only [Bool.false_and]
      go_enter Try.func43, Try.ntmps43
      go_wp2_with (first | (go_at_call 48; refine (in_calls _ _ _ _).mono ?_; rintro e w1 ⟨rfl, rfl⟩) | (go_at_call 47; refine (isSide_calls _ _).mono ?_; rintro e w1 ⟨rfl, rfl⟩))
      go_ret
      exact ⟨by first | (simp; done) | (simp; rfl), Below.alloc (Below.refl _ _) (Nat.le_refl _) _⟩
end Go.Proofs.Ytdjhpldiifdifaa
