/- The reference's small functions: other, better, good, Valid. -/
import Derived.Test.YtdjhpldiifdifaaJKee0
namespace Go.Proofs.Ytdjhpldiifdifaa
set_option linter.unusedSimpArgs false
set_option linter.unusedVariables false
open Go.RowKit Go.Shelf
attribute [local go_sem] Oper.semAt_some
attribute [local go_sem ↓] Go.wp_at_zero Go.wp_at_succ

theorem rother_calls {s : Int} (hs : s = 1 ∨ s = 2) (w : World) : Calls Try.prog 65 #[.int .i64 s] w fun e w' => e = .returned (.int .i64 (3 - s)) ∧ w' = w := by
  rcases hs with rfl | rfl
  all_goals (
    go_enter Try.func65, Try.ntmps65
    go_wp2
    go_ret
    exact ⟨rfl, rfl⟩)
theorem rbetter_calls (s a b : Int) (w : World) : Calls Try.prog 57 #[.int .i64 s, .int .i64 a, .int .i64 b] w fun e w' => e = .returned (.bool (better s a b)) ∧ w' = w := by
  unfold better
  by_cases h : s = 1
  · have e1 : (s == 1) = true := by simpa using h
    rw [if_pos h]
    clear h
    go_enter Try.func57, Try.ntmps57
    go_wp2
    go_ret
    exact ⟨rfl, rfl⟩
  · have e1 : (s == 1) = false := by simpa using h
    rw [if_neg h]
    clear h
    go_enter Try.func57, Try.ntmps57
    go_wp2
    go_ret
    exact ⟨rfl, rfl⟩
set_option maxHeartbeats 1000000 in
theorem rgood_calls (o : Od) (hs : o.s = 1 ∨ o.s = 2) (price : Int) (w : World) : Calls Try.prog 85 #[.agg o.vals, .int .i64 price] w fun e w' => e = .returned (.bool (o.good price)) ∧ Below w.heap.size w w' := by
  unfold Od.good Od.vals
  by_cases h1 : o.k = 2
  · have e1 : (o.k == 2) = true := by simpa using h1
    rw [if_pos h1]
    clear h1
    go_enter Try.func85, Try.ntmps85
    go_wp2
    go_ret
    exact ⟨rfl, Below.alloc (Below.refl _ _) (Nat.le_refl _) _⟩
  · have e1 : (o.k == 2) = false := by simpa using h1
    rw [if_neg h1]
    clear h1
    rcases hs with h2 | h2
    · have e2 : (o.s == 1) = true := by simpa using h2
      have e3 : (o.s == 2) = false := by simp [h2]
      rw [if_pos h2]
      clear h2
      cases hp : decide (price ≤ o.p)
      all_goals (
        go_enter Try.func85, Try.ntmps85
        go_wp2
        go_ret
        exact ⟨by first | rfl | (simp; done), Below.alloc (Below.refl _ _) (Nat.le_refl _) _⟩)
    · have e2 : (o.s == 1) = false := by simp [h2]
      have e3 : (o.s == 2) = true := by simp [h2]
      rw [if_neg (by omega)]
      clear h2
      go_enter Try.func85, Try.ntmps85
      go_wp2
      go_ret
      exact ⟨by first | (simp; done) | (simp; rfl), Below.alloc (Below.refl _ _) (Nat.le_refl _) _⟩

/-- What is wrong with an order at once. -/
def bad1 (o : Od) : Bool := decide (o.m < 1) || (decide (1000 < o.m) || (((o.s != 1) && (o.s != 2)) || (decide (o.f < 1) || (decide (4 < o.f) || (decide (o.q < 1) || (decide (1000000000 < o.q) || (decide (o.t < 0) || decide (1000000 < o.t))))))))
def fin1 (o : Od) : Bool := (o.pk == 0) || (decide (1 ≤ o.pk) && (decide (o.pk ≤ o.q) && ((o.f == 1) || (o.f == 4))))
theorem ok_split (o : Od) : o.ok = (!bad1 o && ((if o.k = 1 then !(decide (o.p < 1) || decide (1000000 < o.p)) else if o.k = 2 then !((o.p != 0) || ((o.f != 2) && (o.f != 3))) else false) && fin1 o)) := by
  rw [Bool.eq_iff_iff]
  unfold Od.ok bad1 fin1 inB2 sideB
  by_cases k1 : o.k = 1
  · simp [k1]; omega
  · by_cases k2 : o.k = 2
    · simp [k2]; omega
    · simp [k1, k2]

set_option maxRecDepth 100000 in
set_option maxHeartbeats 8000000 in
theorem rvalid_calls (o : Od) (w : World) : Calls Try.prog 84 #[.agg o.vals] w fun e w' => e = .returned (.bool o.ok) ∧ Below w.heap.size w w' := by
  rw [ok_split]
  unfold Od.vals
  obtain ⟨R, hR⟩ : ∃ R : Bool → Ending → World → Prop, R = fun v e w' => e = .returned (.bool v) ∧ Below w.heap.size w w' := ⟨_, rfl⟩
  have FIN := hid (show ∀ v w', Below w.heap.size w w' → R v (.returned (.bool v)) w' by intro v w' h; rw [hR]; exact ⟨rfl, h⟩)
  have HB := hid (Below.alloc (Below.refl w.heap.size w) (Nat.le_refl _) (.cells #[.int .i64 o.m, .int .i64 o.s, .int .i64 o.k, .int .i64 o.f, .int .i64 o.p, .int .i64 o.t, .int .i64 o.q, .int .i64 o.pk] 27))
  show Calls _ _ _ _ fun e w' => e = .returned (.bool _) ∧ Below w.heap.size w w'
  obtain ⟨V, hV⟩ : ∃ V, V = (!bad1 o && ((if o.k = 1 then !(decide (o.p < 1) || decide (1000000 < o.p)) else if o.k = 2 then !((o.p != 0) || ((o.f != 2) && (o.f != 3))) else false) && fin1 o)) := ⟨_, rfl⟩
  rw [← hV]
  have hRV : (fun (e : Ending) w' => e = .returned (.bool V) ∧ Below w.heap.size w w') = R V := by rw [hR]
  rw [hRV]
  have HV := hid hV
  obtain ⟨B1, hB1⟩ : ∃ B1, B1 = bad1 o := ⟨_, rfl⟩
  rw [← hB1] at HV
  have HB1 := hid hB1
  clear hR hV hRV hB1
  go_enter Try.func84, Try.ntmps84
  go_upto_region 1 with fail
  obtain ⟨wb, hwb⟩ : ∃ wb, wb = w.alloc (.cells #[.int .i64 o.m, .int .i64 o.s, .int .i64 o.k, .int .i64 o.f, .int .i64 o.p, .int .i64 o.t, .int .i64 o.q, .int .i64 o.pk] 27) := ⟨_, rfl⟩
  go_cut [50] (fun s50 wx => s50 = .bool B1 ∧ wx = w.alloc (.cells #[.int .i64 o.m, .int .i64 o.s, .int .i64 o.k, .int .i64 o.f, .int .i64 o.p, .int .i64 o.t, .int .i64 o.q, .int .i64 o.pk] 27))
  case first =>
    clear hwb
    cases a1 : decide (o.m < 1)
    rotate_left
    · skip
      go_wp2
      go_meet
      exact ⟨by rw [HB1.out]; unfold bad1; simp only [a1, Bool.true_or, Bool.or_true, Bool.false_or, Bool.true_and, Bool.and_true, Bool.false_and, Bool.and_false, Bool.or_false], rfl⟩
    cases a2 : decide (1000 < o.m)
    rotate_left
    · skip
      go_wp2
      go_meet
      exact ⟨by rw [HB1.out]; unfold bad1; simp only [a1, a2, Bool.true_or, Bool.or_true, Bool.false_or, Bool.true_and, Bool.and_true, Bool.false_and, Bool.and_false, Bool.or_false], rfl⟩
    cases s1 : (o.s != 1)
    rotate_left
    · cases s2 : (o.s != 2)
      · skip
        cases a4 : decide (o.f < 1)
        rotate_left
        · skip
          go_wp2
          go_meet
          exact ⟨by rw [HB1.out]; unfold bad1; simp only [a1, a2, s1, s2, a4, Bool.true_or, Bool.or_true, Bool.false_or, Bool.true_and, Bool.and_true, Bool.false_and, Bool.and_false, Bool.or_false], rfl⟩
        cases a5 : decide (4 < o.f)
        rotate_left
        · skip
          go_wp2
          go_meet
          exact ⟨by rw [HB1.out]; unfold bad1; simp only [a1, a2, s1, s2, a4, a5, Bool.true_or, Bool.or_true, Bool.false_or, Bool.true_and, Bool.and_true, Bool.false_and, Bool.and_false, Bool.or_false], rfl⟩
        cases a6 : decide (o.q < 1)
        rotate_left
        · skip
          go_wp2
          go_meet
          exact ⟨by rw [HB1.out]; unfold bad1; simp only [a1, a2, s1, s2, a4, a5, a6, Bool.true_or, Bool.or_true, Bool.false_or, Bool.true_and, Bool.and_true, Bool.false_and, Bool.and_false, Bool.or_false], rfl⟩
        cases a7 : decide (1000000000 < o.q)
        rotate_left
        · skip
          go_wp2
          go_meet
          exact ⟨by rw [HB1.out]; unfold bad1; simp only [a1, a2, s1, s2, a4, a5, a6, a7, Bool.true_or, Bool.or_true, Bool.false_or, Bool.true_and, Bool.and_true, Bool.false_and, Bool.and_false, Bool.or_false], rfl⟩
        cases a8 : decide (o.t < 0)
        rotate_left
        · skip
          go_wp2
          go_meet
          exact ⟨by rw [HB1.out]; unfold bad1; simp only [a1, a2, s1, s2, a4, a5, a6, a7, a8, Bool.true_or, Bool.or_true, Bool.false_or, Bool.true_and, Bool.and_true, Bool.false_and, Bool.and_false, Bool.or_false], rfl⟩
        cases a9 : decide (1000000 < o.t)
        rotate_left
        · skip
          go_wp2
          go_meet
          exact ⟨by rw [HB1.out]; unfold bad1; simp only [a1, a2, s1, s2, a4, a5, a6, a7, a8, a9, Bool.true_or, Bool.or_true, Bool.false_or, Bool.true_and, Bool.and_true, Bool.false_and, Bool.and_false, Bool.or_false], rfl⟩
        go_wp2
        go_meet
        exact ⟨by rw [HB1.out]; unfold bad1; simp only [a1, a2, s1, s2, a4, a5, a6, a7, a8, a9, Bool.true_or, Bool.or_true, Bool.false_or, Bool.true_and, Bool.and_true, Bool.false_and, Bool.and_false, Bool.or_false], rfl⟩
      · skip
        go_wp2
        go_meet
        exact ⟨by rw [HB1.out]; unfold bad1; simp only [a1, a2, s1, s2, Bool.true_or, Bool.or_true, Bool.false_or, Bool.true_and, Bool.and_true, Bool.false_and, Bool.and_false, Bool.or_false], rfl⟩
    cases a4 : decide (o.f < 1)
    rotate_left
    · skip
      go_wp2
      go_meet
      exact ⟨by rw [HB1.out]; unfold bad1; simp only [a1, a2, s1, a4, Bool.true_or, Bool.or_true, Bool.false_or, Bool.true_and, Bool.and_true, Bool.false_and, Bool.and_false, Bool.or_false], rfl⟩
    cases a5 : decide (4 < o.f)
    rotate_left
    · skip
      go_wp2
      go_meet
      exact ⟨by rw [HB1.out]; unfold bad1; simp only [a1, a2, s1, a4, a5, Bool.true_or, Bool.or_true, Bool.false_or, Bool.true_and, Bool.and_true, Bool.false_and, Bool.and_false, Bool.or_false], rfl⟩
    cases a6 : decide (o.q < 1)
    rotate_left
    · skip
      go_wp2
      go_meet
      exact ⟨by rw [HB1.out]; unfold bad1; simp only [a1, a2, s1, a4, a5, a6, Bool.true_or, Bool.or_true, Bool.false_or, Bool.true_and, Bool.and_true, Bool.false_and, Bool.and_false, Bool.or_false], rfl⟩
    cases a7 : decide (1000000000 < o.q)
    rotate_left
    · skip
      go_wp2
      go_meet
      exact ⟨by rw [HB1.out]; unfold bad1; simp only [a1, a2, s1, a4, a5, a6, a7, Bool.true_or, Bool.or_true, Bool.false_or, Bool.true_and, Bool.and_true, Bool.false_and, Bool.and_false, Bool.or_false], rfl⟩
    cases a8 : decide (o.t < 0)
    rotate_left
    · skip
      go_wp2
      go_meet
      exact ⟨by rw [HB1.out]; unfold bad1; simp only [a1, a2, s1, a4, a5, a6, a7, a8, Bool.true_or, Bool.or_true, Bool.false_or, Bool.true_and, Bool.and_true, Bool.false_and, Bool.and_false, Bool.or_false], rfl⟩
    cases a9 : decide (1000000 < o.t)
    rotate_left
    · skip
      go_wp2
      go_meet
      exact ⟨by rw [HB1.out]; unfold bad1; simp only [a1, a2, s1, a4, a5, a6, a7, a8, a9, Bool.true_or, Bool.or_true, Bool.false_or, Bool.true_and, Bool.and_true, Bool.false_and, Bool.and_false, Bool.or_false], rfl⟩
    go_wp2
    go_meet
    exact ⟨by rw [HB1.out]; unfold bad1; simp only [a1, a2, s1, a4, a5, a6, a7, a8, a9, Bool.true_or, Bool.or_true, Bool.false_or, Bool.true_and, Bool.and_true, Bool.false_and, Bool.and_false, Bool.or_false], rfl⟩
  case rest =>
  obtain ⟨rfl, rfl⟩ := hcut
  clear HB1
  have HWB := hid hwb
  cases B1 with
  | true =>
    have hv : V = false := by rw [HV.out]; rfl
    subst hv
    clear hwb
    go_wp2
    exact FIN.out _ _ HB.out
  | false =>
    clear hwb
    by_cases k1 : o.k = 1
    · have e1 : (o.k == 1) = true := by simpa using k1
      have HV1 := hid (show V = (!(decide (o.p < 1) || decide (1000000 < o.p)) && fin1 o) by rw [HV.out, if_pos k1]; simp)
      clear HV k1
      cases c1 : decide (o.p < 1)
      rotate_left
      · skip
        have hv : V = false := by rw [HV1.out]; unfold fin1; simp only [c1, Bool.true_or, Bool.or_true, Bool.false_or, Bool.true_and, Bool.and_true, Bool.false_and, Bool.and_false, Bool.or_false, Bool.not_true, Bool.not_false]
        subst hv
        go_wp2
        exact FIN.out _ _ HB.out
      cases c2 : decide (1000000 < o.p)
      rotate_left
      · skip
        have hv : V = false := by rw [HV1.out]; unfold fin1; simp only [c1, c2, Bool.true_or, Bool.or_true, Bool.false_or, Bool.true_and, Bool.and_true, Bool.false_and, Bool.and_false, Bool.or_false, Bool.not_true, Bool.not_false]
        subst hv
        go_wp2
        exact FIN.out _ _ HB.out
      cases b1 : (o.pk == 0)
      rotate_left
      · skip
        have hv : V = true := by rw [HV1.out]; unfold fin1; simp only [c1, c2, b1, Bool.true_or, Bool.or_true, Bool.false_or, Bool.true_and, Bool.and_true, Bool.false_and, Bool.and_false, Bool.or_false, Bool.not_true, Bool.not_false]
        subst hv
        go_wp2
        exact FIN.out _ _ HB.out
      cases b2 : decide (1 ≤ o.pk)
      · skip
        have hv : V = false := by rw [HV1.out]; unfold fin1; simp only [c1, c2, b1, b2, Bool.true_or, Bool.or_true, Bool.false_or, Bool.true_and, Bool.and_true, Bool.false_and, Bool.and_false, Bool.or_false, Bool.not_true, Bool.not_false]
        subst hv
        go_wp2
        exact FIN.out _ _ HB.out
      cases b3 : decide (o.pk ≤ o.q)
      · skip
        have hv : V = false := by rw [HV1.out]; unfold fin1; simp only [c1, c2, b1, b2, b3, Bool.true_or, Bool.or_true, Bool.false_or, Bool.true_and, Bool.and_true, Bool.false_and, Bool.and_false, Bool.or_false, Bool.not_true, Bool.not_false]
        subst hv
        go_wp2
        exact FIN.out _ _ HB.out
      cases b4 : (o.f == 1)
      rotate_left
      · skip
        have hv : V = true := by rw [HV1.out]; unfold fin1; simp only [c1, c2, b1, b2, b3, b4, Bool.true_or, Bool.or_true, Bool.false_or, Bool.true_and, Bool.and_true, Bool.false_and, Bool.and_false, Bool.or_false, Bool.not_true, Bool.not_false]
        subst hv
        go_wp2
        exact FIN.out _ _ HB.out
      cases b5 : (o.f == 4)
      · skip
        have hv : V = false := by rw [HV1.out]; unfold fin1; simp only [c1, c2, b1, b2, b3, b4, b5, Bool.true_or, Bool.or_true, Bool.false_or, Bool.true_and, Bool.and_true, Bool.false_and, Bool.and_false, Bool.or_false, Bool.not_true, Bool.not_false]
        subst hv
        go_wp2
        exact FIN.out _ _ HB.out
      · skip
        have hv : V = true := by rw [HV1.out]; unfold fin1; simp only [c1, c2, b1, b2, b3, b4, b5, Bool.true_or, Bool.or_true, Bool.false_or, Bool.true_and, Bool.and_true, Bool.false_and, Bool.and_false, Bool.or_false, Bool.not_true, Bool.not_false]
        subst hv
        go_wp2
        exact FIN.out _ _ HB.out
    · have e1 : (o.k == 1) = false := by simpa using k1
      by_cases k2 : o.k = 2
      · have e2 : (o.k == 2) = true := by simpa using k2
        have HV1 := hid (show V = (!((o.p != 0) || ((o.f != 2) && (o.f != 3))) && fin1 o) by rw [HV.out, if_neg k1, if_pos k2]; simp)
        clear HV k1 k2
        cases c1 : (o.p != 0)
        rotate_left
        · skip
          have hv : V = false := by rw [HV1.out]; unfold fin1; simp only [c1, Bool.true_or, Bool.or_true, Bool.false_or, Bool.true_and, Bool.and_true, Bool.false_and, Bool.and_false, Bool.or_false, Bool.not_true, Bool.not_false]
          subst hv
          go_wp2
          exact FIN.out _ _ HB.out
        cases c2 : (o.f != 2)
        · skip
          cases b1 : (o.pk == 0)
          rotate_left
          · skip
            have hv : V = true := by rw [HV1.out]; unfold fin1; simp only [c1, c2, b1, Bool.true_or, Bool.or_true, Bool.false_or, Bool.true_and, Bool.and_true, Bool.false_and, Bool.and_false, Bool.or_false, Bool.not_true, Bool.not_false]
            subst hv
            go_wp2
            exact FIN.out _ _ HB.out
          cases b2 : decide (1 ≤ o.pk)
          · skip
            have hv : V = false := by rw [HV1.out]; unfold fin1; simp only [c1, c2, b1, b2, Bool.true_or, Bool.or_true, Bool.false_or, Bool.true_and, Bool.and_true, Bool.false_and, Bool.and_false, Bool.or_false, Bool.not_true, Bool.not_false]
            subst hv
            go_wp2
            exact FIN.out _ _ HB.out
          cases b3 : decide (o.pk ≤ o.q)
          · skip
            have hv : V = false := by rw [HV1.out]; unfold fin1; simp only [c1, c2, b1, b2, b3, Bool.true_or, Bool.or_true, Bool.false_or, Bool.true_and, Bool.and_true, Bool.false_and, Bool.and_false, Bool.or_false, Bool.not_true, Bool.not_false]
            subst hv
            go_wp2
            exact FIN.out _ _ HB.out
          cases b4 : (o.f == 1)
          rotate_left
          · skip
            have hv : V = true := by rw [HV1.out]; unfold fin1; simp only [c1, c2, b1, b2, b3, b4, Bool.true_or, Bool.or_true, Bool.false_or, Bool.true_and, Bool.and_true, Bool.false_and, Bool.and_false, Bool.or_false, Bool.not_true, Bool.not_false]
            subst hv
            go_wp2
            exact FIN.out _ _ HB.out
          cases b5 : (o.f == 4)
          · skip
            have hv : V = false := by rw [HV1.out]; unfold fin1; simp only [c1, c2, b1, b2, b3, b4, b5, Bool.true_or, Bool.or_true, Bool.false_or, Bool.true_and, Bool.and_true, Bool.false_and, Bool.and_false, Bool.or_false, Bool.not_true, Bool.not_false]
            subst hv
            go_wp2
            exact FIN.out _ _ HB.out
          · skip
            have hv : V = true := by rw [HV1.out]; unfold fin1; simp only [c1, c2, b1, b2, b3, b4, b5, Bool.true_or, Bool.or_true, Bool.false_or, Bool.true_and, Bool.and_true, Bool.false_and, Bool.and_false, Bool.or_false, Bool.not_true, Bool.not_false]
            subst hv
            go_wp2
            exact FIN.out _ _ HB.out
        cases c3 : (o.f != 3)
        · skip
          cases b1 : (o.pk == 0)
          rotate_left
          · skip
            have hv : V = true := by rw [HV1.out]; unfold fin1; simp only [c1, c2, c3, b1, Bool.true_or, Bool.or_true, Bool.false_or, Bool.true_and, Bool.and_true, Bool.false_and, Bool.and_false, Bool.or_false, Bool.not_true, Bool.not_false]
            subst hv
            go_wp2
            exact FIN.out _ _ HB.out
          cases b2 : decide (1 ≤ o.pk)
          · skip
            have hv : V = false := by rw [HV1.out]; unfold fin1; simp only [c1, c2, c3, b1, b2, Bool.true_or, Bool.or_true, Bool.false_or, Bool.true_and, Bool.and_true, Bool.false_and, Bool.and_false, Bool.or_false, Bool.not_true, Bool.not_false]
            subst hv
            go_wp2
            exact FIN.out _ _ HB.out
          cases b3 : decide (o.pk ≤ o.q)
          · skip
            have hv : V = false := by rw [HV1.out]; unfold fin1; simp only [c1, c2, c3, b1, b2, b3, Bool.true_or, Bool.or_true, Bool.false_or, Bool.true_and, Bool.and_true, Bool.false_and, Bool.and_false, Bool.or_false, Bool.not_true, Bool.not_false]
            subst hv
            go_wp2
            exact FIN.out _ _ HB.out
          cases b4 : (o.f == 1)
          rotate_left
          · skip
            have hv : V = true := by rw [HV1.out]; unfold fin1; simp only [c1, c2, c3, b1, b2, b3, b4, Bool.true_or, Bool.or_true, Bool.false_or, Bool.true_and, Bool.and_true, Bool.false_and, Bool.and_false, Bool.or_false, Bool.not_true, Bool.not_false]
            subst hv
            go_wp2
            exact FIN.out _ _ HB.out
          cases b5 : (o.f == 4)
          · skip
            have hv : V = false := by rw [HV1.out]; unfold fin1; simp only [c1, c2, c3, b1, b2, b3, b4, b5, Bool.true_or, Bool.or_true, Bool.false_or, Bool.true_and, Bool.and_true, Bool.false_and, Bool.and_false, Bool.or_false, Bool.not_true, Bool.not_false]
            subst hv
            go_wp2
            exact FIN.out _ _ HB.out
          · skip
            have hv : V = true := by rw [HV1.out]; unfold fin1; simp only [c1, c2, c3, b1, b2, b3, b4, b5, Bool.true_or, Bool.or_true, Bool.false_or, Bool.true_and, Bool.and_true, Bool.false_and, Bool.and_false, Bool.or_false, Bool.not_true, Bool.not_false]
            subst hv
            go_wp2
            exact FIN.out _ _ HB.out
        · skip
          have hv : V = false := by rw [HV1.out]; unfold fin1; simp only [c1, c2, c3, Bool.true_or, Bool.or_true, Bool.false_or, Bool.true_and, Bool.and_true, Bool.false_and, Bool.and_false, Bool.or_false, Bool.not_true, Bool.not_false]
          subst hv
          go_wp2
          exact FIN.out _ _ HB.out
      · have e2 : (o.k == 2) = false := by simpa using k2
        have hv : V = false := by rw [HV.out, if_neg k1, if_neg k2]; simp
        subst hv
        clear HV k1 k2
        go_wp2
        exact FIN.out _ _ HB.out
end Go.Proofs.Ytdjhpldiifdifaa
