/- The small functions of orders: in, isSide, good, valid. Sides: what add, take and a changed front come to in plain words. board.other, board.tell, board.meets, board.isDue, board.done. board.meets, board.isDue, board.done. board.enough. -/
import Derived.Test.YtepldjidkomclaaGreatJBHlf2
namespace Go.Proofs.YtepldjidkomclaaGreat.Bo
set_option linter.unusedSimpArgs false
set_option linter.unusedVariables false
open Go.RowKit Go.Shelf
attribute [local go_sem] Oper.semAt_some
attribute [local go_sem ↓] Go.wp_at_zero Go.wp_at_succ
def Od.vals (o : Od) : Array Value := #[.int .i64 o.m, .int .i64 o.s, .int .i64 o.k, .int .i64 o.f, .int .i64 o.p, .int .i64 o.t, .int .i64 o.q, .int .i64 o.pk]
theorem in_calls (x lo hi : Int) (w : World) : Calls Tryz.prog 50 #[.int .i64 x, .int .i64 lo, .int .i64 hi] w fun e w' => e = .returned (.bool (inB2 x lo hi)) ∧ w' = w := by
  unfold inB2
  by_cases h1 : lo ≤ x
  · by_cases h2 : x ≤ hi
    · go_enter Tryz.func50, Tryz.ntmps50
      go_wp2
      go_ret
      exact ⟨by simp; omega, rfl⟩
    · go_enter Tryz.func50, Tryz.ntmps50
      go_wp2
      go_ret
      exact ⟨by simp; omega, rfl⟩
  · go_enter Tryz.func50, Tryz.ntmps50
    go_wp2
    go_ret
    exact ⟨by simp; omega, rfl⟩
theorem isSide_calls (s : Int) (w : World) : Calls Tryz.prog 51 #[.int .i64 s] w fun e w' => e = .returned (.bool (sideB s)) ∧ w' = w := by
  unfold sideB
  by_cases h1 : s = 1
  · subst h1
    go_enter Tryz.func51, Tryz.ntmps51
    go_wp2
    go_ret
    exact ⟨rfl, rfl⟩
  · by_cases h2 : s = 2
    · subst h2
      go_enter Tryz.func51, Tryz.ntmps51
      go_wp2
      go_ret
      exact ⟨rfl, rfl⟩
    · have e1 : (s == 1) = false := by simpa using h1
      have e2 : (s == 2) = false := by simpa using h2
      go_enter Tryz.func51, Tryz.ntmps51
      go_wp2
      go_ret
      exact ⟨by simp [h1, h2], rfl⟩
set_option maxHeartbeats 1000000 in
theorem good_calls (o : Od) (price : Int) (w : World) : Calls Tryz.prog 54 #[.agg o.vals, .int .i64 price] w fun e w' => e = .returned (.bool (o.good price)) ∧ Below w.heap.size w w' := by
  unfold Od.good Od.vals
  by_cases h1 : o.k = 2
  · have e1 : (o.k == 2) = true := by simpa using h1
    rw [if_pos h1]
    clear h1
    go_enter Tryz.func54, Tryz.ntmps54
    go_wp2
    go_ret
    exact ⟨rfl, Below.alloc (Below.refl _ _) (Nat.le_refl _) _⟩
  · have e1 : (o.k == 2) = false := by simpa using h1
    rw [if_neg h1]
    clear h1
    by_cases h2 : o.s = 1
    · have e2 : (o.s == 1) = true := by simpa using h2
      rw [if_pos h2]
      clear h2
      go_enter Tryz.func54, Tryz.ntmps54
      go_wp2
      go_ret
      exact ⟨rfl, Below.alloc (Below.refl _ _) (Nat.le_refl _) _⟩
    · have e2 : (o.s == 1) = false := by simpa using h2
      rw [if_neg h2]
      clear h2
      go_enter Tryz.func54, Tryz.ntmps54
      go_wp2
      go_ret
      exact ⟨by first | (simp; done) | (simp; rfl), Below.alloc (Below.refl _ _) (Nat.le_refl _) _⟩
set_option maxRecDepth 100000 in
set_option maxHeartbeats 4000000 in
theorem valid_calls (o : Od) (w : World) : Calls Tryz.prog 21 #[.agg o.vals] w fun e w' => e = .returned (.bool o.ok) ∧ Below w.heap.size w w' := by
  unfold Od.ok Od.vals
  cases h0 : inB2 o.m 1 1000
  · simp only [Bool.false_and, Bool.true_and, Bool.and_false]
    go_enter Tryz.func21, Tryz.ntmps21
    go_wp2_with (first | (go_at_call 50; refine (in_calls _ _ _ _).mono ?_; rintro e w1 ⟨rfl, rfl⟩) | (go_at_call 51; refine (isSide_calls _ _).mono ?_; rintro e w1 ⟨rfl, rfl⟩))
    go_ret
    exact ⟨by first | (simp; done) | (simp; rfl), Below.alloc (Below.refl _ _) (Nat.le_refl _) _⟩
  cases h1 : sideB o.s
  · simp only [Bool.false_and, Bool.true_and, Bool.and_false]
    go_enter Tryz.func21, Tryz.ntmps21
    go_wp2_with (first | (go_at_call 50; refine (in_calls _ _ _ _).mono ?_; rintro e w1 ⟨rfl, rfl⟩) | (go_at_call 51; refine (isSide_calls _ _).mono ?_; rintro e w1 ⟨rfl, rfl⟩))
    go_ret
    exact ⟨by first | (simp; done) | (simp; rfl), Below.alloc (Below.refl _ _) (Nat.le_refl _) _⟩
  cases h2 : inB2 o.f 1 4
  · simp only [Bool.false_and, Bool.true_and, Bool.and_false]
    go_enter Tryz.func21, Tryz.ntmps21
    go_wp2_with (first | (go_at_call 50; refine (in_calls _ _ _ _).mono ?_; rintro e w1 ⟨rfl, rfl⟩) | (go_at_call 51; refine (isSide_calls _ _).mono ?_; rintro e w1 ⟨rfl, rfl⟩))
    go_ret
    exact ⟨by first | (simp; done) | (simp; rfl), Below.alloc (Below.refl _ _) (Nat.le_refl _) _⟩
  cases h3 : inB2 o.q 1 1000000000
  · simp only [Bool.false_and, Bool.true_and, Bool.and_false]
    go_enter Tryz.func21, Tryz.ntmps21
    go_wp2_with (first | (go_at_call 50; refine (in_calls _ _ _ _).mono ?_; rintro e w1 ⟨rfl, rfl⟩) | (go_at_call 51; refine (isSide_calls _ _).mono ?_; rintro e w1 ⟨rfl, rfl⟩))
    go_ret
    exact ⟨by first | (simp; done) | (simp; rfl), Below.alloc (Below.refl _ _) (Nat.le_refl _) _⟩
  cases h4 : inB2 o.t 0 1000000
  · simp only [Bool.false_and, Bool.true_and, Bool.and_false]
    go_enter Tryz.func21, Tryz.ntmps21
    go_wp2_with (first | (go_at_call 50; refine (in_calls _ _ _ _).mono ?_; rintro e w1 ⟨rfl, rfl⟩) | (go_at_call 51; refine (isSide_calls _ _).mono ?_; rintro e w1 ⟨rfl, rfl⟩))
    go_ret
    exact ⟨by first | (simp; done) | (simp; rfl), Below.alloc (Below.refl _ _) (Nat.le_refl _) _⟩
  simp only [h0, h1, h2, h3, h4, Bool.true_and]
  by_cases k1 : o.k = 1
  · have e1 : (o.k == 1) = true := by simpa using k1
    rw [if_pos k1]
    clear k1
    cases h5 : inB2 o.p 1 1000000
    · simp only [Bool.false_and]
      go_enter Tryz.func21, Tryz.ntmps21
      go_wp2_with (first | (go_at_call 50; refine (in_calls _ _ _ _).mono ?_; rintro e w1 ⟨rfl, rfl⟩) | (go_at_call 51; refine (isSide_calls _ _).mono ?_; rintro e w1 ⟨rfl, rfl⟩))
      go_ret
      exact ⟨by first | (simp; done) | (simp; rfl), Below.alloc (Below.refl _ _) (Nat.le_refl _) _⟩
    simp only [Bool.true_and]
    by_cases p0 : o.pk = 0
    · have e3 : (o.pk == 0) = true := by simpa using p0
      rw [decide_eq_true p0]
      clear p0
      simp only [Bool.true_or]
      go_enter Tryz.func21, Tryz.ntmps21
      go_wp2_with (first | (go_at_call 50; refine (in_calls _ _ _ _).mono ?_; rintro e w1 ⟨rfl, rfl⟩) | (go_at_call 51; refine (isSide_calls _ _).mono ?_; rintro e w1 ⟨rfl, rfl⟩))
      go_ret
      exact ⟨by first | (simp; done) | (simp; rfl), Below.alloc (Below.refl _ _) (Nat.le_refl _) _⟩
    · have e3 : (o.pk == 0) = false := by simpa using p0
      rw [decide_eq_false p0]
      clear p0
      simp only [Bool.false_or]
      cases h6 : inB2 o.pk 1 o.q
      · simp only [Bool.false_and]
        go_enter Tryz.func21, Tryz.ntmps21
        go_wp2_with (first | (go_at_call 50; refine (in_calls _ _ _ _).mono ?_; rintro e w1 ⟨rfl, rfl⟩) | (go_at_call 51; refine (isSide_calls _ _).mono ?_; rintro e w1 ⟨rfl, rfl⟩))
        go_ret
        exact ⟨by first | (simp; done) | (simp; rfl), Below.alloc (Below.refl _ _) (Nat.le_refl _) _⟩
      simp only [Bool.true_and]
      by_cases f1 : o.f = 1
      · have e4 : (o.f == 1) = true := by simpa using f1
        rw [decide_eq_true f1]
        simp only [Bool.true_or]
        clear f1
        go_enter Tryz.func21, Tryz.ntmps21
        go_wp2_with (first | (go_at_call 50; refine (in_calls _ _ _ _).mono ?_; rintro e w1 ⟨rfl, rfl⟩) | (go_at_call 51; refine (isSide_calls _ _).mono ?_; rintro e w1 ⟨rfl, rfl⟩))
        go_ret
        exact ⟨by first | (simp; done) | (simp; rfl), Below.alloc (Below.refl _ _) (Nat.le_refl _) _⟩
      · have e4 : (o.f == 1) = false := by simpa using f1
        rw [decide_eq_false f1]
        clear f1
        simp only [Bool.false_or]
        go_enter Tryz.func21, Tryz.ntmps21
        go_wp2_with (first | (go_at_call 50; refine (in_calls _ _ _ _).mono ?_; rintro e w1 ⟨rfl, rfl⟩) | (go_at_call 51; refine (isSide_calls _ _).mono ?_; rintro e w1 ⟨rfl, rfl⟩))
        go_ret
        exact ⟨by first | (simp; done) | (simp; rfl), Below.alloc (Below.refl _ _) (Nat.le_refl _) _⟩
  · have e1 : (o.k == 1) = false := by simpa using k1
    rw [if_neg k1]
    clear k1
    by_cases k2 : o.k = 2
    · have e2 : (o.k == 2) = true := by simpa using k2
      rw [if_pos k2]
      clear k2
      by_cases z : o.p = 0
      · have e5 : (o.p != 0) = false := by simpa using z
        rw [decide_eq_true z]
        clear z
        simp only [Bool.true_and]
        by_cases f2 : o.f = 2
        · have e6f2 : (o.f != 2) = false := by simpa using f2
          rw [decide_eq_true f2]
          simp only [Bool.true_or, Bool.or_true, Bool.false_or, Bool.true_and]
          clear f2
          by_cases p0 : o.pk = 0
          · have e3 : (o.pk == 0) = true := by simpa using p0
            rw [decide_eq_true p0]
            clear p0
            simp only [Bool.true_or]
            go_enter Tryz.func21, Tryz.ntmps21
            go_wp2_with (first | (go_at_call 50; refine (in_calls _ _ _ _).mono ?_; rintro e w1 ⟨rfl, rfl⟩) | (go_at_call 51; refine (isSide_calls _ _).mono ?_; rintro e w1 ⟨rfl, rfl⟩))
            go_ret
            exact ⟨by first | (simp; done) | (simp; rfl), Below.alloc (Below.refl _ _) (Nat.le_refl _) _⟩
          · have e3 : (o.pk == 0) = false := by simpa using p0
            rw [decide_eq_false p0]
            clear p0
            simp only [Bool.false_or]
            cases h6 : inB2 o.pk 1 o.q
            · simp only [Bool.false_and]
              go_enter Tryz.func21, Tryz.ntmps21
              go_wp2_with (first | (go_at_call 50; refine (in_calls _ _ _ _).mono ?_; rintro e w1 ⟨rfl, rfl⟩) | (go_at_call 51; refine (isSide_calls _ _).mono ?_; rintro e w1 ⟨rfl, rfl⟩))
              go_ret
              exact ⟨by first | (simp; done) | (simp; rfl), Below.alloc (Below.refl _ _) (Nat.le_refl _) _⟩
            simp only [Bool.true_and]
            by_cases f1 : o.f = 1
            · have e4 : (o.f == 1) = true := by simpa using f1
              rw [decide_eq_true f1]
              simp only [Bool.true_or]
              clear f1
              go_enter Tryz.func21, Tryz.ntmps21
              go_wp2_with (first | (go_at_call 50; refine (in_calls _ _ _ _).mono ?_; rintro e w1 ⟨rfl, rfl⟩) | (go_at_call 51; refine (isSide_calls _ _).mono ?_; rintro e w1 ⟨rfl, rfl⟩))
              go_ret
              exact ⟨by first | (simp; done) | (simp; rfl), Below.alloc (Below.refl _ _) (Nat.le_refl _) _⟩
            · have e4 : (o.f == 1) = false := by simpa using f1
              rw [decide_eq_false f1]
              clear f1
              simp only [Bool.false_or]
              go_enter Tryz.func21, Tryz.ntmps21
              go_wp2_with (first | (go_at_call 50; refine (in_calls _ _ _ _).mono ?_; rintro e w1 ⟨rfl, rfl⟩) | (go_at_call 51; refine (isSide_calls _ _).mono ?_; rintro e w1 ⟨rfl, rfl⟩))
              go_ret
              exact ⟨by first | (simp; done) | (simp; rfl), Below.alloc (Below.refl _ _) (Nat.le_refl _) _⟩
        have e6f2 : (o.f != 2) = true := by simpa using f2
        rw [decide_eq_false f2]
        clear f2
        by_cases f3 : o.f = 3
        · have e6f3 : (o.f != 3) = false := by simpa using f3
          rw [decide_eq_true f3]
          simp only [Bool.true_or, Bool.or_true, Bool.false_or, Bool.true_and]
          clear f3
          by_cases p0 : o.pk = 0
          · have e3 : (o.pk == 0) = true := by simpa using p0
            rw [decide_eq_true p0]
            clear p0
            simp only [Bool.true_or]
            go_enter Tryz.func21, Tryz.ntmps21
            go_wp2_with (first | (go_at_call 50; refine (in_calls _ _ _ _).mono ?_; rintro e w1 ⟨rfl, rfl⟩) | (go_at_call 51; refine (isSide_calls _ _).mono ?_; rintro e w1 ⟨rfl, rfl⟩))
            go_ret
            exact ⟨by first | (simp; done) | (simp; rfl), Below.alloc (Below.refl _ _) (Nat.le_refl _) _⟩
          · have e3 : (o.pk == 0) = false := by simpa using p0
            rw [decide_eq_false p0]
            clear p0
            simp only [Bool.false_or]
            cases h6 : inB2 o.pk 1 o.q
            · simp only [Bool.false_and]
              go_enter Tryz.func21, Tryz.ntmps21
              go_wp2_with (first | (go_at_call 50; refine (in_calls _ _ _ _).mono ?_; rintro e w1 ⟨rfl, rfl⟩) | (go_at_call 51; refine (isSide_calls _ _).mono ?_; rintro e w1 ⟨rfl, rfl⟩))
              go_ret
              exact ⟨by first | (simp; done) | (simp; rfl), Below.alloc (Below.refl _ _) (Nat.le_refl _) _⟩
            simp only [Bool.true_and]
            by_cases f1 : o.f = 1
            · have e4 : (o.f == 1) = true := by simpa using f1
              rw [decide_eq_true f1]
              simp only [Bool.true_or]
              clear f1
              go_enter Tryz.func21, Tryz.ntmps21
              go_wp2_with (first | (go_at_call 50; refine (in_calls _ _ _ _).mono ?_; rintro e w1 ⟨rfl, rfl⟩) | (go_at_call 51; refine (isSide_calls _ _).mono ?_; rintro e w1 ⟨rfl, rfl⟩))
              go_ret
              exact ⟨by first | (simp; done) | (simp; rfl), Below.alloc (Below.refl _ _) (Nat.le_refl _) _⟩
            · have e4 : (o.f == 1) = false := by simpa using f1
              rw [decide_eq_false f1]
              clear f1
              simp only [Bool.false_or]
              go_enter Tryz.func21, Tryz.ntmps21
              go_wp2_with (first | (go_at_call 50; refine (in_calls _ _ _ _).mono ?_; rintro e w1 ⟨rfl, rfl⟩) | (go_at_call 51; refine (isSide_calls _ _).mono ?_; rintro e w1 ⟨rfl, rfl⟩))
              go_ret
              exact ⟨by first | (simp; done) | (simp; rfl), Below.alloc (Below.refl _ _) (Nat.le_refl _) _⟩
        have e6f3 : (o.f != 3) = true := by simpa using f3
        rw [decide_eq_false f3]
        clear f3
        simp only [Bool.false_or, Bool.false_and]
        go_enter Tryz.func21, Tryz.ntmps21
        go_wp2_with (first | (go_at_call 50; refine (in_calls _ _ _ _).mono ?_; rintro e w1 ⟨rfl, rfl⟩) | (go_at_call 51; refine (isSide_calls _ _).mono ?_; rintro e w1 ⟨rfl, rfl⟩))
        go_ret
        exact ⟨by first | (simp; done) | (simp; rfl), Below.alloc (Below.refl _ _) (Nat.le_refl _) _⟩
      · have e5 : (o.p != 0) = true := by simpa using z
        rw [decide_eq_false z]
        clear z
        simp only [Bool.false_and]
        go_enter Tryz.func21, Tryz.ntmps21
        go_wp2_with (first | (go_at_call 50; refine (in_calls _ _ _ _).mono ?_; rintro e w1 ⟨rfl, rfl⟩) | (go_at_call 51; refine (isSide_calls _ _).mono ?_; rintro e w1 ⟨rfl, rfl⟩))
        go_ret
        exact ⟨by first | (simp; done) | (simp; rfl), Below.alloc (Below.refl _ _) (Nat.le_refl _) _⟩
    · have e2 : (o.k == 2) = false := by simpa using k2
      rw [if_neg k2]
      clear k2
      simp only [Bool.false_and]
      go_enter Tryz.func21, Tryz.ntmps21
      go_wp2_with (first | (go_at_call 50; refine (in_calls _ _ _ _).mono ?_; rintro e w1 ⟨rfl, rfl⟩) | (go_at_call 51; refine (isSide_calls _ _).mono ?_; rintro e w1 ⟨rfl, rfl⟩))
      go_ret
      exact ⟨by first | (simp; done) | (simp; rfl), Below.alloc (Below.refl _ _) (Nat.le_refl _) _⟩
end Go.Proofs.YtepldjidkomclaaGreat.Bo
namespace Go.Proofs.YtepldjidkomclaaGreat.Bo
set_option linter.unusedSimpArgs false
set_option linter.unusedVariables false
open Go.RowKit
structure HSh (side : Int) (h : Half) : Prop where
  full : ∀ x ∈ h, x.2 ≠ []
  price : ∀ x ∈ h, ∀ e ∈ x.2, e.o.p = x.1
  sorted : h.Pairwise fun a b => better side a.1 b.1 = true
theorem HOk.sh {side nums : Int} {h : Half} (hh : HOk side nums h) : HSh side h := ⟨hh.full, hh.price, hh.sorted⟩
theorem HSh.tail {side : Int} {x : Int × List En} {h : Half} (hh : HSh side (x :: h)) : HSh side h :=
  ⟨fun y hy => hh.full y (List.mem_cons_of_mem _ hy), fun y hy => hh.price y (List.mem_cons_of_mem _ hy), (List.pairwise_cons.1 hh.sorted).2⟩
theorem HSh.set {side : Int} {h : Half} (hh : HSh side h) {y z : En} (hy : frontH h = some y) (hz : z.o.p = y.o.p) : HSh side (setH z h) := by
  match h, hh with
  | [], hh => exact hh
  | (p, []) :: r, hh => cases hy
  | (p, y' :: q) :: r, hh =>
    have hy : y' = y := by injection hy
    subst hy
    refine ⟨fun x hx => ?_, fun x hx e he => ?_, ?_⟩
    · rcases List.mem_cons.1 hx with rfl | hx
      · simp
      · exact hh.full x (List.mem_cons_of_mem _ hx)
    · rcases List.mem_cons.1 hx with rfl | hx
      · rcases List.mem_cons.1 he with rfl | he
        · rw [hz]; exact hh.price (p, y' :: q) List.mem_cons_self y' (by simp)
        · exact hh.price (p, y' :: q) List.mem_cons_self e (List.mem_cons_of_mem _ he)
      · exact hh.price x (List.mem_cons_of_mem _ hx) e he
    · have := List.pairwise_cons.1 hh.sorted
      exact List.pairwise_cons.2 ⟨this.1, this.2⟩
theorem HSh.pop {side : Int} {h : Half} (hh : HSh side h) : HSh side (popH h) := by
  match h, hh with
  | [], hh => exact hh
  | (p, []) :: r, hh => exact hh.tail
  | (p, y :: q) :: r, hh =>
    unfold popH
    cases q with
    | nil => exact hh.tail
    | cons z q =>
      simp only [List.isEmpty_cons, Bool.false_eq_true, if_false]
      refine ⟨fun x hx => ?_, fun x hx e he => ?_, ?_⟩
      · rcases List.mem_cons.1 hx with rfl | hx
        · simp
        · exact hh.full x (List.mem_cons_of_mem _ hx)
      · rcases List.mem_cons.1 hx with rfl | hx
        · exact hh.price (p, y :: z :: q) List.mem_cons_self e (List.mem_cons_of_mem _ he)
        · exact hh.price x (List.mem_cons_of_mem _ hx) e he
      · have := List.pairwise_cons.1 hh.sorted
        exact List.pairwise_cons.2 ⟨this.1, this.2⟩
theorem lv_len {side : Int} {en : Nat → En} : ∀ {ls : List Lv}, HSh side (plainH ls en) → ls.length ≤ (ensL ls).length
  | [], _ => by simp
  | x :: r, h => by
    have h1 : x.2.2 ≠ [] := by
      have := h.full (x.1, x.2.2.map fun y => en y.2) (by simp [plainH])
      intro e; apply this; simp [e]
    have ih := lv_len (ls := r) h.tail
    have : 0 < x.2.2.length := List.length_pos_iff.2 h1
    show r.length + 1 ≤ ((x.2.2.map Prod.snd) ++ ensL r).length
    rw [List.length_append, List.length_map]
    omega
theorem q_len {ls : List Lv} {x : Lv} (h : x ∈ ls) : x.2.2.length ≤ (ensL ls).length := by
  obtain ⟨pre, post, rfl⟩ := List.append_of_mem h
  have := (flat_mid (fun x : Lv => x.2.2.map Prod.snd) pre post x).length_eq
  rw [List.length_append, List.length_map] at this
  unfold ensL
  omega
theorem split_price (side p : Int) : ∀ ls : List Lv, (ls.Pairwise fun a b => better side a.1 b.1 = true) → ∃ pre post, ls = pre ++ post ∧ (∀ x ∈ pre, better side x.1 p = true) ∧ ∀ x ∈ post, better side x.1 p = false
  | [], _ => ⟨[], [], rfl, by simp, by simp⟩
  | x :: r, h => by
    obtain ⟨h1, h2⟩ := List.pairwise_cons.1 h
    cases hb : better side x.1 p with
    | true =>
      obtain ⟨pre, post, rfl, g1, g2⟩ := split_price side p r h2
      refine ⟨x :: pre, post, rfl, fun y hy => ?_, g2⟩
      rcases List.mem_cons.1 hy with rfl | hy
      · exact hb
      · exact g1 y hy
    | false =>
      refine ⟨[], x :: r, rfl, by simp, fun y hy => ?_⟩
      rcases List.mem_cons.1 hy with rfl | hy
      · exact hb
      · cases hc : better side y.1 p with
        | false => rfl
        | true =>
          have := better_trans (h1 y hy) hc
          rw [hb] at this
          cases this
theorem sorted_ls {side : Int} {en : Nat → En} {ls : List Lv} (h : HSh side (plainH ls en)) : ls.Pairwise fun a b => better side a.1 b.1 = true := by
  have := h.sorted
  unfold plainH at this
  rw [List.pairwise_map] at this
  exact this
theorem better_irr {side a : Int} : better side a a = false := by unfold better; split <;> simp
theorem better_ne {side a b : Int} (h : better side a b = true) : a ≠ b := fun e => by subst e; rw [better_irr] at h; cases h
theorem better_asymm {side a b : Int} (h : better side a b = true) : better side b a = false := by
  cases hc : better side b a with
  | false => rfl
  | true => have := better_trans h hc; rw [better_irr] at this; cases this
theorem addH_put (side : Int) (en : Nat → En) (X L E : Nat) {p : Int} (hp : (en X).o.p = p) {post : List Lv} (h2 : ∀ x ∈ post, better side x.1 p = false) : ∀ {pre : List Lv}, (∀ x ∈ pre, better side x.1 p = true) → addH side (en X) (plainH (pre ++ post) en) = plainH (putL pre post p L E X) en
  | x :: pre, h1 => by
    have hx := h1 x (by simp)
    have ih := addH_put side en X L E hp h2 (pre := pre) (fun y hy => h1 y (List.mem_cons_of_mem _ hy))
    have e : putL (x :: pre) post p L E X = x :: putL pre post p L E X := by
      unfold putL
      cases post with
      | nil => rfl
      | cons y r => simp only; split <;> rfl
    rw [e]
    show addH side (en X) ((x.1, x.2.2.map fun y => en y.2) :: plainH (pre ++ post) en) = (x.1, x.2.2.map fun y => en y.2) :: plainH (putL pre post p L E X) en
    rw [addH, hp, if_neg (better_ne hx), better_asymm hx, if_neg (by simp), ih]
  | [], _ => by
    cases post with
    | nil => simp [putL, plainH, addH, hp]
    | cons x r =>
      have hx := h2 x (by simp)
      show addH side (en X) ((x.1, x.2.2.map fun y => en y.2) :: plainH r en) = _
      rw [addH, hp]
      unfold putL
      simp only [List.nil_append]
      by_cases he : x.1 = p
      · rw [if_pos he, if_pos he]
        simp [plainH, he]
      · rw [if_neg he, if_neg he, better_not he hx, if_pos rfl]
        simp [plainH]
theorem ensL_put (pre post : List Lv) (p : Int) (L E X : Nat) : (ensL (putL pre post p L E X)).Perm (X :: ensL (pre ++ post)) := by
  unfold putL
  cases post with
  | nil => simp [ensL]
  | cons x r =>
    simp only
    split
    · refine (flat_mid (fun x : Lv => x.2.2.map Prod.snd) pre r _).trans ?_
      refine List.Perm.trans ?_ ((flat_mid (fun x : Lv => x.2.2.map Prod.snd) pre r x).symm.cons X)
      simp only [List.map_append, List.map_cons, List.map_nil, List.append_assoc, List.singleton_append]
      exact List.perm_middle
    · refine (flat_mid (fun x : Lv => x.2.2.map Prod.snd) pre (x :: r) _).trans ?_
      exact List.Perm.refl _
def AddedH (O : Nat → Nat) (c : Nat) (w : World) (H : Nat) (side : Int) (ls : List Lv) (X : Nat) (en : Nat → En) (e : Ending) (w' : World) : Prop :=
  e = .returned (.tuple #[]) ∧ (∃ ls', HlfC (grow O w c) c w' H side ls' en ∧ plainH ls' en = addH side (en X) (plainH ls en) ∧ (ensL ls').Perm (X :: ensL ls)) ∧ Kept (fun k => O k = c) w w'
theorem half_add {O : Nat → Nat} {c : Nat} {w : World} {H : Nat} {side : Int} {ls : List Lv} {X : Nat} {en : Nat → En} {pl : Option Nat} (h : HlfC O c w H side ls en) (ho : HSh side (plainH ls en)) (hlen : (ensL ls).length ≤ 5000)
    (hX : X ∉ ensL ls) (hOX : O X = c) (eX : EnC w X (en X) false pl) : Calls Tryz.prog 93 #[pt H, pt X] w (AddedH O c w H side ls X en) := by
  have h1 := lv_len ho
  obtain ⟨pre, post, rfl, g1, g2⟩ := split_price side (en X).o.p ls (sorted_ls ho)
  have key : Calls Tryz.prog 93 #[pt H, pt X] w (Added O c w H side pre post (en X).o.p X en) := by
    cases post with
    | nil => exact add_new h rfl hX hOX eX g1 g2 (fun x r e => by cases e) (by omega)
    | cons x r =>
      obtain ⟨p, L, q⟩ := x
      by_cases he : p = (en X).o.p
      · subst he
        have := q_len (ls := pre ++ ((en X).o.p, L, q) :: r) (x := ((en X).o.p, L, q)) (by simp)
        simp only at this
        exact add_old h rfl hX hOX eX g1 g2 (by omega) (by omega)
      · exact add_new h rfl hX hOX eX g1 g2 (fun x r e => by have := (List.cons.inj e).1; rw [← this]; exact he) (by omega)
  refine key.mono ?_
  rintro e w' ⟨r1, ⟨L, E, r2⟩, r3⟩
  exact ⟨r1, ⟨_, r2, (addH_put side en X L E rfl g2 g1).symm, ensL_put _ _ _ _ _ _⟩, r3⟩
def Popped (O : Nat → Nat) (c : Nat) (w : World) (H : Nat) (side : Int) (ls : List Lv) (X : Nat) (en : Nat → En) (e : Ending) (w' : World) : Prop :=
  e = .returned (.tuple #[]) ∧ (∃ ls', HlfC (grow O w c) c w' H side ls' en ∧ plainH ls' en = popH (plainH ls en) ∧ ensL ls = X :: ensL ls') ∧ EnC w' X (en X) false none ∧ Kept (fun k => O k = c) w w'
theorem half_pop {O : Nat → Nat} {c : Nat} {w : World} {H : Nat} {side : Int} {ls : List Lv} {X : Nat} {en : Nat → En} (h : HlfC O c w H side ls en) (ho : HSh side (plainH ls en)) (hlen : (ensL ls).length ≤ 5000)
    (hX : frontL ls = some X) : Calls Tryz.prog 56 #[pt H, pt X] w (Popped O c w H side ls X en) := by
  have h1 := lv_len ho
  cases ls with
  | nil => cases hX
  | cons x r =>
    obtain ⟨p, L, q⟩ := x
    cases q with
    | nil => cases hX
    | cons y q =>
      obtain ⟨E, Y⟩ := y
      have hX : Y = X := by injection hX
      subst hX
      have hq := q_len (ls := (p, L, (E, Y) :: q) :: r) (x := (p, L, (E, Y) :: q)) (by simp)
      simp only at hq
      have hp : (en Y).o.p = p := ho.price (p, en Y :: q.map fun y => en y.2) (by simp [plainH]) (en Y) (by simp)
      have hs := sorted_ls ho
      obtain ⟨s1, s2⟩ := List.pairwise_cons.1 hs
      have := take_calls (pre := []) (post := r) (q1 := []) (q2 := q) (E := E) (X := Y) (p := p) (L := L) h hp (by simp) (fun x hx => by
        rcases List.mem_cons.1 hx with rfl | hx
        · exact better_irr
        · exact better_asymm (s1 x hx)) (by show (_ :: r).length ≤ _; simp only [List.length_cons] at h1 ⊢; omega) (by show ((E, Y) :: q).length ≤ _; omega)
      refine this.mono ?_
      rintro e w' ⟨r1, r2, r3, r4⟩
      refine ⟨r1, ⟨_, r2, ?_, ?_⟩, r3, r4⟩
      · unfold cutL
        cases q with
        | nil => simp [plainH, popH]
        | cons z q => simp [plainH, popH]
      · unfold cutL
        cases q with
        | nil => simp [ensL]
        | cons z q => simp [ensL]
def setEn (en : Nat → En) (X : Nat) (e : En) : Nat → En := fun k => if k = X then e else en k
theorem setEn_self (en : Nat → En) (X : Nat) (e : En) : setEn en X e X = e := if_pos rfl
theorem setEn_far (en : Nat → En) {X k : Nat} (e : En) (h : k ≠ X) : setEn en X e k = en k := if_neg h
theorem HlfC.front {O : Nat → Nat} {c : Nat} {w : World} {H : Nat} {side : Int} {ls : List Lv} {en : Nat → En} (h : HlfC O c w H side ls en) {X : Nat} (hX : frontL ls = some X) : O X = c ∧ ∃ E, EnC w X (en X) false (some E) := by
  cases ls with
  | nil => cases hX
  | cons x r =>
    obtain ⟨p, L, q⟩ := x
    cases q with
    | nil => cases hX
    | cons y q =>
      have hX : y.2 = X := by injection hX
      subst hX
      obtain ⟨_, _, h3⟩ := h.lv _ (List.mem_cons_self)
      obtain ⟨_, b2, b3⟩ := h3 y (by simp)
      exact ⟨b2, _, b3⟩
theorem HlfC.setFront {O : Nat → Nat} {c : Nat} {w w' : World} {H : Nat} {side : Int} {ls : List Lv} {en : Nat → En} (h : HlfC O c w H side ls en) {X : Nat} (hX : frontL ls = some X) {e : En} (hk : Kept (fun k => k = X) w w') (he : ∀ E, EnC w X (en X) false (some E) → EnC w' X e false (some E)) :
    HlfC O c w' H side ls (setEn en X e) ∧ plainH ls (setEn en X e) = setH e (plainH ls en) := by
  cases ls with
  | nil => cases hX
  | cons x r =>
    obtain ⟨p, L, q⟩ := x
    cases q with
    | nil => cases hX
    | cons y q =>
      obtain ⟨E, Y⟩ := y
      have hX : Y = X := by injection hX
      subst hX
      have nN := h.nodN
      have hn : Y ∉ q.map Prod.snd ++ ensL r := by
        have : (Y :: (q.map Prod.snd ++ ensL r)).Nodup := nN
        exact (List.nodup_cons.1 this).1
      obtain ⟨a1, a2, a3⟩ := h.lv _ (List.mem_cons_self)
      simp only at a1 a2 a3
      obtain ⟨b1, b2, b3⟩ := a3 (E, Y) (by simp)
      simp only at b1 b2 b3
      obtain ⟨v, c1, c2, c3⟩ := h.cell
      refine ⟨⟨⟨v, c1.kept hk (c1.ne b3 (by decide)), OwnE.kept c2 hk (fun b hb => by obtain ⟨cs, hcs⟩ := own_lt c2 hb; exact hcs.ne b3 (by decide)), c3⟩, h.col, fun x hx => ?_, h.nodL, h.nodE, h.nodN⟩, ?_⟩
      · have hx' := h.lv x hx
        have hL : ¬ x.2.1 = Y := hx'.1.c.ne b3 (by decide)
        have hE : ∀ y ∈ x.2.2, ¬ y.1 = Y := fun y hy => by obtain ⟨cs, hc⟩ := hx'.el hy; exact hc.ne b3 (by decide)
        refine ⟨hx'.1.keptC hk hL hE, hx'.2.1, fun y hy => ?_⟩
        obtain ⟨d1, d2, d3⟩ := hx'.2.2 y hy
        refine ⟨d1, d2, ?_⟩
        by_cases hyY : y.2 = Y
        · rw [hyY, setEn_self]
          refine he _ ?_
          have := d3
          rw [hyY] at this
          exact this
        · rw [setEn_far _ _ hyY]
          exact d3.kept hk hyY
      · show (p, (setEn en Y e) Y :: q.map fun y => (setEn en Y e) y.2) :: plainH r (setEn en Y e) = setH e ((p, en Y :: q.map fun y => en y.2) :: plainH r en)
        rw [setEn_self, setH, plainH_congr (en := en) (fun E hE => setEn_far _ _ (fun e => hn (by rw [← e]; exact List.mem_append_right _ hE)))]
        congr 3
        exact List.map_congr_left (fun y hy => setEn_far _ _ (fun e => hn (by rw [← e]; exact List.mem_append_left _ (List.mem_map.2 ⟨y, hy, rfl⟩))))
theorem front_plain {ls : List Lv} {en : Nat → En} {side : Int} (ho : HSh side (plainH ls en)) : frontH (plainH ls en) = (frontL ls).map en := by
  cases ls with
  | nil => rfl
  | cons x r =>
    obtain ⟨p, L, q⟩ := x
    cases q with
    | nil => exact absurd rfl (ho.full (p, []) (by simp [plainH]))
    | cons y q => rfl
theorem full_ls {ls : List Lv} {en : Nat → En} {side : Int} (ho : HSh side (plainH ls en)) : ∀ x ∈ ls, x.2.2 ≠ [] := by
  intro x hx e
  exact ho.full (x.1, x.2.2.map fun y => en y.2) (List.mem_map.2 ⟨x, hx, rfl⟩) (by simp [e])
theorem front_mem {ls : List Lv} {X : Nat} (h : frontL ls = some X) : X ∈ ensL ls := by
  cases ls with
  | nil => cases h
  | cons x r =>
    obtain ⟨p, L, q⟩ := x
    cases q with
    | nil => cases h
    | cons y q =>
      have h : y.2 = X := by injection h
      rw [← h]
      exact mem_ens (x := (p, L, y :: q)) (by simp) (by simp)
end Go.Proofs.YtepldjidkomclaaGreat.Bo
namespace Go.Proofs.YtepldjidkomclaaGreat.Bo
set_option linter.unusedSimpArgs false
set_option linter.unusedVariables false
open Go.RowKit Go.Shelf
attribute [local go_sem] Oper.semAt_some
attribute [local go_sem ↓] Go.wp_at_zero Go.wp_at_succ
def Mm.H (G : Mm) (s : Int) : Nat := if s = 1 then G.hb else G.hs
def Mm.L (G : Mm) (s : Int) : List Lv := if s = 1 then G.lb else G.ls
def colS (q : Nat) (s : Int) : Nat := if s = 1 then q + 1 else q + 2
theorem BdC.side {O : Nat → Nat} {q : Nat} {w : World} {b : Nat} {G : Mm} {nums last : Int} {evs : List Ev} (h : BdC O q w b G nums last evs) {s : Int} (hs : s = 1 ∨ s = 2) : HlfC O (colS q s) w (G.H s) s (G.L s) G.en := by
  rcases hs with rfl | rfl
  · exact h.buy
  · exact h.sell
theorem BdC.sok {O : Nat → Nat} {q : Nat} {w : World} {b : Nat} {G : Mm} {nums last : Int} {evs : List Ev} (h : BdC O q w b G nums last evs) {s : Int} (hs : s = 1 ∨ s = 2) : HOk s nums (plainH (G.L s) G.en) := by
  rcases hs with rfl | rfl
  · exact h.ok.buy
  · exact h.ok.sell
theorem TopC.half {O : Nat → Nat} {c : Nat} {w : World} {b hb hs mb : Nat} {wt : List Nat} {nums last : Int} {evs : List Ev} (h : TopC O c w b hb hs mb wt nums last evs) : w.cell? ⟨b, 1, none⟩ = some (pt hb) ∧ w.cell? ⟨b, 2, none⟩ = some (pt hs) ∧ w.cell? ⟨b, 3, none⟩ = some (.map (some mb)) ∧ w.cell? ⟨b, 5, none⟩ = some (.int .i64 nums) ∧ w.cell? ⟨b, 6, none⟩ = some (.int .i64 last) := by
  obtain ⟨vw, ve, h1, _⟩ := h.cell
  refine ⟨?_, ?_, ?_, ?_, ?_⟩ <;> (rw [h1.cell]; rfl)
set_option maxRecDepth 100000 in
theorem other_calls {O : Nat → Nat} {c : Nat} {w : World} {b hb hs mb : Nat} {wt : List Nat} {nums last : Int} {evs : List Ev} (h : TopC O c w b hb hs mb wt nums last evs) {s : Int} (h1 : s = 1 ∨ s = 2) :
    Calls Tryz.prog 52 #[pt b, .int .i64 s] w fun e w' => e = .returned (pt (if s = 1 then hs else hb)) ∧ w' = w := by
  obtain ⟨c1, c2, _⟩ := h.half
  have hl := h.lt
  clear h
  rcases h1 with rfl | rfl
  · go_enter Tryz.func52, Tryz.ntmps52
    go_wp2
    go_ret
    exact ⟨rfl, rfl⟩
  · go_enter Tryz.func52, Tryz.ntmps52
    go_wp2
    go_ret
    exact ⟨rfl, rfl⟩
theorem infoEv : (Tryz.prog.info? 36).map (fun i => (i.zero, i.size, i.bytes)) = some (some (.agg #[.int .i64 0, .int .i64 0, .int .i64 0, .int .i64 0, .int .i64 0]), 5, 40) := by kernel_rfl
theorem info_ev : ∃ i, Tryz.prog.info? 36 = some i ∧ i.zero = some (.agg #[.int .i64 0, .int .i64 0, .int .i64 0, .int .i64 0, .int .i64 0]) ∧ i.size = 5 ∧ i.bytes = 40 := by
  have h := infoEv
  cases hi : Tryz.prog.info? 36 with
  | none => rw [hi] at h; cases h
  | some i =>
    rw [hi] at h
    simp only [Option.map_some, Option.some.injEq, Prod.mk.injEq] at h
    exact ⟨i, rfl, h.1, h.2.1, h.2.2⟩
theorem undEvs : Tryz.prog.underlying 27 = some (.slice 36) := by kernel_rfl
theorem encEv_one (e : Ev) : ∀ u ∈ encEv e, u.oneCell' = true := by
  intro u hu
  simp only [encEv, List.mem_cons, List.not_mem_nil, or_false] at hu
  rcases hu with rfl | rfl | rfl | rfl | rfl <;> rfl
theorem ev_append {w : World} {v : Value} {l : List Ev} (h : OwnE encEv 5 36 0 w v l) (hlen : l.length ≤ 3000000000000) (ev : Ev) {B : Nat} (hB : Cells w B (encEv ev).toArray 36) (ty : TypeId) :
    ∃ v' w', (Builtin.append_ #[27, 27] ty #[v, .slice (some ⟨B, 0, none⟩) 1 1]).run Tryz.prog w = .ok v' w' ∧ OwnE encEv 5 36 0 w' v' (l ++ [ev]) ∧ Kept (fun k => some k = v.ownBlock) w w' ∧ (v'.ownBlock = v.ownBlock ∨ v'.ownBlock = some w.heap.size) := by
  obtain ⟨i, h1, h2, h3, h4⟩ := info_ev
  obtain ⟨v', w', r1, r2, r3, _, r5⟩ := run_append_own_at w 0 27 ty 36 i _ 5 40 undEvs h1 h2 h3 h4 rfl (by omega) v l.length (flatE encEv l) h ⟨B, 0, none⟩ 1 1 (encEv ev) rfl
    (fun j u hu => news_of hB j u (by simpa using hu)) (encEv_one ev) (by unfold maxLen; omega) (by omega) (by omega)
  refine ⟨v', w', r1, ?_, Kept.of_grown r3, r5⟩
  unfold OwnE
  rw [flatE_snoc, List.length_append]
  exact r2
def Told (O : Nat → Nat) (c : Nat) (w : World) (b hb hs mb : Nat) (wt : List Nat) (nums last : Int) (evs : List Ev) (e : Ending) (w' : World) : Prop :=
  e = .returned (.tuple #[]) ∧ TopC (grow O w c) c w' b hb hs mb wt nums last evs ∧ Kept (fun k => O k = c) w w'
set_option maxRecDepth 100000 in
set_option maxHeartbeats 2000000 in
theorem tell_calls {O : Nat → Nat} {c : Nat} {w : World} {b hb hs mb : Nat} {wt : List Nat} {nums last : Int} {evs : List Ev} (h : TopC O c w b hb hs mb wt nums last evs) (hlen : evs.length ≤ 3000000000000) {X : Nat} {x : En} {wts : Bool} {pl : Option Nat} (hX : EnC w X x wts pl) (what other price qty : Int) :
    Calls Tryz.prog 24 #[pt b, .int .i64 what, pt X, .int .i64 other, .int .i64 price, .int .i64 qty] w (Told O c w b hb hs mb wt nums last (evs ++ [⟨what, x.n, other, price, qty⟩])) := by
  obtain ⟨vw, ve, h1, h2, h3, h4, h5⟩ := h.cell
  have hl := h.lt
  have hXl := hX.lt
  have c1 : w.cell? ⟨X, 0, none⟩ = some (.int .i64 x.n) := by rw [Cells.cell hX]; rfl
  have c2 : w.cell? ⟨b, 7, none⟩ = some ve := by rw [h1.cell]; rfl
  obtain ⟨v', w1, r1, r2, r3, r4⟩ := ev_append (h3.drew.alloc (.cells (encEv ⟨what, x.n, other, price, qty⟩).toArray 36)) hlen ⟨what, x.n, other, price, qty⟩ (Cells.new _ _ _) 27
  have hbe : ∀ g, ve.ownBlock = some g → g ≠ b := fun g hg => by
    obtain ⟨cs, hcs⟩ := own_lt h3 hg
    exact hcs.ne h1 (by decide)
  have hB1 := ((h1.drew).alloc (.cells (encEv ⟨what, x.n, other, price, qty⟩).toArray 36)).kept r3 (fun e => hbe b e.symm rfl)
  have hl1 := hB1.lt
  obtain ⟨u1, d1⟩ : ∃ u, w1.cell? ⟨b, 7, none⟩ = some u := ⟨_, by rw [hB1.cell]; rfl⟩
  have d2 : w1.frozen? ⟨b, 7, none⟩ = false := hB1.frozen 7
  have R1 := hid r1
  have fin : Told O c w b hb hs mb wt nums last (evs ++ [⟨what, x.n, other, price, qty⟩]) (.returned (.tuple #[])) (w1.setCell ⟨b, 7, none⟩ v') := by
    have k0 : Kept (fun k => O k = c) w (w.drew.alloc (.cells (encEv ⟨what, x.n, other, price, qty⟩).toArray 36)) := ((Kept.refl _ w).drew).alloc _
    have k1 : Kept (fun k => O k = c) w w1 := k0.trans r3 (fun k _ hk => h5 k hk.symm)
    have hvw : ∀ g, vw.ownBlock = some g → ∃ cs, Cells w g cs 72 := fun g hg => own_lt h2 hg
    have n1 : ∀ g, vw.ownBlock = some g → ve.ownBlock ≠ some g := fun g hg he => by
      obtain ⟨cs, hcs⟩ := hvw g hg
      obtain ⟨cs', hcs'⟩ := own_lt h3 he
      exact hcs.ne hcs' (by decide) rfl
    have h2' := OwnE.kept ((h2.drew).alloc (.cells (encEv ⟨what, x.n, other, price, qty⟩).toArray 36)) r3 (fun g hg he => n1 g hg he.symm)
    refine ⟨rfl, ⟨⟨vw, v', hB1.set 7 v', h2'.set hB1 (by decide) 7 v', r2.set hB1 (by decide) 7 v', fun g hg => grow_same (h4 g hg), fun g hg => ?_⟩, grow_same h.col⟩, k1.set (C := b) h.col 7 v'⟩
    rcases r4 with r4 | r4
    · rw [r4] at hg; exact grow_same (h5 g hg)
    · rw [r4] at hg
      injection hg with hg
      rw [← hg]
      exact grow_new (by simp [World.alloc])
  have FIN := hid fin
  obtain ⟨pn, capn, hv', _⟩ := r2.form
  generalize (evs ++ [(⟨what, x.n, other, price, qty⟩ : Ev)]).length = nn at hv'
  subst hv'
  clear fin r1 r2 r3 r4 hbe hB1 h h1 h2 h3 h4 h5 hX
  generalize Told O c w b hb hs mb wt nums last (evs ++ [⟨what, x.n, other, price, qty⟩]) = R at *
  go_enter Tryz.func24, Tryz.ntmps24
  go_wp2
  go_region_law (refine step_append_run rfl (.tmp 16) (.tmp 26) 27 rfl _ _ (.slice pn nn capn) w1 (by simp [Act.eval, Act.put]) (by simp [Act.eval, Act.put]) R1.out ?_)
  all_goals go_wp2
  all_goals go_end0
  all_goals exact FIN.out
end Go.Proofs.YtepldjidkomclaaGreat.Bo
namespace Go.Proofs.YtepldjidkomclaaGreat.Bo
set_option linter.unusedSimpArgs false
set_option linter.unusedVariables false
open Go.RowKit Go.Shelf
attribute [local go_sem] Oper.semAt_some
attribute [local go_sem ↓] Go.wp_at_zero Go.wp_at_succ
theorem colS_cases (q : Nat) {s : Int} (hs : s = 1 ∨ s = 2) : q < colS q s ∧ colS q s ≤ q + 6 := by rcases hs with rfl | rfl <;> simp [colS]
theorem Mm.other (G : Mm) {s : Int} (hs : s = 1 ∨ s = 2) : G.H (3 - s) = if s = 1 then G.hs else G.hb := by rcases hs with rfl | rfl <;> rfl
theorem Mm.plain (G : Mm) {s : Int} (hs : s = 1 ∨ s = 2) (nums last : Int) : (G.bd nums last).half s = plainH (G.L s) G.en := by rcases hs with rfl | rfl <;> rfl
theorem few_side {G : Mm} {s : Int} (hs : s = 1 ∨ s = 2) : (ensL (G.L s)).length ≤ G.live.length := by
  rcases hs with rfl | rfl <;> simp [Mm.live, Mm.L] <;> omega
theorem bcell {W w1 : World} (hb : Below W.heap.size W w1) : (∀ b o, b < W.heap.size → w1.cell? ⟨b, o, none⟩ = W.cell? ⟨b, o, none⟩) ∧ (∀ b o, b < W.heap.size → w1.frozen? ⟨b, o, none⟩ = W.frozen? ⟨b, o, none⟩) :=
  ⟨fun b o h => hb.cell (p := ⟨b, o, none⟩) h, fun b o h => hb.frozen (p := ⟨b, o, none⟩) h⟩
theorem Below.of_drewN (w : World) (m : Nat) : Below w.heap.size w (w.drewN m) := ⟨rfl, rfl, rfl, Nat.le_refl _, fun _ _ => rfl⟩
set_option maxRecDepth 100000 in
set_option maxHeartbeats 2000000 in
theorem meets_calls {O : Nat → Nat} {c c' : Nat} {w : World} {b mb : Nat} {G : Mm} {wt : List Nat} {nums last : Int} {evs : List Ev} (ht : TopC O c' w b G.hb G.hs mb wt nums last evs) (o : Od) (hs : o.s = 1 ∨ o.s = 2) (hh : HlfC O c w (G.H (3 - o.s)) (3 - o.s) (G.L (3 - o.s)) G.en) (hok : HSh (3 - o.s) (plainH (G.L (3 - o.s)) G.en)) (hl2 : (ensL (G.L (3 - o.s))).length ≤ 5000) :
    Calls Tryz.prog 22 #[pt b, .agg o.vals] w fun e w' => e = .returned (.bool (meetsH o (plainH (G.L (3 - o.s)) G.en))) ∧ Below w.heap.size w w' := by
  have ho := other_side hs
  have st0 : Step (fun _ => False) O w O (w.alloc (.cells o.vals 34)) := Step.of_below ((Below.refl _ w).alloc (Nat.le_refl _) (.cells o.vals 34)) (fun _ => False)
  have hot := other_calls (ht.step st0 not_false) hs
  rw [← G.other hs] at hot
  have hsd := hh.step st0 not_false (fun _ _ => rfl)
  have hl1 := lv_len hok
  have hfr := front_calls hsd (full_ls hok) (by omega)
  have hp := front_plain hok
  unfold meetsH
  rw [hp]
  have hg := fun X w => good_calls o (G.en X).o.p w
  unfold Od.vals at hot hfr hsd hg ⊢
  have HO := hid hot
  have HG := hid hg
  generalize hX : frontL (G.L (3 - o.s)) = F at *
  cases F with
  | none =>
    rw [op_none] at hfr
    have HF := hid hfr
    clear ht hh hot hsd hok hl1 hl2 hfr hp hX hg st0
    simp only [Option.map_none]
    go_enter Tryz.func22, Tryz.ntmps22
    go_wp2_with (first | (go_at_call 52; refine HO.out.mono ?_; rintro e w1 ⟨rfl, rfl⟩) | (go_at_call 53; refine HF.out.mono ?_; rintro e w1 ⟨rfl, m, rfl⟩))
    go_quiet (fail)
    go_wp2
    go_ret
    exact ⟨rfl, drewN_below (drewN_below (Below.alloc (Below.refl _ _) (Nat.le_refl _) _) _) _⟩
  | some X =>
    simp only [Option.map_some]
    obtain ⟨hOX, E, hE⟩ := hsd.front hX
    rw [op_some] at hfr
    have HF := hid hfr
    have x5 := hE.lt
    have x6 : (w.alloc (.cells #[.int .i64 o.m, .int .i64 o.s, .int .i64 o.k, .int .i64 o.f, .int .i64 o.p, .int .i64 o.t, .int .i64 o.q, .int .i64 o.pk] 34)).cell? ⟨X, 5, none⟩ = some (.int .i64 (G.en X).o.p) := by rw [Cells.cell hE]; rfl
    clear hE
    clear ht hh hot hsd hok hl1 hl2 hfr hp hX hg st0
    go_enter Tryz.func22, Tryz.ntmps22
    go_wp2_with (first | (go_at_call 52; refine HO.out.mono ?_; rintro e w1 ⟨rfl, rfl⟩) | (go_at_call 53; refine HF.out.mono ?_; rintro e w1 ⟨rfl, m, rfl⟩))
    refine region_tail 9 (by kernel_rfl) (by kernel_rfl) ?_
    simp only [List.take_succ_cons, List.take_zero, List.drop_succ_cons, List.drop_zero]
    repeat still_step
    refine wpStill_nil ?_
    go_wp2_with fail
    refine (HG.out X _).mono ?_
    rintro e w1 ⟨rfl, hb1⟩
    go_wp2
    go_ret
    exact ⟨rfl, (drewN_below (Below.alloc (Below.refl _ _) (Nat.le_refl _) _) _).trans (hb1.mono (by simp))⟩
set_option maxHeartbeats 2000000 in
theorem isDue_calls {w : World} {b X : Nat} {x : En} {wts : Bool} {pl : Option Nat} {last : Int} (hl : w.cell? ⟨b, 6, none⟩ = some (.int .i64 last)) (hb : b < w.heap.size) (hX : EnC w X x wts pl) :
    Calls Tryz.prog 60 #[pt b, pt X] w fun e w' => e = .returned (.bool (dueB last x)) ∧ ∃ m, w' = w.drewN m := by
  have x2 : w.cell? ⟨X, 2, none⟩ = some (.int .i64 x.o.s) := by rw [Cells.cell hX]; rfl
  have x6 : w.cell? ⟨X, 6, none⟩ = some (.int .i64 x.o.t) := by rw [Cells.cell hX]; rfl
  have hXl := hX.lt
  clear hX
  unfold dueB
  by_cases h1 : last = 0
  · have e1 : (last == 0) = true := by simpa using h1
    rw [if_pos h1]
    clear h1
    go_enter Tryz.func60, Tryz.ntmps60
    go_wp2
    go_ret
    exact ⟨rfl, 0, rfl⟩
  · have e1 : (last == 0) = false := by simpa using h1
    rw [if_neg h1]
    clear h1
    by_cases h2 : x.o.s = 1
    · have e2 : (x.o.s == 1) = true := by simpa using h2
      rw [if_pos h2]
      clear h2
      go_enter Tryz.func60, Tryz.ntmps60
      go_wp2
      go_quiet (fail)
      go_wp2
      go_ret
      exact ⟨rfl, _, rfl⟩
    · have e2 : (x.o.s == 1) = false := by simpa using h2
      rw [if_neg h2]
      clear h2
      go_enter Tryz.func60, Tryz.ntmps60
      go_wp2
      go_quiet (fail)
      go_wp2
      go_ret
      exact ⟨rfl, _, rfl⟩
def DoneR (O : Nat → Nat) (c : Nat) (w : World) (b hb hs mb : Nat) (wt : List Nat) (nums last : Int) (evs : List Ev) (e : Ending) (w' : World) : Prop :=
  ∃ v, e = .returned v ∧ OwnE encEv 5 36 0 w' v evs ∧ (∀ g, v.ownBlock = some g → O g = c) ∧ TopC O c w' b hb hs mb wt nums last [] ∧ Kept (fun k => O k = c) w w'
set_option maxHeartbeats 2000000 in
theorem done_calls {O : Nat → Nat} {c : Nat} {w : World} {b hb hs mb : Nat} {wt : List Nat} {nums last : Int} {evs : List Ev} (h : TopC O c w b hb hs mb wt nums last evs) :
    Calls Tryz.prog 26 #[pt b] w (DoneR O c w b hb hs mb wt nums last evs) := by
  obtain ⟨vw, ve, h1, h2, h3, h4, h5⟩ := h.cell
  have hl := h.lt
  have c2 : w.cell? ⟨b, 7, none⟩ = some ve := by rw [h1.cell]; rfl
  have c3 : w.frozen? ⟨b, 7, none⟩ = false := h1.frozen 7
  have fin : DoneR O c w b hb hs mb wt nums last evs (.returned ve) (w.setCell ⟨b, 7, none⟩ (.slice none 0 0)) :=
    ⟨ve, rfl, h3.set h1 (by decide) 7 _, h5, ⟨⟨vw, _, h1.set 7 (.slice none 0 0), h2.set h1 (by decide) 7 _, OwnE.nil _ _, h4, fun x hx => by cases hx⟩, h.col⟩, (Kept.refl (fun k => O k = c) w).set (C := b) h.col 7 _⟩
  have FIN := hid fin
  obtain ⟨pn, capn, hv, _⟩ := h3.form
  generalize evs.length = nn at hv
  subst hv
  clear fin h h1 h2 h3 h4 h5
  generalize DoneR O c w b hb hs mb wt nums last evs = R at *
  go_enter Tryz.func26, Tryz.ntmps26
  go_wp2
  exact FIN.out
def need1 (o : Od) (y : En) (need : Int) : Int := if y.o.m ≠ o.m then need - min need y.l else need
set_option maxRecDepth 100000 in
set_option maxHeartbeats 4000000 in
theorem enough1_calls {w : World} {X Y B1 B2 : Nat} {x y : En} {wx wy : Bool} {px py : Option Nat} {need : Int} (hX : EnC w X x wx px) (hY : EnC w Y y wy py) (h1 : Cells w B1 #[pt X] 72) (h2 : Cells w B2 #[.int .i64 need] 2)
    (hn : 0 ≤ need ∧ need ≤ 1000000000) (hy : 0 ≤ y.l ∧ y.l ≤ 1000000000) :
    Calls Tryz.prog 90 #[pt Y, pt B1, pt B2] w fun e w' => e = .returned (.bool (x.o.good y.o.p && decide (0 < need1 x.o y need))) ∧ Cells w' B2 #[.int .i64 (if x.o.good y.o.p = true then need1 x.o y need else need)] 2 ∧ Kept (fun k => k = B2) w w' := by
  obtain ⟨x1, x2, x3, x4, x5, x6, x7, x8⟩ : w.cell? ⟨X, 1, none⟩ = some (.int .i64 x.o.m) ∧ w.cell? ⟨X, 2, none⟩ = some (.int .i64 x.o.s) ∧ w.cell? ⟨X, 3, none⟩ = some (.int .i64 x.o.k) ∧ w.cell? ⟨X, 4, none⟩ = some (.int .i64 x.o.f) ∧ w.cell? ⟨X, 5, none⟩ = some (.int .i64 x.o.p) ∧ w.cell? ⟨X, 6, none⟩ = some (.int .i64 x.o.t) ∧ w.cell? ⟨X, 7, none⟩ = some (.int .i64 x.o.q) ∧ w.cell? ⟨X, 8, none⟩ = some (.int .i64 x.o.pk) := by
    refine ⟨?_, ?_, ?_, ?_, ?_, ?_, ?_, ?_⟩ <;> (rw [Cells.cell hX]; rfl)
  have y5 : w.cell? ⟨Y, 5, none⟩ = some (.int .i64 y.o.p) := by rw [Cells.cell hY]; rfl
  have b1 : w.cell? ⟨B1, 0, none⟩ = some (pt X) := by rw [h1.cell]; rfl
  have hXl := hX.lt
  have hYl := hY.lt
  have hB1 := h1.lt
  have hB2 := h2.lt
  have hBX : B2 ≠ X := h2.ne hX (by decide)
  have hBY : B2 ≠ Y := h2.ne hY (by decide)
  have hBB : B2 ≠ B1 := h2.ne h1 (by decide)
  have hg := fun w => good_calls x.o y.o.p w
  unfold Od.vals at hg
  have HG := hid hg
  have HX := hid hX
  have HY := hid hY
  have H1 := hid h1
  have H2 := hid h2
  clear hX hY h1 h2 hg
  cases hgd : x.o.good y.o.p
  · rw [hgd] at HG
    simp only [Bool.false_and]
    go_enter Tryz.func90, Tryz.ntmps90
    go_wp2
    refine region_tail 9 (by kernel_rfl) (by kernel_rfl) ?_
    simp only [List.take_succ_cons, List.take_zero, List.drop_succ_cons, List.drop_zero]
    repeat still_step
    refine wpStill_nil ?_
    go_wp2_with fail
    refine (HG.out _).mono ?_
    rintro e w1 ⟨rfl, hb1⟩
    go_wp2
    go_ret
    simp only [Bool.false_eq_true, if_false]
    have hb2 := ((Below.refl w.heap.size w).drew).trans hb1
    exact ⟨rfl, H2.out.below hb2 hB2, Kept.of_below hb2⟩
  · rw [hgd] at HG
    simp only [Bool.true_and, if_true]
    have y1 : w.cell? ⟨Y, 1, none⟩ = some (.int .i64 y.o.m) := by rw [Cells.cell HY.out]; rfl
    have y9 : w.cell? ⟨Y, 9, none⟩ = some (.int .i64 y.l) := by rw [Cells.cell HY.out]; rfl
    have b2 : w.cell? ⟨B2, 0, none⟩ = some (.int .i64 need) := by rw [H2.out.cell]; rfl
    have b3 : w.frozen? ⟨B2, 0, none⟩ = false := H2.out.frozen 0
    by_cases hm : y.o.m = x.o.m
    · have e1 : (y.o.m == x.o.m) = true := by simpa using hm
      have e2 : (y.o.m != x.o.m) = false := by simpa using hm
      have hn1 : need1 x.o y need = need := by unfold need1; rw [if_neg (by simpa using hm)]
      rw [hn1]
      clear hm hn1
      go_enter Tryz.func90, Tryz.ntmps90
      go_wp2
      refine region_tail 9 (by kernel_rfl) (by kernel_rfl) ?_
      simp only [List.take_succ_cons, List.take_zero, List.drop_succ_cons, List.drop_zero]
      repeat still_step
      refine wpStill_nil ?_
      go_wp2_with fail
      refine (HG.out _).mono ?_
      rintro e w1 ⟨rfl, hb1⟩
      have hb2 := ((Below.refl w.heap.size w).drew).trans hb1
      clear hb1
      obtain ⟨hc1, hc2⟩ := bcell hb2
      have hz1 := hb2.size
      go_wp2
      go_quiet (fail)
      go_wp2
      go_ret
      exact ⟨rfl, (H2.out.below hb2 hB2).drewN _, (Kept.of_below hb2).drewN _⟩
    · have e1 : (y.o.m == x.o.m) = false := by simpa using hm
      have e2 : (y.o.m != x.o.m) = true := by simpa using hm
      have hn1 : need1 x.o y need = need - min need y.l := by unfold need1; rw [if_pos (by simpa using hm)]
      rw [hn1]
      clear hm hn1
      go_enter Tryz.func90, Tryz.ntmps90
      go_wp2
      refine region_tail 9 (by kernel_rfl) (by kernel_rfl) ?_
      simp only [List.take_succ_cons, List.take_zero, List.drop_succ_cons, List.drop_zero]
      repeat still_step
      refine wpStill_nil ?_
      go_wp2_with fail
      refine (HG.out _).mono ?_
      rintro e w1 ⟨rfl, hb1⟩
      have hb2 := ((Below.refl w.heap.size w).drew).trans hb1
      clear hb1
      obtain ⟨hc1, hc2⟩ := bcell hb2
      have hz1 := hb2.size
      go_wp2
      go_quiet (fail)
      go_wp2
      go_region
      all_goals go_wp2
      all_goals go_ret
      · have hlt : y.l < need := by assumption
        rw [show min need y.l = y.l by omega]
        refine ⟨by rw [decide_eq_true hlt]; rfl, ?_, Kept.set (X := fun k => k = B2) ((Kept.of_below hb2).drewN _) (C := B2) rfl 0 _⟩
        exact ((H2.out.below hb2 hB2).drewN (nq + 1)).set 0 (.int .i64 (need - y.l))
      · have hlt : need ≤ y.l := by assumption
        rw [show min need y.l = need by omega, show need - need = 0 by omega]
        refine ⟨by rw [decide_eq_false (Int.lt_irrefl need)]; rfl, ?_, Kept.set (X := fun k => k = B2) ((Kept.of_below hb2).drewN _) (C := B2) rfl 0 _⟩
        exact ((H2.out.below hb2 hB2).drewN (nq + 1)).set 0 (.int .i64 0)
end Go.Proofs.YtepldjidkomclaaGreat.Bo
namespace Go.Proofs.YtepldjidkomclaaGreat.Bo
set_option linter.unusedSimpArgs false
set_option linter.unusedVariables false
open Go.RowKit Go.Shelf
attribute [local go_sem] Oper.semAt_some
attribute [local go_sem ↓] Go.wp_at_zero Go.wp_at_succ
theorem needF_cons (o : Od) (y : En) (r : List En) (need : Int) : needF o (y :: r) need = if o.good y.o.p = true then (if 0 < need1 o y need then needF o r (need1 o y need) else need1 o y need) else need := by
  show (if o.good y.o.p = false then need else _) = _
  cases o.good y.o.p <;> rfl
structure EnJ (w : World) (B1 B2 X : Nat) (o : Od) (all : List En) (l : Int) (k : Nat) (W : World) : Prop where
  below : Below B1 w W
  one : Cells W B1 #[pt X] 72
  two : ∃ n, Cells W B2 #[.int .i64 n] 2 ∧ 0 ≤ n ∧ n ≤ 1000000000 ∧ needF o (all.drop k) n = needF o all l
theorem HlfC.entry {O : Nat → Nat} {c : Nat} {w : World} {H : Nat} {side : Int} {ls : List Lv} {en : Nat → En} (h : HlfC O c w H side ls en) {E : Nat} (hE : E ∈ ensL ls) : O E = c ∧ ∃ P, EnC w E (en E) false (some P) := by
  obtain ⟨x, hx, hm⟩ := List.mem_flatMap.1 hE
  obtain ⟨y, hy, rfl⟩ := List.mem_map.1 hm
  obtain ⟨b1, b2, b3⟩ := (h.lv x hx).2.2 y hy
  exact ⟨b2, _, b3⟩
set_option maxRecDepth 100000 in
set_option maxHeartbeats 4000000 in
theorem enough_calls {O : Nat → Nat} {q : Nat} {w : World} {b : Nat} {G : Mm} {nums last : Int} {evs : List Ev} (h : BdC O q w b G nums last evs) {X : Nat} {x : En} {wx : Bool} {px : Option Nat} (hX : EnC w X x wx px) (hs : x.o.s = 1 ∨ x.o.s = 2) (hl : 0 ≤ x.l ∧ x.l ≤ 1000000000) :
    Calls Tryz.prog 55 #[pt b, pt X] w fun e w' => e = .returned (.bool (decide (needF x.o (plainH (G.L (3 - x.o.s)) G.en).all x.l = 0))) ∧ Below w.heap.size w w' := by
  have ho := other_side hs
  have hok := h.sok ho
  have hl1 := lv_len hok.sh
  have hl2 := few_side (G := G) ho
  have hfew := h.few
  obtain ⟨w1, hw1⟩ : ∃ w1, w1 = (w.alloc (.cells #[pt X] 72)).alloc (.cells #[.int .i64 x.l] 2) := ⟨_, rfl⟩
  have hk1 : Below w.heap.size w w1 := by rw [hw1]; exact ((Below.refl _ w).alloc (Nat.le_refl _) _).alloc (by simp) _
  have b1 : Cells w1 w.heap.size #[pt X] 72 := by rw [hw1]; exact (Cells.new w _ _).alloc _
  have b2 : Cells w1 (w.heap.size + 1) #[.int .i64 x.l] 2 := by rw [hw1]; have := Cells.new (w.alloc (.cells #[pt X] 72)) #[.int .i64 x.l] 2; simpa using this
  have st : Step (fun k => k = q) O w (grow O w q) w1 := Step.grow (Kept.of_below hk1)
  have h1 := h.step st (fun c hc => by have := hc.1; omega)
  have hot := other_calls h1.top hs
  rw [← G.other hs] at hot
  have hsd := h1.side ho
  rw [plainH_all]
  have hgr1 : grow O w q w.heap.size = q := grow_new (Nat.le_refl _)
  have hgr2 : grow O w q (w.heap.size + 1) = q := grow_new (by omega)
  have hcol := colS_cases q ho
  have hjs : ∀ k W, EnJ w w.heap.size (w.heap.size + 1) X x.o ((ensL (G.L (3 - x.o.s))).map G.en) x.l k W → Stays (grow O w q) (colS q (3 - x.o.s)) w1 W := fun k W hJ => by
    have hsz : w1.heap.size = w.heap.size + 1 + 1 := by rw [hw1]; simp
    obtain ⟨n, hn, _⟩ := hJ.two
    refine ⟨by have := hn.lt; omega, fun k hk hO => ?_⟩
    have hk2 : k < w.heap.size := by
      rcases Nat.lt_trichotomy k w.heap.size with g | g | g
      · exact g
      · rw [g, hgr1] at hO; omega
      · have : k = w.heap.size + 1 := by omega
        rw [this, hgr2] at hO; omega
    rw [hJ.below.block k hk2, hk1.block k hk2]
  have hea := each_calls hsd (by omega) 90 #[pt w.heap.size, pt (w.heap.size + 1)] (enters_of Tryz.func90 (by kernel_rfl) rfl)
    (EnJ w w.heap.size (w.heap.size + 1) X x.o ((ensL (G.L (3 - x.o.s))).map G.en) x.l)
    (fun _ W => Below w.heap.size w W ∧ Cells W (w.heap.size + 1) #[.int .i64 (needF x.o ((ensL (G.L (3 - x.o.s))).map G.en) x.l)] 2)
    ⟨hk1, b1, x.l, b2, hl.1, hl.2, rfl⟩ hjs (fun k E W hE hJ => by
      have hJs := hjs k W hJ
      obtain ⟨n, hn, hn0, hn1, hnf⟩ := hJ.two
      have hEm : E ∈ ensL (G.L (3 - x.o.s)) := List.mem_of_getElem? hE
      obtain ⟨hOE, P, eE⟩ := hsd.entry hEm
      have hEok : EnOk (3 - x.o.s) nums (G.en E) := hok.mem _ (by rw [plainH_all]; exact List.mem_map.2 ⟨E, hEm, rfl⟩)
      have eE2 : EnC W E (G.en E) false (some P) := (hJs.block E eE.lt hOE).trans eE
      have eX2 : EnC W X x wx px := Cells.below hX hJ.below hX.lt
      have hq := okQ hEok.ok
      have hEl := hEok.l
      refine (enough1_calls eX2 eE2 hJ.one hn ⟨hn0, hn1⟩ (by omega)).mono ?_
      rintro e W' ⟨rfl, r2, r3⟩
      have hbW : Below w.heap.size w W' := hJ.below.trans (r3.below hJ.below.size (fun k hk => by omega))
      have hdrop : ((ensL (G.L (3 - x.o.s))).map G.en).drop k = G.en E :: ((ensL (G.L (3 - x.o.s))).map G.en).drop (k + 1) := by
        have hlt := (List.getElem?_eq_some_iff.1 hE).1
        rw [List.drop_eq_getElem_cons (by simpa using hlt)]
        congr 1
        rw [List.getElem_map, (List.getElem?_eq_some_iff.1 hE).2]
      rw [hdrop, needF_cons] at hnf
      cases hgd : x.o.good (G.en E).o.p
      · right
        rw [hgd] at r2 hnf
        simp only [Bool.false_eq_true, if_false] at r2 hnf
        exact ⟨by simp, hbW, by rw [← hnf]; exact r2⟩
      · rw [hgd] at r2 hnf
        simp only [if_true] at r2 hnf
        by_cases hp : 0 < need1 x.o (G.en E) n
        · left
          rw [if_pos hp] at hnf
          refine ⟨by simp [hp], hbW, hJ.one.kept r3 (by omega), _, r2, by omega, ?_, hnf⟩
          unfold need1
          split <;> omega
        · right
          rw [if_neg hp] at hnf
          exact ⟨by simp [hp], hbW, by rw [← hnf]; exact r2⟩)
  have x2 : w.cell? ⟨X, 2, none⟩ = some (.int .i64 x.o.s) := by rw [Cells.cell hX]; rfl
  have x9 : w.cell? ⟨X, 9, none⟩ = some (.int .i64 x.l) := by rw [Cells.cell hX]; rfl
  have hXl := hX.lt
  have hfin : ∀ w', (EnJ w w.heap.size (w.heap.size + 1) X x.o ((ensL (G.L (3 - x.o.s))).map G.en) x.l (ensL (G.L (3 - x.o.s))).length w' ∨ ∃ k, k < (ensL (G.L (3 - x.o.s))).length ∧ Below w.heap.size w w' ∧ Cells w' (w.heap.size + 1) #[.int .i64 (needF x.o ((ensL (G.L (3 - x.o.s))).map G.en) x.l)] 2) → Below w.heap.size w w' ∧ Cells w' (w.heap.size + 1) #[.int .i64 (needF x.o ((ensL (G.L (3 - x.o.s))).map G.en) x.l)] 2 := by
    rintro w' (hJ | ⟨_, _, h1, h2⟩)
    · obtain ⟨n, hn, _, _, hf⟩ := hJ.two
      rw [List.drop_of_length_le (by simp)] at hf
      refine ⟨hJ.below, ?_⟩
      rw [← hf]
      exact hn
    · exact ⟨h1, h2⟩
  have hea := hea.mono (R' := fun e w' => e = .returned (.tuple #[]) ∧ Below w.heap.size w w' ∧ Cells w' (w.heap.size + 1) #[.int .i64 (needF x.o ((ensL (G.L (3 - x.o.s))).map G.en) x.l)] 2) (fun e w' ⟨h1, h2⟩ => ⟨h1, hfin w' h2⟩)
  rw [hw1] at hot hea
  have HO := hid hot
  have HE := hid hea
  generalize needF x.o ((ensL (G.L (3 - x.o.s))).map G.en) x.l = N at *
  clear hea hot h h1 hsd hjs hok hl1 hl2 hfew st hk1 hw1 hX hfin b1 b2 hgr1 hgr2 hcol
  go_enter Tryz.func55, Tryz.ntmps55
  go_wp2_with fail
  refine HO.out.mono ?_
  rintro e w2 ⟨rfl, rfl⟩
  go_wp2_with fail
  refine HE.out.mono ?_
  rintro e w2 ⟨rfl, hb, hc⟩
  have c0 : w2.cell? ⟨w.heap.size + 1, 0, none⟩ = some (.int .i64 N) := by rw [hc.cell]; rfl
  have hlt := hc.lt
  clear hc
  go_wp2
  go_ret
  exact ⟨rfl, hb⟩
end Go.Proofs.YtepldjidkomclaaGreat.Bo
