/- A nil board refuses everything: what each function returns of it. -/
import Derived.Test.YtdjhpldiifdifaaAwk1
import Derived.Test.YtdjhpldiifdifaaOpen
namespace Go.Proofs.Ytdjhpldiifdifaa
set_option linter.unusedSimpArgs false
set_option linter.unusedVariables false
open Go.RowKit Go.Shelf
attribute [local go_sem] Oper.semAt_some
attribute [local go_sem ↓] Go.wp_at_zero Go.wp_at_succ

abbrev nil : Value := .pointer none
set_option maxRecDepth 100000
set_option maxHeartbeats 4000000
theorem enter_nil (o : Od) (w : World) : Calls Try.prog 17 #[.pointer none, .agg o.vals] w fun e w' => e = .returned (.tuple #[.int .i64 0, .slice none 0 0, .int .i64 3]) ∧ Below w.heap.size w w' := by
  unfold Od.vals
  go_enter Try.func17, Try.ntmps17
  go_wp2_with fail
  exact bodyPost_ret (v := .tuple #[.int .i64 0, .slice none 0 0, .int .i64 3]) (by simp [results, Try.results17, go_sem]) rfl ⟨rfl, Below.alloc (Below.refl _ _) (Nat.le_refl _) _⟩
theorem owned_nil (n m : Int) (w : World) : Calls Try.prog 39 #[.pointer none, .int .i64 n, .int .i64 m] w fun e w' => e = .returned (.tuple #[.pointer none, .int .i64 3]) ∧ w' = w := by
  go_enter Try.func39, Try.ntmps39
  go_wp2_with fail
  exact bodyPost_ret (v := .tuple #[.pointer none, .int .i64 3]) (by simp [results, Try.results39, go_sem]) rfl ⟨rfl, rfl⟩
theorem cancel_nil (n m : Int) (w : World) : Calls Try.prog 15 #[.pointer none, .int .i64 n, .int .i64 m] w fun e w' => e = .returned (.tuple #[.slice none 0 0, .int .i64 3]) ∧ w' = w := by
  go_enter Try.func15, Try.ntmps15
  go_wp2_with fail
  refine (owned_nil n m w).mono ?_
  rintro e w1 ⟨rfl, rfl⟩
  go_wp2
  first | exact ⟨rfl, rfl⟩ | exact bodyPost_ret (v := .tuple #[.slice none 0 0, .int .i64 3]) (by simp [results, Try.results15, go_sem]) rfl ⟨rfl, rfl⟩
theorem amend_nil (n m p q : Int) (w : World) : Calls Try.prog 30 #[.pointer none, .int .i64 n, .int .i64 m, .int .i64 p, .int .i64 q] w fun e w' => e = .returned (.tuple #[.slice none 0 0, .int .i64 3]) ∧ w' = w := by
  go_enter Try.func30, Try.ntmps30
  go_wp2_with fail
  refine (owned_nil n m w).mono ?_
  rintro e w1 ⟨rfl, rfl⟩
  go_wp2
  first | exact ⟨rfl, rfl⟩ | exact bodyPost_ret (v := .tuple #[.slice none 0 0, .int .i64 3]) (by simp [results, Try.results30, go_sem]) rfl ⟨rfl, rfl⟩
theorem get_nil (n : Int) (w : World) : Calls Try.prog 18 #[.pointer none, .int .i64 n] w fun e w' => e = .returned (.tuple #[statA od0 0 0 false, .int .i64 3]) ∧ Below w.heap.size w w' := by
  go_enter Try.func18, Try.ntmps18
  go_wp2_with fail
  exact bodyPost_ret (v := .tuple #[statA od0 0 0 false, .int .i64 3]) (by simp [results, Try.results18, go_sem, statA, od0]) rfl ⟨rfl, Below.alloc (Below.refl _ _) (Nat.le_refl _) _⟩
theorem cost_nil (s q : Int) (w : World) : Calls Try.prog 21 #[.pointer none, .int .i64 s, .int .i64 q] w fun e w' => e = .returned (.tuple #[.int .i64 0, .int .i64 0, .int .i64 3]) ∧ Below w.heap.size w w' := by
  go_enter Try.func21, Try.ntmps21
  go_wp2_with fail
  exact bodyPost_ret (v := .tuple #[.int .i64 0, .int .i64 0, .int .i64 3]) (by simp [results, Try.results21, go_sem]) rfl ⟨rfl, ((Below.alloc (Below.refl _ _) (Nat.le_refl _) _).alloc (by simp) _).alloc (by simp; omega) _⟩
theorem levels_nil (s : Int) (w : World) : Calls Try.prog 52 #[.pointer none, .int .i64 s] w fun e w' => e = .returned (.slice none 0 0) ∧ w' = w := by
  go_enter Try.func52, Try.ntmps52
  go_wp2_with fail
  first | exact ⟨rfl, rfl⟩ | (go_ret; exact ⟨rfl, rfl⟩)
theorem best_nil (s : Int) (w : World) : Calls Try.prog 22 #[.pointer none, .int .i64 s] w fun e w' => e = .returned (.tuple #[.int .i64 0, .int .i64 0, .bool false]) ∧ w' = w := by
  go_enter Try.func22, Try.ntmps22
  go_wp2_with fail
  refine (levels_nil s w).mono ?_
  rintro e w1 ⟨rfl, rfl⟩
  go_wp2
  first | exact ⟨rfl, rfl⟩ | exact bodyPost_ret (v := .tuple #[.int .i64 0, .int .i64 0, .bool false]) (by simp [results, Try.results22, go_sem]) rfl ⟨rfl, rfl⟩
theorem depth_nil (s m : Int) (w : World) : Calls Try.prog 24 #[.pointer none, .int .i64 s, .int .i64 m] w fun e w' => e = .returned (.slice none 0 0) ∧ Below w.heap.size w w' := by
  go_enter Try.func24, Try.ntmps24
  go_wp2_with fail
  refine (levels_nil s w).mono ?_
  rintro e w1 ⟨rfl, rfl⟩
  go_wp2_with fail
  refine wp_loop_rounds 1 ?_
  rw [rounds_succ]
  go_wp2
  first | exact ⟨rfl, Below.refl _ _⟩ | (go_ret; exact ⟨rfl, Below.refl _ _⟩) | (trace_state; sorry)
theorem queue_nil (s p : Int) (w : World) : Calls Try.prog 23 #[.pointer none, .int .i64 s, .int .i64 p] w fun e w' => e = .returned (.slice none 0 0) ∧ Below w.heap.size w w' := by
  go_enter Try.func23, Try.ntmps23
  go_wp2_with fail
  refine (levels_nil s w).mono ?_
  rintro e w1 ⟨rfl, rfl⟩
  go_wp2_with fail
  refine wp_loop_rounds 1 ?_
  rw [rounds_succ]
  go_wp2
  first | exact ⟨rfl, Below.refl _ _⟩ | (go_ret; exact ⟨rfl, Below.refl _ _⟩) | (trace_state; sorry)
theorem stopsQ_nil (w : World) : Calls Try.prog 34 #[.pointer none] w fun e w' => e = .returned (.slice none 0 0) ∧ w' = w := by
  go_enter Try.func34, Try.ntmps34
  go_wp2_with fail
  first | exact ⟨rfl, rfl⟩ | (go_ret; exact ⟨rfl, rfl⟩)
theorem orders_nil (w : World) : Calls Try.prog 31 #[.pointer none] w fun e w' => e = .returned (.slice none 0 0) ∧ w' = w := by
  go_enter Try.func31, Try.ntmps31
  go_wp2_with fail
  first | exact ⟨rfl, rfl⟩ | (go_ret; exact ⟨rfl, rfl⟩)
theorem last_nil (w : World) : Calls Try.prog 37 #[.pointer none] w fun e w' => e = .returned (.int .i64 0) ∧ w' = w := by
  go_enter Try.func37, Try.ntmps37
  go_wp2_with fail
  first | exact ⟨rfl, rfl⟩ | (go_ret; exact ⟨rfl, rfl⟩)
theorem fork_nil (w : World) : Calls Try.prog 36 #[.pointer none] w fun e w' => e = .returned (.pointer none) ∧ w' = w := by
  go_enter Try.func36, Try.ntmps36
  go_wp2_with fail
  first | exact ⟨rfl, rfl⟩ | (go_ret; exact ⟨rfl, rfl⟩)

theorem eql_stat (w : World) : (binOp .eql 42 (.agg #[.int .i64 0, .int .i64 0, .int .i64 0, .int .i64 0, .int .i64 0, .int .i64 0, .int .i64 0, .int .i64 0, .int .i64 0, .int .i64 0, .bool false]) (.agg #[.int .i64 0, .int .i64 0, .int .i64 0, .int .i64 0, .int .i64 0, .int .i64 0, .int .i64 0, .int .i64 0, .int .i64 0, .int .i64 0, .bool false])).run Try.prog w = .ok (.bool true) w := by kernel_rfl
theorem void_calls (o : Od) (n : Int) (w : World) : Calls Try.prog 13 #[.agg o.vals, .int .i64 n] w fun e w' => e = .returned (.bool true) ∧ Below w.heap.size w w' := by
  have EN := hid (fun w => enter_nil o w)
  unfold Od.vals at EN ⊢
  go_enter Try.func13, Try.ntmps13
  go_wp2_with fail
  refine (EN.out _).mono ?_
  rintro e w1 ⟨rfl, hb1⟩
  have B1 := hid (((Below.refl w.heap.size w).alloc (Nat.le_refl _) _).trans (hb1.mono (by simp)))
  clear hb1
  go_wp2_with fail
  refine (cancel_nil _ _ _).mono ?_
  rintro e w2 ⟨rfl, rfl⟩
  go_wp2_with fail
  refine (amend_nil _ _ _ _ _).mono ?_
  rintro e w2 ⟨rfl, rfl⟩
  go_wp2_with fail
  refine (get_nil _ _).mono ?_
  rintro e w3 ⟨rfl, hb3⟩
  have B3 := hid (B1.out.trans (hb3.mono B1.out.size))
  unfold statA od0
  clear hb3 B1
  go_wp2_with fail
  refine (cost_nil _ _ _).mono ?_
  rintro e w4 ⟨rfl, hb4⟩
  have cs : Cells (w3.alloc (.cells #[.int .i64 0, .int .i64 0, .int .i64 0, .int .i64 0, .int .i64 0, .int .i64 0, .int .i64 0, .int .i64 0, .int .i64 0, .int .i64 0, .bool false] 42)) w3.heap.size #[.int .i64 0, .int .i64 0, .int .i64 0, .int .i64 0, .int .i64 0, .int .i64 0, .int .i64 0, .int .i64 0, .int .i64 0, .int .i64 0, .bool false] 42 := Cells.new _ _ _
  have c4 := cs.below hb4 (by simp)
  have B4 := hid ((B3.out.alloc B3.out.size _).trans (hb4.mono (by have := B3.out.size; simp; omega)))
  obtain ⟨k0, k1, k2, k3, k4, k5, k6, k7, k8, k9, k10⟩ : w4.cell? ⟨w3.heap.size, 0, none⟩ = some (.int .i64 0) ∧ w4.cell? ⟨w3.heap.size, 1, none⟩ = some (.int .i64 0) ∧ w4.cell? ⟨w3.heap.size, 2, none⟩ = some (.int .i64 0) ∧ w4.cell? ⟨w3.heap.size, 3, none⟩ = some (.int .i64 0) ∧ w4.cell? ⟨w3.heap.size, 4, none⟩ = some (.int .i64 0) ∧ w4.cell? ⟨w3.heap.size, 5, none⟩ = some (.int .i64 0) ∧ w4.cell? ⟨w3.heap.size, 6, none⟩ = some (.int .i64 0) ∧ w4.cell? ⟨w3.heap.size, 7, none⟩ = some (.int .i64 0) ∧ w4.cell? ⟨w3.heap.size, 8, none⟩ = some (.int .i64 0) ∧ w4.cell? ⟨w3.heap.size, 9, none⟩ = some (.int .i64 0) ∧ w4.cell? ⟨w3.heap.size, 10, none⟩ = some (.bool false) := by
    refine ⟨?_, ?_, ?_, ?_, ?_, ?_, ?_, ?_, ?_, ?_, ?_⟩ <;> (rw [c4.cell]; rfl)
  have kl := c4.lt
  have es := eql_stat
  clear cs c4 hb4 B3
  go_wp2_with fail
  refine (best_nil _ _).mono ?_
  rintro e w5 ⟨rfl, rfl⟩
  go_wp2_with fail
  refine (depth_nil _ _ _).mono ?_
  rintro e w6 ⟨rfl, hb6⟩
  have B6 := hid (B4.out.trans (hb6.mono B4.out.size))
  clear hb6 B4 k0 k1 k2 k3 k4 k5 k6 k7 k8 k9 k10 kl
  go_wp2_with fail
  refine (queue_nil _ _ _).mono ?_
  rintro e w7 ⟨rfl, hb7⟩
  have B7 := hid (B6.out.trans (hb7.mono B6.out.size))
  clear hb7 B6
  go_wp2_with fail
  refine (stopsQ_nil _).mono ?_
  rintro e w8 ⟨rfl, rfl⟩
  go_wp2_with fail
  refine (orders_nil _).mono ?_
  rintro e w8 ⟨rfl, rfl⟩
  go_wp2_with fail
  refine (last_nil _).mono ?_
  rintro e w8 ⟨rfl, rfl⟩
  go_wp2_with fail
  refine (fork_nil _).mono ?_
  rintro e w8 ⟨rfl, rfl⟩
  go_wp2_with fail
  refine (awake_calls _).mono ?_
  rintro e w9 ⟨rfl, hb9⟩
  have B9 := hid (B7.out.trans (hb9.mono B7.out.size))
  clear hb9
  go_wp2
  first | exact ⟨rfl, B9.out⟩ | (go_ret; exact ⟨rfl, B9.out⟩)
end Go.Proofs.Ytdjhpldiifdifaa
