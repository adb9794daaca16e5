/- The changes of a nil register. -/
import Derived.Test.YtnnbdjfeagcbdaaNew
namespace Go.Proofs.Ytnnbdjfeagcbdaa
set_option linter.unusedSimpArgs false
set_option linter.unusedVariables false
open Go.RowKit Go.Shelf

set_option maxHeartbeats 1000000 in
theorem enter_nil (a c x0 x1 : Int) (w : World) : Calls Try.prog 20 #[.pointer none, .agg #[.int .i64 a, .int .i64 c], .int .i64 x0, .int .i64 x1] w fun e w' => e = .returned (.int .i64 3) ∧ Below w.heap.size w w' := by
  go_enter Try.func20, Try.ntmps20
  go_wp2
  go_ret
  exact ⟨rfl, by repeat (first | exact Below.refl _ _ | refine Below.alloc ?_ (by first | omega | (simp; try omega)) _)⟩

set_option maxHeartbeats 1000000 in
theorem move_nil (a c x0 x1 : Int) (w : World) : Calls Try.prog 21 #[.pointer none, .agg #[.int .i64 a, .int .i64 c], .int .i64 x0, .int .i64 x1] w fun e w' => e = .returned (.int .i64 3) ∧ Below w.heap.size w w' := by
  go_enter Try.func21, Try.ntmps21
  go_wp2
  go_ret
  exact ⟨rfl, by repeat (first | exact Below.refl _ _ | refine Below.alloc ?_ (by first | omega | (simp; try omega)) _)⟩

set_option maxHeartbeats 1000000 in
theorem pledge_nil (a c x0 x1 : Int) (w : World) : Calls Try.prog 22 #[.pointer none, .agg #[.int .i64 a, .int .i64 c], .int .i64 x0, .int .i64 x1] w fun e w' => e = .returned (.int .i64 3) ∧ Below w.heap.size w w' := by
  go_enter Try.func22, Try.ntmps22
  go_wp2
  go_ret
  exact ⟨rfl, by repeat (first | exact Below.refl _ _ | refine Below.alloc ?_ (by first | omega | (simp; try omega)) _)⟩

set_option maxHeartbeats 1000000 in
theorem leave_nil (a c x0 : Int) (w : World) : Calls Try.prog 25 #[.pointer none, .agg #[.int .i64 a, .int .i64 c], .int .i64 x0] w fun e w' => e = .returned (.int .i64 3) ∧ Below w.heap.size w w' := by
  go_enter Try.func25, Try.ntmps25
  go_wp2
  go_ret
  exact ⟨rfl, by repeat (first | exact Below.refl _ _ | refine Below.alloc ?_ (by first | omega | (simp; try omega)) _)⟩

set_option maxHeartbeats 1000000 in
theorem held_nil (a c x0 : Int) (w : World) : Calls Try.prog 61 #[.pointer none, .agg #[.int .i64 a, .int .i64 c], .int .i64 x0] w fun e w' => e = .returned (.int .i64 3) ∧ Below w.heap.size w w' := by
  go_enter Try.func61, Try.ntmps61
  go_wp2
  go_ret
  exact ⟨rfl, by repeat (first | exact Below.refl _ _ | refine Below.alloc ?_ (by first | omega | (simp; try omega)) _)⟩

set_option maxHeartbeats 1000000 in
theorem release_nil (a c o : Int) (w : World) : Calls Try.prog 23 #[.pointer none, .agg #[.int .i64 a, .int .i64 c], .int .i64 o] w fun e w' => e = .returned (.int .i64 3) ∧ Below w.heap.size w w' := by
  have l0 : w.heap.size < w.heap.size + 1 + 1 := by omega
  go_enter Try.func23, Try.ntmps23
  go_wp2_with fail
  refine (held_nil a c o _).mono ?_
  rintro e w1 ⟨rfl, hb⟩
  go_wp2
  go_ret
  exact ⟨rfl, Below.trans (by repeat (first | exact Below.refl _ _ | refine Below.alloc ?_ (by first | omega | (simp; try omega)) _)) (hb.mono (by simp; try omega))⟩

set_option maxHeartbeats 1000000 in
theorem seize_nil (a c o : Int) (w : World) : Calls Try.prog 24 #[.pointer none, .agg #[.int .i64 a, .int .i64 c], .int .i64 o] w fun e w' => e = .returned (.int .i64 3) ∧ Below w.heap.size w w' := by
  have l0 : w.heap.size < w.heap.size + 1 + 1 := by omega
  go_enter Try.func24, Try.ntmps24
  go_wp2_with fail
  refine (held_nil a c o _).mono ?_
  rintro e w1 ⟨rfl, hb⟩
  go_wp2
  go_ret
  exact ⟨rfl, Below.trans (by repeat (first | exact Below.refl _ _ | refine Below.alloc ?_ (by first | omega | (simp; try omega)) _)) (hb.mono (by simp; try omega))⟩

set_option maxHeartbeats 1000000 in
theorem fork_nil (w : World) : Calls Try.prog 45 #[.pointer none] w fun e w' => e = .returned (.pointer none) ∧ w' = w := by
  go_enter Try.func45, Try.ntmps45
  go_wp2
  go_ret
  exact ⟨rfl, rfl⟩
end Go.Proofs.Ytnnbdjfeagcbdaa
