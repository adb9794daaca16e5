/- The law StockVoid: its walk. -/
import Derived.Test.YtnnbdjfeagcbdaaNil3
import Derived.Test.YtnnbdjfeagcbdaaAwake
namespace Go.Proofs.Ytnnbdjfeagcbdaa
set_option linter.unusedSimpArgs false
set_option linter.unusedVariables false
open Go.RowKit Go.Shelf
attribute [local go_sem] Oper.semAt_some

theorem run_eqPocket (w : World) : (Op.equalIn 10000 52 (.agg #[.int .i64 0, .int .i64 0, .int .i64 0, .int .i64 0]) (.agg #[.int .i64 0, .int .i64 0, .int .i64 0, .int .i64 0])).run Try.prog w = .ok true w := by simp [go_sem]
set_option maxRecDepth 100000 in
set_option maxHeartbeats 16000000 in
theorem void_calls (kd a c lot x y v : Int) (w : World) : Calls Try.prog 12 #[.agg #[.int .i64 kd, .int .i64 a, .int .i64 c, .int .i64 lot, .int .i64 x, .int .i64 y], .int .i64 v] w fun e w' => e = .returned (.bool true) ∧ Below w.heap.size w w' := by
  have CA0 := hid (Cells.new w #[.int .i64 kd, .int .i64 a, .int .i64 c, .int .i64 lot, .int .i64 x, .int .i64 y] 39)
  have B0 := hid ((Below.refl w.heap.size w).alloc (Nat.le_refl _) (.cells #[.int .i64 kd, .int .i64 a, .int .i64 c, .int .i64 lot, .int .i64 x, .int .i64 y] 39))
  have heq := run_eqPocket
  go_enter Try.func12, Try.ntmps12
  go_wp2_with fail
  refine (pocket_nil 1 v _).mono ?_
  rintro e w1 ⟨rfl, hb⟩
  have CA1 := hid ((CA0.out.below hb CA0.out.lt).alloc (.cells #[.int .i64 0, .int .i64 0, .int .i64 0, .int .i64 0] 52))
  have CP1 := hid (Cells.new w1 #[.int .i64 0, .int .i64 0, .int .i64 0, .int .i64 0] 52)
  have B1 := hid ((B0.out.trans (hb.mono B0.out.size)).alloc (by have := B0.out.size; have := hb.size; omega) (.cells #[.int .i64 0, .int .i64 0, .int .i64 0, .int .i64 0] 52))
  have lp : w.heap.size < w1.heap.size := by have := hb.size; have := CA0.out.lt; omega
  clear hb
  go_wp2_with fail
  refine (holds_nil 1 v _).mono ?_
  rintro e w2 ⟨rfl, hb⟩
  have CA2 := hid (CA1.out.below hb CA1.out.lt)
  have CP2 := hid (CP1.out.below hb CP1.out.lt)
  have B2 := hid (B1.out.trans (hb.mono B1.out.size))
  clear hb
  go_wp2_with fail
  refine (pledged_nil 1 v _).mono ?_
  rintro e w3 ⟨rfl, hb⟩
  have CA3 := hid (CA2.out.below hb CA2.out.lt)
  have CP3 := hid (CP2.out.below hb CP2.out.lt)
  have B3 := hid (B2.out.trans (hb.mono B2.out.size))
  clear hb
  go_wp2_with fail
  refine (count_nil 1 v _).mono ?_
  rintro e w4 ⟨rfl, hb⟩
  have CA4 := hid (CA3.out.below hb CA3.out.lt)
  have CP4 := hid (CP3.out.below hb CP3.out.lt)
  have B4 := hid (B3.out.trans (hb.mono B3.out.size))
  clear hb
  go_wp2_with fail
  refine (find_nil 1 1 1 _).mono ?_
  rintro e w5 ⟨rfl, hb⟩
  have CA5 := hid (CA4.out.below hb CA4.out.lt)
  have CP5 := hid (CP4.out.below hb CP4.out.lt)
  have B5 := hid (B4.out.trans (hb.mono B4.out.size))
  clear hb
  obtain ⟨k0, k1, k2, k3, k4, k5⟩ : (w5.cell? ⟨w.heap.size, 0, none⟩ = some (.int .i64 kd) ∧ w5.cell? ⟨w.heap.size, 1, none⟩ = some (.int .i64 a) ∧ w5.cell? ⟨w.heap.size, 2, none⟩ = some (.int .i64 c) ∧ w5.cell? ⟨w.heap.size, 3, none⟩ = some (.int .i64 lot) ∧ w5.cell? ⟨w.heap.size, 4, none⟩ = some (.int .i64 x) ∧ w5.cell? ⟨w.heap.size, 5, none⟩ = some (.int .i64 y)) := by simp [CA5.out.cell]
  obtain ⟨q0, q1, q2, q3⟩ : (w5.cell? ⟨w1.heap.size, 0, none⟩ = some (.int .i64 0) ∧ w5.cell? ⟨w1.heap.size, 1, none⟩ = some (.int .i64 0) ∧ w5.cell? ⟨w1.heap.size, 2, none⟩ = some (.int .i64 0) ∧ w5.cell? ⟨w1.heap.size, 3, none⟩ = some (.int .i64 0)) := by simp [CP5.out.cell]
  have la := CA5.out.lt
  have lb := CP5.out.lt
  go_wp2_with fail
  refine (changed_nil 0 0 _).mono ?_
  rintro e w6 ⟨rfl, rfl⟩
  have CA6 := CA5
  have CP6 := CP5
  have B6 := B5
  go_wp2_with fail
  refine (enter_nil a c lot x _).mono ?_
  rintro e w7 ⟨rfl, hb⟩
  clear k0 k1 k2 k3 k4 k5 q0 q1 q2 q3 la lb
  have CA7 := hid (CA6.out.below hb CA6.out.lt)
  have CP7 := hid (CP6.out.below hb CP6.out.lt)
  have B7 := hid (B6.out.trans (hb.mono B6.out.size))
  clear hb
  obtain ⟨k0, k1, k2, k3, k4, k5⟩ : (w7.cell? ⟨w.heap.size, 0, none⟩ = some (.int .i64 kd) ∧ w7.cell? ⟨w.heap.size, 1, none⟩ = some (.int .i64 a) ∧ w7.cell? ⟨w.heap.size, 2, none⟩ = some (.int .i64 c) ∧ w7.cell? ⟨w.heap.size, 3, none⟩ = some (.int .i64 lot) ∧ w7.cell? ⟨w.heap.size, 4, none⟩ = some (.int .i64 x) ∧ w7.cell? ⟨w.heap.size, 5, none⟩ = some (.int .i64 y)) := by simp [CA7.out.cell]
  obtain ⟨q0, q1, q2, q3⟩ : (w7.cell? ⟨w1.heap.size, 0, none⟩ = some (.int .i64 0) ∧ w7.cell? ⟨w1.heap.size, 1, none⟩ = some (.int .i64 0) ∧ w7.cell? ⟨w1.heap.size, 2, none⟩ = some (.int .i64 0) ∧ w7.cell? ⟨w1.heap.size, 3, none⟩ = some (.int .i64 0)) := by simp [CP7.out.cell]
  have la := CA7.out.lt
  have lb := CP7.out.lt
  go_wp2_with fail
  refine (move_nil a c x y _).mono ?_
  rintro e w8 ⟨rfl, hb⟩
  clear k0 k1 k2 k3 k4 k5 q0 q1 q2 q3 la lb
  have CA8 := hid (CA7.out.below hb CA7.out.lt)
  have CP8 := hid (CP7.out.below hb CP7.out.lt)
  have B8 := hid (B7.out.trans (hb.mono B7.out.size))
  clear hb
  obtain ⟨k0, k1, k2, k3, k4, k5⟩ : (w8.cell? ⟨w.heap.size, 0, none⟩ = some (.int .i64 kd) ∧ w8.cell? ⟨w.heap.size, 1, none⟩ = some (.int .i64 a) ∧ w8.cell? ⟨w.heap.size, 2, none⟩ = some (.int .i64 c) ∧ w8.cell? ⟨w.heap.size, 3, none⟩ = some (.int .i64 lot) ∧ w8.cell? ⟨w.heap.size, 4, none⟩ = some (.int .i64 x) ∧ w8.cell? ⟨w.heap.size, 5, none⟩ = some (.int .i64 y)) := by simp [CA8.out.cell]
  obtain ⟨q0, q1, q2, q3⟩ : (w8.cell? ⟨w1.heap.size, 0, none⟩ = some (.int .i64 0) ∧ w8.cell? ⟨w1.heap.size, 1, none⟩ = some (.int .i64 0) ∧ w8.cell? ⟨w1.heap.size, 2, none⟩ = some (.int .i64 0) ∧ w8.cell? ⟨w1.heap.size, 3, none⟩ = some (.int .i64 0)) := by simp [CP8.out.cell]
  have la := CA8.out.lt
  have lb := CP8.out.lt
  go_wp2_with fail
  refine (pledge_nil a c x y _).mono ?_
  rintro e w9 ⟨rfl, hb⟩
  clear k0 k1 k2 k3 k4 k5 q0 q1 q2 q3 la lb
  have CA9 := hid (CA8.out.below hb CA8.out.lt)
  have CP9 := hid (CP8.out.below hb CP8.out.lt)
  have B9 := hid (B8.out.trans (hb.mono B8.out.size))
  clear hb
  obtain ⟨k0, k1, k2, k3, k4, k5⟩ : (w9.cell? ⟨w.heap.size, 0, none⟩ = some (.int .i64 kd) ∧ w9.cell? ⟨w.heap.size, 1, none⟩ = some (.int .i64 a) ∧ w9.cell? ⟨w.heap.size, 2, none⟩ = some (.int .i64 c) ∧ w9.cell? ⟨w.heap.size, 3, none⟩ = some (.int .i64 lot) ∧ w9.cell? ⟨w.heap.size, 4, none⟩ = some (.int .i64 x) ∧ w9.cell? ⟨w.heap.size, 5, none⟩ = some (.int .i64 y)) := by simp [CA9.out.cell]
  obtain ⟨q0, q1, q2, q3⟩ : (w9.cell? ⟨w1.heap.size, 0, none⟩ = some (.int .i64 0) ∧ w9.cell? ⟨w1.heap.size, 1, none⟩ = some (.int .i64 0) ∧ w9.cell? ⟨w1.heap.size, 2, none⟩ = some (.int .i64 0) ∧ w9.cell? ⟨w1.heap.size, 3, none⟩ = some (.int .i64 0)) := by simp [CP9.out.cell]
  have la := CA9.out.lt
  have lb := CP9.out.lt
  go_wp2_with fail
  refine (release_nil a c x _).mono ?_
  rintro e w10 ⟨rfl, hb⟩
  clear k0 k1 k2 k3 k4 k5 q0 q1 q2 q3 la lb
  have CA10 := hid (CA9.out.below hb CA9.out.lt)
  have CP10 := hid (CP9.out.below hb CP9.out.lt)
  have B10 := hid (B9.out.trans (hb.mono B9.out.size))
  clear hb
  obtain ⟨k0, k1, k2, k3, k4, k5⟩ : (w10.cell? ⟨w.heap.size, 0, none⟩ = some (.int .i64 kd) ∧ w10.cell? ⟨w.heap.size, 1, none⟩ = some (.int .i64 a) ∧ w10.cell? ⟨w.heap.size, 2, none⟩ = some (.int .i64 c) ∧ w10.cell? ⟨w.heap.size, 3, none⟩ = some (.int .i64 lot) ∧ w10.cell? ⟨w.heap.size, 4, none⟩ = some (.int .i64 x) ∧ w10.cell? ⟨w.heap.size, 5, none⟩ = some (.int .i64 y)) := by simp [CA10.out.cell]
  obtain ⟨q0, q1, q2, q3⟩ : (w10.cell? ⟨w1.heap.size, 0, none⟩ = some (.int .i64 0) ∧ w10.cell? ⟨w1.heap.size, 1, none⟩ = some (.int .i64 0) ∧ w10.cell? ⟨w1.heap.size, 2, none⟩ = some (.int .i64 0) ∧ w10.cell? ⟨w1.heap.size, 3, none⟩ = some (.int .i64 0)) := by simp [CP10.out.cell]
  have la := CA10.out.lt
  have lb := CP10.out.lt
  go_wp2_with fail
  refine (seize_nil a c x _).mono ?_
  rintro e w11 ⟨rfl, hb⟩
  clear k0 k1 k2 k3 k4 k5 q0 q1 q2 q3 la lb
  have CA11 := hid (CA10.out.below hb CA10.out.lt)
  have CP11 := hid (CP10.out.below hb CP10.out.lt)
  have B11 := hid (B10.out.trans (hb.mono B10.out.size))
  clear hb
  obtain ⟨k0, k1, k2, k3, k4, k5⟩ : (w11.cell? ⟨w.heap.size, 0, none⟩ = some (.int .i64 kd) ∧ w11.cell? ⟨w.heap.size, 1, none⟩ = some (.int .i64 a) ∧ w11.cell? ⟨w.heap.size, 2, none⟩ = some (.int .i64 c) ∧ w11.cell? ⟨w.heap.size, 3, none⟩ = some (.int .i64 lot) ∧ w11.cell? ⟨w.heap.size, 4, none⟩ = some (.int .i64 x) ∧ w11.cell? ⟨w.heap.size, 5, none⟩ = some (.int .i64 y)) := by simp [CA11.out.cell]
  obtain ⟨q0, q1, q2, q3⟩ : (w11.cell? ⟨w1.heap.size, 0, none⟩ = some (.int .i64 0) ∧ w11.cell? ⟨w1.heap.size, 1, none⟩ = some (.int .i64 0) ∧ w11.cell? ⟨w1.heap.size, 2, none⟩ = some (.int .i64 0) ∧ w11.cell? ⟨w1.heap.size, 3, none⟩ = some (.int .i64 0)) := by simp [CP11.out.cell]
  have la := CA11.out.lt
  have lb := CP11.out.lt
  go_wp2_with fail
  refine (leave_nil a c x _).mono ?_
  rintro e w12 ⟨rfl, hb⟩
  clear k0 k1 k2 k3 k4 k5 q0 q1 q2 q3 la lb
  have CA12 := hid (CA11.out.below hb CA11.out.lt)
  have CP12 := hid (CP11.out.below hb CP11.out.lt)
  have B12 := hid (B11.out.trans (hb.mono B11.out.size))
  clear hb
  obtain ⟨k0, k1, k2, k3, k4, k5⟩ : (w12.cell? ⟨w.heap.size, 0, none⟩ = some (.int .i64 kd) ∧ w12.cell? ⟨w.heap.size, 1, none⟩ = some (.int .i64 a) ∧ w12.cell? ⟨w.heap.size, 2, none⟩ = some (.int .i64 c) ∧ w12.cell? ⟨w.heap.size, 3, none⟩ = some (.int .i64 lot) ∧ w12.cell? ⟨w.heap.size, 4, none⟩ = some (.int .i64 x) ∧ w12.cell? ⟨w.heap.size, 5, none⟩ = some (.int .i64 y)) := by simp [CA12.out.cell]
  obtain ⟨q0, q1, q2, q3⟩ : (w12.cell? ⟨w1.heap.size, 0, none⟩ = some (.int .i64 0) ∧ w12.cell? ⟨w1.heap.size, 1, none⟩ = some (.int .i64 0) ∧ w12.cell? ⟨w1.heap.size, 2, none⟩ = some (.int .i64 0) ∧ w12.cell? ⟨w1.heap.size, 3, none⟩ = some (.int .i64 0)) := by simp [CP12.out.cell]
  have la := CA12.out.lt
  have lb := CP12.out.lt
  go_wp2_with fail
  refine (version_nil _).mono ?_
  rintro e w13 ⟨rfl, rfl⟩
  have CA13 := CA12
  have CP13 := CP12
  have B13 := B12
  go_wp2_with fail
  refine (fork_nil _).mono ?_
  rintro e w14 ⟨rfl, rfl⟩
  have CA14 := CA13
  have CP14 := CP13
  have B14 := B13
  go_wp2_with fail
  refine (awake_calls _).mono ?_
  rintro e w15 ⟨rfl, hb⟩
  clear k0 k1 k2 k3 k4 k5 q0 q1 q2 q3 la lb
  have CA15 := hid (CA14.out.below hb CA14.out.lt)
  have CP15 := hid (CP14.out.below hb CP14.out.lt)
  have B15 := hid (B14.out.trans (hb.mono B14.out.size))
  clear hb
  go_wp2
  go_ret
  exact ⟨rfl, B15.out⟩
end Go.Proofs.Ytnnbdjfeagcbdaa
