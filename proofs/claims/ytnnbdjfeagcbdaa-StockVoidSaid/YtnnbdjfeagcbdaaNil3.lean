/- More questions to a nil register. -/
import Derived.Test.YtnnbdjfeagcbdaaNil2
namespace Go.Proofs.Ytnnbdjfeagcbdaa
set_option linter.unusedSimpArgs false
set_option linter.unusedVariables false
open Go.RowKit Go.Shelf
attribute [local go_sem] Oper.semAt_some
attribute [local go_sem ↓] Go.wp_at_zero Go.wp_at_succ

set_option maxRecDepth 100000 in
set_option maxHeartbeats 1000000 in
theorem count_nil (o v : Int) (w : World) : Calls Try.prog 27 #[.pointer none, .int .i64 o, .int .i64 v] w fun e w' => e = .returned (.tuple #[.int .i64 0, .int .i64 3]) ∧ Below w.heap.size w w' := by
  go_enter Try.func27, Try.ntmps27
  go_wp2_with fail
  refine (holds_nil o v w).mono ?_
  rintro e w1 ⟨rfl, hb1⟩
  have B1 := hid hb1
  clear hb1
  go_wp2
  refine wp_loop_rounds 1 ?_
  rw [rounds_succ]
  go_wp2
  refine bodyPost_ret (v := .tuple #[.int .i64 0, .int .i64 3]) (by simp [results, Try.results27, go_sem]) rfl ⟨rfl, B1.out⟩

set_option maxRecDepth 100000 in
set_option maxHeartbeats 1000000 in
theorem pocket_nil (n v : Int) (w : World) : Calls Try.prog 28 #[.pointer none, .int .i64 n, .int .i64 v] w fun e w' => e = .returned (.tuple #[.agg #[.int .i64 0, .int .i64 0, .int .i64 0, .int .i64 0], .int .i64 3]) ∧ Below w.heap.size w w' := by
  have C0 := hid ((Cells.new w #[.int .i64 0, .int .i64 0, .int .i64 0, .int .i64 0] 52).alloc (.cells #[.int .i64 n] 3))
  have I1 := hid (show IntsAt ((w.alloc (.cells #[.int .i64 0, .int .i64 0, .int .i64 0, .int .i64 0] 52)).alloc (.cells #[.int .i64 n] 3)) (.slice (some ⟨w.heap.size + 1, 0, none⟩) 1 1) [n] by
    have := ints_one (w.alloc (.cells #[.int .i64 0, .int .i64 0, .int .i64 0, .int .i64 0] 52)) n 3
    rwa [World.size_alloc] at this)
  go_enter Try.func28, Try.ntmps28
  go_wp2_with fail
  refine (are_calls 1000000 _ _ [n] I1.out).mono ?_
  rintro e w1 ⟨rfl, hb1⟩
  have B1 := hid (Below.trans (by repeat (first | exact Below.refl _ _ | refine Below.alloc ?_ (by first | omega | (simp; try omega)) _)) (hb1.mono (by simp; try omega)) : Below w.heap.size w w1)
  have C1 := hid (C0.out.below hb1 C0.out.lt)
  clear hb1
  go_wp2_with fail
  refine (at_nil v _ w1).mono ?_
  rintro e w2 ⟨rfl, rfl⟩
  have k0 : w2.cell? ⟨w.heap.size, 0, none⟩ = some (.int .i64 0) := by simp [C1.out.cell]
  have k1 : w2.cell? ⟨w.heap.size, 1, none⟩ = some (.int .i64 0) := by simp [C1.out.cell]
  have k2 : w2.cell? ⟨w.heap.size, 2, none⟩ = some (.int .i64 0) := by simp [C1.out.cell]
  have k3 : w2.cell? ⟨w.heap.size, 3, none⟩ = some (.int .i64 0) := by simp [C1.out.cell]
  have fz : ∀ j, w2.frozen? ⟨w.heap.size, j, none⟩ = false := fun j => C1.out.frozen j
  have lz := C1.out.lt
  go_wp2
  have hs := (((C1.out.set 0 (.int .i64 0)).set 1 (.int .i64 0)).set 2 (.int .i64 0)).set 3 (.int .i64 0)
  refine bodyPost_ret (v := .tuple #[.agg #[.int .i64 0, .int .i64 0, .int .i64 0, .int .i64 0], .int .i64 3]) (by simp [results, Try.results28, go_sem, hs.cell]) rfl ⟨rfl, ?_⟩
  have hB := B1.out
  repeat (first | exact hB | refine Below.setCell ?_ (by simp) _)

set_option maxRecDepth 100000 in
set_option maxHeartbeats 1000000 in
theorem find_nil (a b c : Int) (w : World) : Calls Try.prog 39 #[.pointer none, .int .i64 a, .int .i64 b, .int .i64 c] w fun e w' => e = .returned (.tuple #[.slice none 0 0, .int .i64 3]) ∧ Below w.heap.size w w' := by
  obtain ⟨F, hFe⟩ : ∃ F, F = Fence.wide := ⟨_, rfl⟩
  have hF : Free F Try.prog := hFe ▸ free_wide _
  have hro : F.round = none := by rw [hFe]; rfl
  have FE := hid hFe
  clear hFe
  refine (callsIn_wide (n := 6)).1 ?_
  rw [← FE.out]
  refine callsIn_of_wp_marks Try.func39 rfl (hF.fn _) ?_ hro
  rw [FE.out]
  refine wpIn_wide.2 ?_
  simp only [Try.ntmps39, List.size_toArray, List.length_cons, List.length_nil, Nat.reduceAdd, Nat.reduceSub, Array.replicate_succ, Array.replicate_zero, List.push_toArray, List.append_toArray, List.nil_append, List.cons_append]
  have l1 : w.heap.size < w.heap.size + 1 + 1 := by omega
  go_wp2
  refine ⟨.tuple #[.slice none 0 0, .int .i64 3], by simp [results, Try.results39, go_sem], rfl, ?_⟩
  repeat (first | exact Below.refl _ _ | refine Below.setCell ?_ (by simp; try omega) _ | refine Below.alloc ?_ (by simp; try omega) _)

set_option maxRecDepth 100000 in
set_option maxHeartbeats 1000000 in
theorem changed_nil (a b : Int) (w : World) : Calls Try.prog 42 #[.pointer none, .int .i64 a, .int .i64 b] w fun e w' => e = .returned (.tuple #[.slice none 0 0, .int .i64 3]) ∧ w' = w := by
  go_enter Try.func42, Try.ntmps42
  go_wp2_with fail
  refine (at_nil a _ w).mono ?_
  rintro e w2 ⟨rfl, rfl⟩
  go_wp2
  refine bodyPost_ret (v := .tuple #[.slice none 0 0, .int .i64 3]) (by simp [results, Try.results42, go_sem]) rfl ⟨rfl, rfl⟩
end Go.Proofs.Ytnnbdjfeagcbdaa
