/- small, tame: any call as one on the first pockets. -/
import Derived.Test.YtnnbdjfeagcbdaaJAll
namespace Go.Proofs.Ytnnbdjfeagcbdaa
set_option linter.unusedSimpArgs false
set_option linter.unusedVariables false
open Go.RowKit Go.Shelf
attribute [local go_sem] Oper.semAt_some
attribute [local go_sem ↓] Go.wp_at_zero Go.wp_at_succ

/-- A number from 1 to k. -/
def tam (k x : Int) : Int := 1 + (IntKind.u64.wrap x) % k
theorem u64_nonneg (x : Int) : 0 ≤ IntKind.u64.wrap x := by simp only [IntKind.wrap, IntKind.signed, IntKind.bits]; simp; omega
theorem tam_range (k x : Int) (hk : 0 < k) : 1 ≤ tam k x ∧ tam k x ≤ k := by
  unfold tam
  have h1 := Int.emod_nonneg (IntKind.u64.wrap x) (by omega : k ≠ 0)
  have h2 := Int.emod_lt_of_pos (IntKind.u64.wrap x) hk
  omega
theorem rem_mod (k x : Int) : (IntKind.u64.wrap x).tmod k = (IntKind.u64.wrap x) % k := Int.tmod_eq_emod_of_nonneg (u64_nonneg x)

theorem tam_i64 (k x : Int) (hk : 0 < k) (hk2 : k ≤ 1000) : IntKind.i64.wrap ((IntKind.u64.wrap x).tmod k) = tam k x - 1 ∧ IntKind.i64.wrap (1 + (tam k x - 1)) = tam k x := by
  have h := tam_range k x hk
  have e : (IntKind.u64.wrap x).tmod k = tam k x - 1 := by rw [rem_mod]; unfold tam; omega
  rw [e]
  have h1 : IntKind.i64.wrap (tam k x - 1) = tam k x - 1 := IntWalk.i64_in _ (by omega)
  have h2 : IntKind.i64.wrap (1 + (tam k x - 1)) = 1 + (tam k x - 1) := IntWalk.i64_in _ (by omega)
  exact ⟨h1, by rw [h2]; omega⟩
theorem tam_wraps (k x : Int) (hk : 0 < k) (hk2 : k ≤ 1000) : wrap64 ((IntKind.u64.wrap x).tmod k) = tam k x - 1 ∧ wrap64 (1 + (tam k x - 1)) = tam k x := by
  have h := tam_i64 k x hk hk2
  simp only [IntKind.wrap_i64] at h
  unfold wrap64
  exact h

set_option maxRecDepth 100000 in
set_option maxHeartbeats 1000000 in
theorem small_calls (a c : Int) (w : World) : Calls Try.prog 51 #[.agg #[.int .i64 a, .int .i64 c]] w fun e w' => e = .returned (.agg #[.int .i64 (tam 60 a), .int .i64 (tam 15 c)]) ∧ Below w.heap.size w w' := by
  have l1 : w.heap.size < w.heap.size + 1 + 1 := by omega
  obtain ⟨p1, p2⟩ := tam_wraps 60 a (by omega) (by omega)
  obtain ⟨q1, q2⟩ := tam_wraps 15 c (by omega) (by omega)
  go_enter Try.func51, Try.ntmps51
  go_wp2
  refine bodyPost_ret (v := .agg #[.int .i64 (tam 60 a), .int .i64 (tam 15 c)]) (by simp [results, Try.results51, go_sem]) rfl ⟨rfl, ?_⟩
  repeat (first | exact Below.refl _ _ | refine Below.setCell ?_ (by simp; try omega) _ | refine Below.alloc ?_ (by simp; try omega) _)

set_option maxRecDepth 100000 in
set_option maxHeartbeats 2000000 in
theorem tame_calls (k f c l a b : Int) (w : World) : Calls Try.prog 18 #[.agg #[.int .i64 k, .int .i64 f, .int .i64 c, .int .i64 l, .int .i64 a, .int .i64 b]] w fun e w' =>
    e = .returned (.agg #[.int .i64 k, .int .i64 (tam 60 f), .int .i64 (tam 15 c), .int .i64 (tam 3 l), .int .i64 (tam 4 a), .int .i64 (tam 4 b)]) ∧ Below w.heap.size w w' := by
  have l1 : w.heap.size < w.heap.size + 1 + 1 := by omega
  have hx1 := tam_i64 3 l (by omega) (by omega)
  have hx2 := tam_i64 4 a (by omega) (by omega)
  have hx3 := tam_i64 4 b (by omega) (by omega)
  obtain ⟨p1, p2⟩ := hx1
  obtain ⟨q1, q2⟩ := hx2
  obtain ⟨r1, r2⟩ := hx3
  have C0 := hid (((Cells.new w #[.int .i64 k, .int .i64 f, .int .i64 c, .int .i64 l, .int .i64 a, .int .i64 b] 39).alloc (.cells #[.int .i64 0, .int .i64 0, .int .i64 0, .int .i64 0, .int .i64 0, .int .i64 0] 39)))
  have C1 := hid (show Cells ((w.alloc (.cells #[.int .i64 k, .int .i64 f, .int .i64 c, .int .i64 l, .int .i64 a, .int .i64 b] 39)).alloc (.cells #[.int .i64 0, .int .i64 0, .int .i64 0, .int .i64 0, .int .i64 0, .int .i64 0] 39)) (w.heap.size + 1) #[.int .i64 0, .int .i64 0, .int .i64 0, .int .i64 0, .int .i64 0, .int .i64 0] 39 by
    have := Cells.new (w.alloc (.cells #[.int .i64 k, .int .i64 f, .int .i64 c, .int .i64 l, .int .i64 a, .int .i64 b] 39)) #[.int .i64 0, .int .i64 0, .int .i64 0, .int .i64 0, .int .i64 0, .int .i64 0] 39
    rwa [World.size_alloc] at this)
  go_enter Try.func18, Try.ntmps18
  go_wp2
  go_region_held3 (fun w' => (w'.cell? ⟨w.heap.size, 0, none⟩ = some (.int .i64 k) ∧ w'.cell? ⟨w.heap.size, 1, none⟩ = some (.int .i64 f) ∧ w'.cell? ⟨w.heap.size, 2, none⟩ = some (.int .i64 c) ∧ w'.cell? ⟨w.heap.size, 3, none⟩ = some (.int .i64 l) ∧ w'.cell? ⟨w.heap.size, 4, none⟩ = some (.int .i64 a) ∧ w'.cell? ⟨w.heap.size, 5, none⟩ = some (.int .i64 b))) (go_keep)
    (first
      | ((with_reducible refine (small_calls f c _).mono ?_); rintro e w1 ⟨rfl, hb1⟩; obtain ⟨hc1, hf1⟩ := bcell hb1; have lo1 : w.heap.size + 1 + 1 ≤ w1.heap.size := (by have := hb1.size; (try simp at this); omega)))
  have hs := ((((((C1.out.drew.below hb1 (by simp)).set 0 (.int .i64 k)).set 1 (.int .i64 (tam 60 f))).set 2 (.int .i64 (tam 15 c))).set 3 (.int .i64 (tam 3 l))).set 4 (.int .i64 (tam 4 a))).set 5 (.int .i64 (tam 4 b))
  have bb : Below w.heap.size w w1 := Below.trans (by repeat (first | exact Below.refl _ _ | refine Below.drew ?_ | refine Below.alloc ?_ (by simp; try omega) _)) (hb1.mono (by simp; omega))
  have hf2 := hs.cell
  clear hc1 hf1
  go_wp2
  refine bodyPost_ret (v := .agg #[.int .i64 k, .int .i64 (tam 60 f), .int .i64 (tam 15 c), .int .i64 (tam 3 l), .int .i64 (tam 4 a), .int .i64 (tam 4 b)]) (by simp [results, Try.results18, go_sem, hs.cell]) rfl ⟨rfl, ?_⟩
  repeat (first | exact bb | refine Below.setCell ?_ (by simp; try omega) _)
end Go.Proofs.Ytnnbdjfeagcbdaa
