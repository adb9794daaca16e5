/- StockAlphas: the arguments opened. -/
import Derived.Test.YtnnbdjfeagcbdaaAlphas
namespace Go.Proofs.Ytnnbdjfeagcbdaa.stockAlphas
set_option linter.unusedSimpArgs false
set_option linter.unusedVariables false
open Go.RowKit Go.ChangeShapes Go.WideShapes

theorem test_leaves : leaves Try.prog 3 73 = some [.i64, .i64] := by kernel_rfl
theorem test_cells : Try.prog.cellsOf 73 = 2 := by kernel_rfl
theorem of_leaves : leaves Try.prog 3 69 = some [.i64, .i64, .i64, .i64] := by kernel_rfl
theorem two {vs : List Value} (h : IntsK [.i64, .i64] vs) : ∃ x : Int × Int, True ∧ vs = encT x := by
  obtain ⟨a, _, rfl, _, _, h⟩ := h.cons
  obtain ⟨b, _, rfl, _, _, h⟩ := h.cons
  obtain rfl := h.nil
  exact ⟨(a, b), trivial, rfl⟩
theorem four {vs : List Value} (h : IntsK [.i64, .i64, .i64, .i64] vs) : ∃ a b c d, vs = [.int .i64 a, .int .i64 b, .int .i64 c, .int .i64 d] := by
  obtain ⟨a, _, rfl, _, _, h⟩ := h.cons
  obtain ⟨b, _, rfl, _, _, h⟩ := h.cons
  obtain ⟨c, _, rfl, _, _, h⟩ := h.cons
  obtain ⟨d, _, rfl, _, _, h⟩ := h.cons
  obtain rfl := h.nil
  exact ⟨a, b, c, d, rfl⟩
set_option maxRecDepth 100000 in
theorem stockAlphas_walk {H : Type} {enc : TypeId × Value → H} (W : World) (args : Array Value) (ds : List (DataW H)) (p : List MemPlace) {base : Nat}
    (hval : ∀ (j : Nat) t v, (#[68, 69] : Array TypeId)[j]? = some t → args[j]? = some v → Value.okWide Try.prog W .any base t v)
    (hA : DataW.TrodAll enc Try.prog W 0 (fun _ => true) true [68, 69] args.toList ds p) : Calls Try.prog 7 args W fun e w' => e = .returned (.bool true) ∧ Below W.heap.size W w' := by
  obtain ⟨v0, vs0, d0, ds0, p0, q0, hargs, rfl, rfl, h0, r0⟩ := trodAll_cons hA
  obtain ⟨v1, vs1, d1, ds1, p1, q1, rfl, rfl, rfl, h1, r1⟩ := trodAll_cons r0
  obtain ⟨rfl, rfl, rfl⟩ := trodAll_nil r1
  obtain rfl : args = #[v0, v1] := by cases args; simp_all
  obtain ⟨rows, hk, hr⟩ := open_rows Try.underlying68 test_leaves test_cells (by decide) (hval 0 _ v0 rfl rfl) h0
  obtain ⟨xs, rfl, _⟩ := map_of_rows rows (fun r hr => two (hk r hr))
  obtain ⟨cs, rfl, hk4⟩ := open_flat of_leaves (fun k hk => by rw [Try.underlying69] at hk; cases hk) (hval 1 _ v1 rfl rfl) h1
  obtain ⟨a, b, c, d, he⟩ := four hk4
  obtain rfl : cs = #[.int .i64 a, .int .i64 b, .int .i64 c, .int .i64 d] := by cases cs; simp_all
  exact alphas_calls W v0 xs (reads_map xs hr) a b c d
end Go.Proofs.Ytnnbdjfeagcbdaa.stockAlphas
