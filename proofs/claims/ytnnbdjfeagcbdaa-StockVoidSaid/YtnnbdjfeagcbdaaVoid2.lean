/- StockVoid: the arguments opened. -/
import Derived.Test.YtnnbdjfeagcbdaaVoid
import Derived.Test.YtnnbdjfeagcbdaaOpen
namespace Go.Proofs.Ytnnbdjfeagcbdaa.stockVoid
set_option linter.unusedSimpArgs false
set_option linter.unusedVariables false
open Go.RowKit Go.ChangeShapes Go.WideShapes

theorem act_leaves : leaves Try.prog 3 39 = some [.i64, .i64, .i64, .i64, .i64, .i64] := by kernel_rfl
theorem six {vs : List Value} (h : IntsK [.i64, .i64, .i64, .i64, .i64, .i64] vs) : ∃ a b c d e f, vs = [.int .i64 a, .int .i64 b, .int .i64 c, .int .i64 d, .int .i64 e, .int .i64 f] := by
  obtain ⟨a, _, rfl, _, _, h⟩ := h.cons
  obtain ⟨b, _, rfl, _, _, h⟩ := h.cons
  obtain ⟨c, _, rfl, _, _, h⟩ := h.cons
  obtain ⟨d, _, rfl, _, _, h⟩ := h.cons
  obtain ⟨e, _, rfl, _, _, h⟩ := h.cons
  obtain ⟨f, _, rfl, _, _, h⟩ := h.cons
  obtain rfl := h.nil
  exact ⟨a, b, c, d, e, f, rfl⟩
set_option maxRecDepth 100000 in
theorem stockVoid_walk {H : Type} {enc : TypeId × Value → H} (W : World) (args : Array Value) (ds : List (DataW H)) (p : List MemPlace) {base : Nat}
    (hval : ∀ (j : Nat) t v, (#[39, 3] : Array TypeId)[j]? = some t → args[j]? = some v → Value.okWide Try.prog W .any base t v)
    (hA : DataW.TrodAll enc Try.prog W 0 (fun _ => true) true [39, 3] args.toList ds p) : Calls Try.prog 12 args W fun e w' => e = .returned (.bool true) ∧ Below W.heap.size W w' := by
  obtain ⟨v0, vs0, d0, ds0, p0, q0, hargs, rfl, rfl, h0, r0⟩ := trodAll_cons hA
  obtain ⟨v1, vs1, d1, ds1, p1, q1, rfl, rfl, rfl, h1, r1⟩ := trodAll_cons r0
  obtain ⟨rfl, rfl, rfl⟩ := trodAll_nil r1
  obtain rfl : args = #[v0, v1] := by cases args; simp_all
  obtain ⟨cs, rfl, hk⟩ := open_flat act_leaves (fun k hk => by rw [Try.underlying39] at hk; cases hk) (hval 0 _ v0 rfl rfl) h0
  obtain ⟨v, rfl, _⟩ := open_int Try.underlying3 (hval 1 _ v1 rfl rfl) h1
  obtain ⟨a, b, c, d, e, f, he⟩ := six hk
  obtain rfl : cs = #[.int .i64 a, .int .i64 b, .int .i64 c, .int .i64 d, .int .i64 e, .int .i64 f] := by cases cs; simp_all
  exact void_calls a b c d e f v W
end Go.Proofs.Ytnnbdjfeagcbdaa.stockVoid
