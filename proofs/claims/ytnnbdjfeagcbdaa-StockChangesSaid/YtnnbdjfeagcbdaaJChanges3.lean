/- StockChanges: the arguments opened. -/
import Derived.Test.YtnnbdjfeagcbdaaJChangesL
namespace Go.Proofs.Ytnnbdjfeagcbdaa.stockChanges
set_option linter.unusedSimpArgs false
set_option linter.unusedVariables false
open Go.RowKit Go.ChangeShapes Go.WideShapes

theorem of_leaves : leaves Try.prog 3 92 = some [.i64, .i64] := by kernel_rfl
theorem two {vs : List Value} (h : IntsK [.i64, .i64] vs) : ∃ a b, vs = [.int .i64 a, .int .i64 b] := by
  obtain ⟨a, _, rfl, _, _, h⟩ := h.cons
  obtain ⟨b, _, rfl, _, _, h⟩ := h.cons
  obtain rfl := h.nil
  exact ⟨a, b, rfl⟩
set_option maxRecDepth 100000 in
theorem stockChanges_walk {H : Type} {enc : TypeId × Value → H} (W : World) (args : Array Value) (ds : List (DataW H)) (p : List MemPlace) {base : Nat}
    (hval : ∀ (j : Nat) t v, (#[33, 92] : Array TypeId)[j]? = some t → args[j]? = some v → Value.okWide Try.prog W .any base t v)
    (hA : DataW.TrodAll enc Try.prog W 0 (fun _ => true) true [33, 92] args.toList ds p) : Calls Try.prog 9 args W fun e w' => e = .returned (.bool true) ∧ Below W.heap.size W w' := by
  obtain ⟨v0, vs0, d0, ds0, p0, q0, hargs, rfl, rfl, h0, r0⟩ := trodAll_cons hA
  obtain ⟨v1, vs1, d1, ds1, p1, q1, rfl, rfl, rfl, h1, r1⟩ := trodAll_cons r0
  obtain ⟨rfl, rfl, rfl⟩ := trodAll_nil r1
  obtain rfl : args = #[v0, v1] := by cases args; simp_all
  obtain ⟨l, hl⟩ := acts_open (hval 0 _ v0 rfl rfl) h0
  obtain ⟨cs, rfl, hk4⟩ := open_flat of_leaves (fun k hk => by rw [Try.underlying92] at hk; cases hk) (hval 1 _ v1 rfl rfl) h1
  obtain ⟨a, b, he⟩ := two hk4
  obtain rfl : cs = #[.int .i64 a, .int .i64 b] := by cases cs; simp_all
  exact changes_calls W v0 l hl a b
end Go.Proofs.Ytnnbdjfeagcbdaa.stockChanges
