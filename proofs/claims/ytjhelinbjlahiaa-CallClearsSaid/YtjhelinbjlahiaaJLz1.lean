/- CallClears: the arguments opened. -/
import Derived.Test.YtjhelinbjlahiaaJLz0
import Derived.Test.YtjhelinbjlahiaaJLop
namespace Go.Proofs.Ytjhelinbjlahiaa.callClears
set_option linter.unusedSimpArgs false
set_option linter.unusedVariables false
open Go.RowKit Go.ChangeShapes Go.WideShapes

theorem two_leaves : leaves Try.prog 3 43 = some [.i64, .i64] := by kernel_rfl
theorem two {vs : List Value} (h : IntsK [.i64, .i64] vs) : ∃ a b : Int, vs = [.int .i64 a, .int .i64 b] := by
  obtain ⟨a, _, rfl, _, _, h⟩ := h.cons
  obtain ⟨b, _, rfl, _, _, h⟩ := h.cons
  obtain rfl := h.nil
  exact ⟨a, b, rfl⟩
set_option maxRecDepth 100000 in
theorem callClears_walk {H : Type} {enc : TypeId × Value → H} (W : World) (args : Array Value) (ds : List (DataW H)) (p : List MemPlace) {base : Nat}
    (hval : ∀ (j : Nat) t v, (#[22, 43, 3] : Array TypeId)[j]? = some t → args[j]? = some v → Value.okWide Try.prog W .any base t v)
    (hA : DataW.TrodAll enc Try.prog W 0 (fun _ => true) true [22, 43, 3] args.toList ds p) : Calls Try.prog 5 args W fun e w' => e = .returned (.bool true) ∧ Below W.heap.size W w' := by
  obtain ⟨v0, vs0, d0, ds0, p0, q0, hargs, rfl, rfl, h0, r0⟩ := trodAll_cons hA
  obtain ⟨v1, vs1, d1, ds1, p1, q1, rfl, rfl, rfl, h1, r1⟩ := trodAll_cons r0
  obtain ⟨v2, vs2, d2, ds2, p2, q2, rfl, rfl, rfl, h2, r2⟩ := trodAll_cons r1
  obtain ⟨rfl, rfl, rfl⟩ := trodAll_nil r2
  obtain rfl : args = #[v0, v1, v2] := by cases args; simp_all
  obtain ⟨l0, hl0⟩ := bids_open (hval 0 _ v0 rfl rfl) h0
  obtain ⟨cs1, rfl, hk1⟩ := open_flat two_leaves (fun k hk => by rw [Try.underlying43] at hk; cases hk) (hval 1 _ v1 rfl rfl) h1
  obtain ⟨a1, b1, he1⟩ := two hk1
  obtain rfl : cs1 = #[.int .i64 a1, .int .i64 b1] := by cases cs1; simp_all
  obtain ⟨x2, rfl, hx2⟩ := open_int Try.underlying3 (hval 2 _ v2 rfl rfl) h2
  exact clears_law W v0 l0 hl0 a1 b1 x2
end Go.Proofs.Ytjhelinbjlahiaa.callClears
