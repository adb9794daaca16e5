/- CallMore: the arguments opened. -/
import Derived.Test.YtjhelinbjlahiaaJMo1
import Derived.Test.YtjhelinbjlahiaaJLop
namespace Go.Proofs.Ytjhelinbjlahiaa.callMore
set_option linter.unusedSimpArgs false
set_option linter.unusedVariables false
open Go.RowKit Go.ChangeShapes Go.WideShapes

theorem two_leaves : leaves Try.prog 3 43 = some [.i64, .i64] := by kernel_rfl
theorem two {vs : List Value} (h : IntsK [.i64, .i64] vs) : ∃ a b : Int, vs = [.int .i64 a, .int .i64 b] := by
  obtain ⟨a, _, rfl, _, _, h⟩ := h.cons
  obtain ⟨b, _, rfl, _, _, h⟩ := h.cons
  obtain rfl := h.nil
  exact ⟨a, b, rfl⟩
set_option maxRecDepth 100000 in
theorem callMore_walk {H : Type} {enc : TypeId × Value → H} (W : World) (args : Array Value) (ds : List (DataW H)) (p : List MemPlace) {base : Nat}
    (hval : ∀ (j : Nat) t v, (#[22, 40, 43] : Array TypeId)[j]? = some t → args[j]? = some v → Value.okWide Try.prog W .any base t v)
    (hA : DataW.TrodAll enc Try.prog W 0 (fun _ => true) true [22, 40, 43] args.toList ds p) : Calls Try.prog 11 args W fun e w' => e = .returned (.bool true) ∧ Below W.heap.size W w' := by
  obtain ⟨v0, vs0, d0, ds0, p0, q0, hargs, rfl, rfl, h0, r0⟩ := trodAll_cons hA
  obtain ⟨v1, vs1, d1, ds1, p1, q1, rfl, rfl, rfl, h1, r1⟩ := trodAll_cons r0
  obtain ⟨v2, vs2, d2, ds2, p2, q2, rfl, rfl, rfl, h2, r2⟩ := trodAll_cons r1
  obtain ⟨rfl, rfl, rfl⟩ := trodAll_nil r2
  obtain rfl : args = #[v0, v1, v2] := by cases args; simp_all
  obtain ⟨l0, hl0⟩ := bids_open (hval 0 _ v0 rfl rfl) h0
  obtain ⟨b1, rfl⟩ := bid_open (hval 1 _ v1 rfl rfl) h1
  obtain ⟨cs2, rfl, hk2⟩ := open_flat two_leaves (fun k hk => by rw [Try.underlying43] at hk; cases hk) (hval 2 _ v2 rfl rfl) h2
  obtain ⟨a2, b2, he2⟩ := two hk2
  obtain rfl : cs2 = #[.int .i64 a2, .int .i64 b2] := by cases cs2; simp_all
  exact more_law W v0 l0 hl0 b1 a2 b2
end Go.Proofs.Ytjhelinbjlahiaa.callMore
