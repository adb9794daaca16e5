/- BoardFronts: the arguments opened. -/
import Derived.Test.YtdjhpldiifdifaaJFro2
import Derived.Test.YtdjhpldiifdifaaJOpen
namespace Go.Proofs.Ytdjhpldiifdifaa.boardFronts
set_option linter.unusedSimpArgs false
set_option linter.unusedVariables false
open Go.RowKit Go.ChangeShapes Go.WideShapes

theorem od_leaves : leaves Try.prog 3 27 = some [.i64, .i64, .i64, .i64, .i64, .i64, .i64, .i64] := by kernel_rfl
theorem eight {vs : List Value} (h : IntsK [.i64, .i64, .i64, .i64, .i64, .i64, .i64, .i64] vs) : ∃ o : Od, vs = o.vals.toList ∧ o.q ≤ 9223372036854775807 := by
  obtain ⟨a, _, rfl, _, _, h⟩ := h.cons
  obtain ⟨b, _, rfl, _, _, h⟩ := h.cons
  obtain ⟨c, _, rfl, _, _, h⟩ := h.cons
  obtain ⟨d, _, rfl, _, _, h⟩ := h.cons
  obtain ⟨e, _, rfl, _, _, h⟩ := h.cons
  obtain ⟨f, _, rfl, _, _, h⟩ := h.cons
  obtain ⟨g, _, rfl, _, g2, h⟩ := h.cons
  obtain ⟨k, _, rfl, _, _, h⟩ := h.cons
  obtain rfl := h.nil
  exact ⟨⟨a, b, c, d, e, f, g, k⟩, rfl, g2⟩
set_option maxRecDepth 100000 in
theorem boardFronts_walk {H : Type} {enc : TypeId × Value → H} (W : World) (args : Array Value) (ds : List (DataW H)) (p : List MemPlace) {base : Nat}
    (hval : ∀ (j : Nat) t v, (#[22, 27] : Array TypeId)[j]? = some t → args[j]? = some v → Value.okWide Try.prog W .any base t v)
    (hA : DataW.TrodAll enc Try.prog W 0 (fun _ => true) true [22, 27] args.toList ds p) : Calls Try.prog 5 args W fun e w' => e = .returned (.bool true) ∧ Below W.heap.size W w' := by
  obtain ⟨v0, vs0, d0, ds0, p0, q0, hargs, rfl, rfl, h0, r0⟩ := trodAll_cons hA
  obtain ⟨v1, vs1, d1, ds1, p1, q1, rfl, rfl, rfl, h1, r1⟩ := trodAll_cons r0
  obtain ⟨rfl, rfl, rfl⟩ := trodAll_nil r1
  obtain rfl : args = #[v0, v1] := by cases args; simp_all
  obtain ⟨l, hl, hok⟩ := acts_open (hval 0 _ v0 rfl rfl) h0
  obtain ⟨cs, rfl, hk⟩ := open_flat od_leaves (fun k hk => by rw [Try.underlying27] at hk; cases hk) (hval 1 _ v1 rfl rfl) h1
  obtain ⟨o, he, hq⟩ := eight hk
  obtain rfl : cs = o.vals := by cases cs; simp_all
  exact fronts_calls W v0 l hl hok o hq
end Go.Proofs.Ytdjhpldiifdifaa.boardFronts
