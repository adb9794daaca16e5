/- A list of calls as the laws' argument. -/
import Derived.Test.YtnnbdjfeagcbdaaTame
import Derived.Test.YtnnbdjfeagcbdaaRow
import Derived.Test.YtnnbdjfeagcbdaaOpen
namespace Go.Proofs.Ytnnbdjfeagcbdaa
set_option linter.unusedSimpArgs false
set_option linter.unusedVariables false
open Go.RowKit Go.ChangeShapes Go.WideShapes

/-- A call as the laws have it. -/
structure Ac where
  k : Int
  f : Int
  c : Int
  l : Int
  a : Int
  b : Int
def encA (x : Ac) : List Value := [.int .i64 x.k, .int .i64 x.f, .int .i64 x.c, .int .i64 x.l, .int .i64 x.a, .int .i64 x.b]
theorem encA_len (x : Ac) : (encA x).length = 6 := rfl
theorem kind_mod (k : Int) : ∃ r : Int, (IntKind.u64.wrap k).tmod 8 = r ∧ IntKind.u64.wrap r = r ∧ (r = 0 ∨ r = 1 ∨ r = 2 ∨ r = 3 ∨ r = 4 ∨ r = 5 ∨ r = 6 ∨ r = 7) := by
  have h : 0 ≤ (IntKind.u64.wrap k).tmod 8 ∧ (IntKind.u64.wrap k).tmod 8 < 8 := by
    have := tam_range 8 k (by omega)
    rw [rem_mod]; unfold tam at this; omega
  exact ⟨_, rfl, IntWalk.u64_in _ (by omega), by omega⟩
theorem act_leaves : leaves Try.prog 3 39 = some [.i64, .i64, .i64, .i64, .i64, .i64] := by kernel_rfl
theorem act_cells : Try.prog.cellsOf 39 = 6 := by kernel_rfl
theorem six_act {vs : List Value} (h : IntsK [.i64, .i64, .i64, .i64, .i64, .i64] vs) : ∃ x : Ac, True ∧ vs = encA x := by
  obtain ⟨a, _, rfl, _, _, h⟩ := h.cons
  obtain ⟨b, _, rfl, _, _, h⟩ := h.cons
  obtain ⟨c, _, rfl, _, _, h⟩ := h.cons
  obtain ⟨d, _, rfl, _, _, h⟩ := h.cons
  obtain ⟨e, _, rfl, _, _, h⟩ := h.cons
  obtain ⟨f, _, rfl, _, _, h⟩ := h.cons
  obtain rfl := h.nil
  exact ⟨⟨a, b, c, d, e, f⟩, trivial, rfl⟩
set_option maxRecDepth 100000 in
/-- The argument opened. -/
theorem acts_open {H : Type} {enc : TypeId × Value → H} {w : World} {base : Nat} {spare : Nat → Bool} {held : Bool} {r : Reach} {b0 : Nat} {v : Value} {d : DataW H} {p : List MemPlace}
    (hv : Value.okWide Try.prog w r b0 33 v) (h : DataW.Trod enc Try.prog w base spare held 33 v d p) : ∃ l : List Ac, ReadsE encA 6 w v l := by
  obtain ⟨rows, hk, hr⟩ := open_rows Try.underlying33 act_leaves act_cells (by decide) hv h
  obtain ⟨xs, rfl, _⟩ := map_of_rows rows (fun r hr => six_act (hk r hr))
  exact ⟨xs, reads_map xs hr⟩
end Go.Proofs.Ytnnbdjfeagcbdaa
