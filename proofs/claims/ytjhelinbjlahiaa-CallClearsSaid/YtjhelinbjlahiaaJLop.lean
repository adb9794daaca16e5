/- The laws' arguments opened. -/
import Derived.Test.YtjhelinbjlahiaaJLh0
namespace Go.Proofs.Ytjhelinbjlahiaa
set_option linter.unusedSimpArgs false
set_option linter.unusedVariables false
open Go.RowKit Go.ChangeShapes Go.WideShapes Go.Deep
theorem bid_leaves : leaves Try.prog 3 40 = some [.i64, .i64, .i64] := by kernel_rfl
theorem bid_cells : Try.prog.cellsOf 40 = 3 := by kernel_rfl
theorem i64_leaves : leaves Try.prog 3 2 = some [.i64] := by kernel_rfl
theorem i64_cells : Try.prog.cellsOf 2 = 1 := by kernel_rfl
theorem three_bid {vs : List Value} (h : IntsK [.i64, .i64, .i64] vs) : ∃ b : Bd, True ∧ vs = encBd b := by
  obtain ⟨a, _, rfl, _, _, h⟩ := h.cons
  obtain ⟨b, _, rfl, _, _, h⟩ := h.cons
  obtain ⟨c, _, rfl, _, _, h⟩ := h.cons
  obtain rfl := h.nil
  exact ⟨⟨a, b, c⟩, trivial, rfl⟩
theorem one_int {vs : List Value} (h : IntsK [.i64] vs) : ∃ x : Int, True ∧ vs = encI x := by
  obtain ⟨a, _, rfl, _, _, h⟩ := h.cons
  obtain rfl := h.nil
  exact ⟨a, trivial, rfl⟩
section
variable {H : Type} {enc : TypeId × Value → H} {w : World} {base : Nat} {spare : Nat → Bool} {held : Bool} {r : Reach} {b0 : Nat} {v : Value} {d : DataW H} {p : List MemPlace}
set_option maxRecDepth 100000 in
theorem bids_open (hv : Value.okWide Try.prog w r b0 22 v) (h : DataW.Trod enc Try.prog w base spare held 22 v d p) : ∃ l : List Bd, ArgE encBd 3 w v l := by
  obtain ⟨rows, hk, hr, hf⟩ := open_rows Try.underlying22 bid_leaves bid_cells (by decide) hv h
  obtain ⟨xs, rfl, _⟩ := map_of_rows rows (fun r hr => three_bid (hk r hr))
  exact ⟨xs, reads_map xs hr, hf⟩
set_option maxRecDepth 100000 in
theorem ints_open (hv : Value.okWide Try.prog w r b0 24 v) (h : DataW.Trod enc Try.prog w base spare held 24 v d p) : ∃ l : List Int, ArgE encI 1 w v l := by
  obtain ⟨rows, hk, hr, hf⟩ := open_rows Try.underlying24 i64_leaves i64_cells (by decide) hv h
  obtain ⟨xs, rfl, _⟩ := map_of_rows rows (fun r hr => one_int (hk r hr))
  exact ⟨xs, reads_map xs hr, hf⟩
set_option maxRecDepth 100000 in
theorem bid_open (hv : Value.okWide Try.prog w r b0 40 v) (h : DataW.Trod enc Try.prog w base spare held 40 v d p) : ∃ b : Bd, v = .agg #[.int .i64 b.s, .int .i64 b.p, .int .i64 b.q] := by
  obtain ⟨cs, rfl, hk⟩ := open_flat bid_leaves (fun k hk => by rw [Try.underlying40] at hk; cases hk) hv h
  obtain ⟨b, _, e⟩ := three_bid hk
  refine ⟨b, ?_⟩
  cases cs
  simp only [encBd] at e
  simp_all
end
end Go.Proofs.Ytjhelinbjlahiaa
