/- Behind run: the state of a law's walk. -/
import Derived.Test.YtdjhpldiifdifaaJLdo
namespace Go.Proofs.Ytdjhpldiifdifaa
set_option linter.unusedSimpArgs false
set_option linter.unusedVariables false
open Go.RowKit Go.Shelf

/-- Behind run: the state, the reference's box, and what has only been added since. -/
structure CtC (w w3 wr : World) (b r8 : Nat) (O : Nat → Nat) (G : Mm) (N : Nat) (last : Int) (vx : Value) (x : Rb) (i : Nat) : Prop where
  lk : LkS 0 w3 b O G N last vx x i
  hi : i ≤ 40
  c8 : Cells w3 r8 #[vx, .int .i64 x.nums, .int .i64 x.turn, .int .i64 x.paid] 49
  below : Below w.heap.size w w3
  low : ∀ k, k < w.heap.size → O k = 0
  now : Below w3.heap.size w3 wr
theorem CtC.after {w w3 wr w' : World} {b r8 : Nat} {O : Nat → Nat} {G : Mm} {N : Nat} {last : Int} {vx : Value} {x : Rb} {i : Nat} (h : CtC w w3 wr b r8 O G N last vx x i) (hb : Below wr.heap.size wr w') : CtC w w3 w' b r8 O G N last vx x i :=
  ⟨h.lk, h.hi, h.c8, h.below, h.low, h.now.trans (hb.mono h.now.size)⟩
theorem CtC.at {w w3 wr : World} {b r8 : Nat} {O : Nat → Nat} {G : Mm} {N : Nat} {last : Int} {vx : Value} {x : Rb} {i : Nat} (h : CtC w w3 wr b r8 O G N last vx x i) : LkS 0 wr b (grow O w3 0) G N last vx x i := h.lk.grow h.now
theorem CtC.cell {w w3 wr : World} {b r8 : Nat} {O : Nat → Nat} {G : Mm} {N : Nat} {last : Int} {vx : Value} {x : Rb} {i : Nat} (h : CtC w w3 wr b r8 O G N last vx x i) : wr.cell? ⟨r8, 0, none⟩ = some vx ∧ wr.cell? ⟨r8, 1, none⟩ = some (.int .i64 x.nums) ∧ wr.cell? ⟨r8, 2, none⟩ = some (.int .i64 x.turn) ∧ wr.cell? ⟨r8, 3, none⟩ = some (.int .i64 x.paid) ∧ r8 < wr.heap.size := by
  have c := h.c8.below h.now h.c8.lt
  refine ⟨?_, ?_, ?_, ?_, c.lt⟩ <;> (rw [c.cell]; rfl)
theorem CtC.out {w w3 wr : World} {b r8 : Nat} {O : Nat → Nat} {G : Mm} {N : Nat} {last : Int} {vx : Value} {x : Rb} {i : Nat} (h : CtC w w3 wr b r8 O G N last vx x i) : Below w.heap.size w wr := h.below.trans (h.now.mono h.below.size)

theorem side_mod (k : Int) : ∃ r : Int, (IntKind.u64.wrap k).tmod 2 = r ∧ IntKind.u64.wrap r = r ∧ IntKind.i64.wrap r = r ∧ IntKind.i64.wrap (1 + r) = 1 + r ∧ 0 ≤ r ∧ r < 2 := by
  have h := u64_nonneg k
  have h2 : 0 ≤ (IntKind.u64.wrap k).tmod 2 ∧ (IntKind.u64.wrap k).tmod 2 < 2 := by
    rw [Int.tmod_eq_emod_of_nonneg h]; omega
  exact ⟨_, rfl, IntWalk.u64_in _ (by omega), IntWalk.i64_in _ (by omega), IntWalk.i64_in _ (by omega), by omega⟩
end Go.Proofs.Ytdjhpldiifdifaa
