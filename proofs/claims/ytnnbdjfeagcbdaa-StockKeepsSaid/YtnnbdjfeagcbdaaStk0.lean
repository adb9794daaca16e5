/- The last version of a register; each. -/
import Derived.Test.YtnnbdjfeagcbdaaVis2
namespace Go.Proofs.Ytnnbdjfeagcbdaa
set_option linter.unusedSimpArgs false
set_option linter.unusedVariables false
open Go.RowKit Go.Shelf

/-- The register at block sB: its last version is the tree t. -/
def NowAt (w : World) (sB : Nat) (t : T) : Prop :=
  ∃ (vB k cap : Nat) (p : Option Addr), Cells w sB #[.slice (some ⟨vB, 0, none⟩) (k + 1) cap] 121 ∧ k ≤ 1000000 ∧ w.cell? ⟨vB, k, none⟩ = some (.pointer p) ∧ TreeAt w p t
theorem NowAt.below {w w' : World} {sB : Nat} {t : T} (h : NowAt w sB t) (hb : Below w.heap.size w w') : NowAt w' sB t := by
  obtain ⟨vB, k, cap, p, hc, hk, hv, ht⟩ := h
  exact ⟨vB, k, cap, p, hc.below hb hc.lt, hk, (hb.cell (p := ⟨vB, k, none⟩) (World.block_lt_of_cell? _ _ hv)).trans hv, ht.below hb⟩

set_option maxRecDepth 100000 in
set_option maxHeartbeats 2000000 in
theorem now_calls (w : World) (sB : Nat) (t : T) (h : NowAt w sB t) :
    Calls Try.prog 85 #[.pointer (some ⟨sB, 0, none⟩)] w fun e w' => ∃ p, e = .returned (.pointer p) ∧ TreeAt w' p t ∧ Below w.heap.size w w' := by
  obtain ⟨vB, k, cap, p, hc, hk, hv, ht⟩ := h
  have h0 : w.cell? ⟨sB, 0, none⟩ = some (.slice (some ⟨vB, 0, none⟩) (k + 1) cap) := by simp [hc.cell]
  have hw1 : IntKind.i64.wrap ((k : Int) + 1 - 1) = (k : Int) := by rw [IntWalk.i64_in _ (by omega)]; omega
  have HT := hid ht
  clear hc ht
  have i1 : (0 : Int) ≤ (k : Int) := by omega
  have i2 : (k : Int) < (k : Int) + 1 := by omega
  go_enter Try.func85, Try.ntmps85
  go_wp2
  go_quiet (fail)
  go_wp2
  go_ret
  exact ⟨p, rfl, HT.out.below (below_drewN (Below.refl _ _) _), below_drewN (Below.refl _ _) _⟩
/-- The iterator value that within makes. -/
def IterAt (w : World) (p : Option Addr) (a b : Int) (v : Value) : Prop :=
  ∃ B0 B1 B2, v = .func (.func 102) #[] #[.pointer (some ⟨B0, 0, none⟩), .pointer (some ⟨B1, 0, none⟩), .pointer (some ⟨B2, 0, none⟩)] ∧
    Cells w B0 #[.pointer p] 111 ∧ Cells w B1 #[.int .i64 a] 3 ∧ Cells w B2 #[.int .i64 b] 3
theorem within_made (p : Option Addr) (a b : Int) (w : World) :
    Calls Try.prog 69 #[.pointer p, .int .i64 a, .int .i64 b] w fun e w' => ∃ v, e = .returned v ∧ IterAt w' p a b v ∧ Below w.heap.size w w' := by
  refine (within_calls p a b w).mono ?_
  rintro e w' ⟨rfl, rfl⟩
  refine ⟨_, rfl, ⟨_, _, _, rfl, ((Cells.new _ _ _).alloc _).alloc _, ?_, ?_⟩, ((((Below.refl _ _).alloc (Nat.le_refl _) _).alloc (by simp) _).alloc (by simp; omega) _)⟩
  · have := (Cells.new (w.alloc (.cells #[.pointer p] 111)) #[.int .i64 a] 3).alloc (.cells #[.int .i64 b] 3)
    rw [World.size_alloc] at this
    exact this
  · have := Cells.new ((w.alloc (.cells #[.pointer p] 111)).alloc (.cells #[.int .i64 a] 3)) #[.int .i64 b] 3
    rw [World.size_alloc, World.size_alloc] at this
    exact this
/-- Cells abide the turn of a block that is no cells. -/
theorem Cells.kept {W W' : World} {B : Nat} {cs : Array Value} {t : TypeId} {row : Option Nat} (h : Cells W B cs t) (hg : W.grownBy W' row) (hr : ∀ r, row = some r → ∃ o : Obj, W.heap[r]? = some o ∧ o.isCells = false) : Cells W' B cs t :=
  (hg.block B h.lt (fun e => by obtain ⟨o, ho, hc⟩ := hr B e.symm; rw [show W.heap[B]? = _ from h] at ho; cases ho; cases hc)).trans h
theorem keepsFrom_below {B : Nat} {W W' : World} (h : Below W.heap.size W W') : KeepsFrom B W W' :=
  ⟨h.size, fun k o _ hk _ => (h.block k (Array.getElem?_eq_some_iff.1 hk).1).trans hk⟩
theorem keepsFrom_set {B C j : Nat} {W : World} {v : Value} : KeepsFrom B W (W.setCell ⟨C, j, none⟩ v) := (KeepsOthers.setCell W _ v).from B
theorem Cells.put {W : World} {B l : Nat} {cs : Array Value} {t : TypeId} (h : Cells W B cs t) {o : Obj} (hl : W.heap[l]? = some o) (ho : o.isCells = false) (o' : Obj) : Cells (W.putObj l o') B cs t :=
  h.kept (grownBy_putObj' W l o') (fun r e => by cases e; exact ⟨o, hl, ho⟩)
end Go.Proofs.Ytnnbdjfeagcbdaa
