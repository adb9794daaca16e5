/- tall, node. -/
import Derived.Test.YtnnbdjfeagcbdaaTree0
namespace Go.Proofs.Ytnnbdjfeagcbdaa
set_option linter.unusedSimpArgs false
set_option linter.unusedVariables false
open Go.RowKit
attribute [local go_sem ↓] Go.wp_at_zero Go.wp_at_succ

set_option maxHeartbeats 400000 in
theorem tall_calls (t : T) (p : Option Addr) (w : World) (h : TreeAt w p t) :
    Calls Try.prog 96 #[.pointer p] w fun e w' => e = .returned (.int .i64 t.tall) ∧ w' = w := by
  cases t with
  | nil =>
    obtain rfl := h
    go_enter Try.func96, Try.ntmps96
    go_wp2
    go_ret
    exact ⟨rfl, rfl⟩
  | node l r pc h' =>
    obtain ⟨b, pl, pr, rfl, hb, hl, hr⟩ := h
    obtain ⟨_, _, _, _, _, _, _, _, _, h8⟩ := node_cells hb
    clear hb hl hr
    go_enter Try.func96, Try.ntmps96
    go_wp2
    go_ret
    exact ⟨rfl, rfl⟩

theorem node_done (w : World) (o : Obj) (pl pr : Option Addr) (pc : Pc) (h h' : Int) (e : h = h') (h1 : 0 ≤ h) (h2 : h ≤ 2000000000) :
    ((w.alloc o).alloc (nodeObj pl pr pc (IntKind.i64.wrap h))).drew.heap[w.heap.size + 1]? = some (nodeObj pl pr pc h') := by
  rw [IntWalk.i64_in _ (by omega), e]
  have := heap_alloc_new (w.alloc o) (nodeObj pl pr pc h')
  rw [World.size_alloc] at this
  exact this

/-- What making a node comes to. -/
def NodeMade (l r : T) (pc : Pc) (w : World) (e : Ending) (w' : World) : Prop :=
  ∃ b, e = .returned (.pointer (some ⟨b, 0, none⟩)) ∧ TreeAt w' (some ⟨b, 0, none⟩) (.node l r pc (max l.tall r.tall + 1)) ∧ Below w.heap.size w w' ∧ w.heap.size < w'.heap.size

set_option maxRecDepth 100000 in
set_option maxHeartbeats 2000000 in
theorem node_calls (l r : T) (pl pr : Option Addr) (pc : Pc) (w : World) (hl : TreeAt w pl l) (hr : TreeAt w pr r)
    (h1 : 0 ≤ l.tall) (h2 : l.tall ≤ 1000000000) (h3 : 0 ≤ r.tall) (h4 : r.tall ≤ 1000000000) :
    Calls Try.prog 50 #[.pointer pl, pc.val, .pointer pr] w (NodeMade l r pc w) := by
  have HL := hid hl
  have HR := hid hr
  clear hl hr
  go_enter Try.func50, Try.ntmps50
  go_wp2
  go_region_held3 (fun w' => w'.cell? ⟨w.heap.size, 0, none⟩ = some (Value.int .i64 pc.from_) ∧ w'.cell? ⟨w.heap.size, 1, none⟩ = some (Value.int .i64 pc.to) ∧ w'.cell? ⟨w.heap.size, 2, none⟩ = some (Value.int .i64 pc.cell.state) ∧ w'.cell? ⟨w.heap.size, 3, none⟩ = some (Value.int .i64 pc.cell.lot) ∧ w'.cell? ⟨w.heap.size, 4, none⟩ = some (Value.int .i64 pc.cell.owner) ∧ w'.cell? ⟨w.heap.size, 5, none⟩ = some (Value.int .i64 pc.cell.holder)) (go_keep)
    (first | ((with_reducible refine (tall_calls l pl _ (HL.out.alloc _).drew).mono ?_); rintro e w1 ⟨rfl, rfl⟩) | ((with_reducible refine (tall_calls r pr _ (HR.out.alloc _).drew).mono ?_); rintro e w1 ⟨rfl, rfl⟩))
  go_wp2
  all_goals go_ret
  all_goals refine ⟨_, rfl, ?_, (((Below.refl _ _).alloc (Nat.le_refl _) _).alloc (by simp) _).drew, by simp; omega⟩
  all_goals refine ⟨_, pl, pr, rfl, ?_, ((HL.out.alloc _).alloc _).drew, ((HR.out.alloc _).alloc _).drew⟩
  all_goals exact node_done _ _ _ _ _ _ _ (by omega) (by omega) (by omega)
end Go.Proofs.Ytnnbdjfeagcbdaa
