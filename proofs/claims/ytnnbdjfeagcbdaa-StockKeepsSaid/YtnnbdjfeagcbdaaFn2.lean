/- The closures that make cells; owned, held; Version; at. -/
import Derived.Test.YtnnbdjfeagcbdaaFn1
namespace Go.Proofs.Ytnnbdjfeagcbdaa
set_option linter.unusedSimpArgs false
set_option linter.unusedVariables false
open Go.RowKit Go.Shelf
attribute [local go_sem] Oper.semAt_some

set_option maxHeartbeats 1000000 in
theorem move1_calls (c : Cl) (o : Int) (B : Nat) (w : World) (h0 : w.cell? ⟨B, 0, none⟩ = some (.int .i64 o)) :
    Calls Try.prog 59 #[c.val, .pointer (some ⟨B, 0, none⟩)] w fun e w' => e = .returned (moveG o c).val ∧ Below w.heap.size w w' := by
  have hlt := World.block_lt_of_cell? _ _ h0
  have l1 : w.heap.size < w.heap.size + 1 + 1 := by omega
  go_enter Try.func59, Try.ntmps59
  go_wp2
  refine bodyPost_ret (v := (moveG o c).val) (by simp [results, Try.results59, go_sem, moveG]) rfl ⟨rfl, ?_⟩
  repeat (first | exact Below.refl _ _ | refine Below.setCell ?_ (by simp; try omega) _ | refine Below.alloc ?_ (by simp; try omega) _)

set_option maxHeartbeats 1000000 in
theorem pledge1_calls (c : Cl) (o : Int) (B : Nat) (w : World) (h0 : w.cell? ⟨B, 0, none⟩ = some (.int .i64 o)) :
    Calls Try.prog 60 #[c.val, .pointer (some ⟨B, 0, none⟩)] w fun e w' => e = .returned (pledgeG o c).val ∧ Below w.heap.size w w' := by
  have hlt := World.block_lt_of_cell? _ _ h0
  have l1 : w.heap.size < w.heap.size + 1 + 1 := by omega
  go_enter Try.func60, Try.ntmps60
  go_wp2
  refine bodyPost_ret (v := (pledgeG o c).val) (by simp [results, Try.results60, go_sem, pledgeG]) rfl ⟨rfl, ?_⟩
  repeat (first | exact Below.refl _ _ | refine Below.setCell ?_ (by simp; try omega) _ | refine Below.alloc ?_ (by simp; try omega) _)

set_option maxHeartbeats 1000000 in
theorem release1_calls (c : Cl) (w : World) :
    Calls Try.prog 62 #[c.val] w fun e w' => e = .returned (releaseG c).val ∧ Below w.heap.size w w' := by
  have l1 : w.heap.size < w.heap.size + 1 + 1 := by omega
  go_enter Try.func62, Try.ntmps62
  go_wp2
  refine bodyPost_ret (v := (releaseG c).val) (by simp [results, Try.results62, go_sem, releaseG]) rfl ⟨rfl, ?_⟩
  repeat (first | exact Below.refl _ _ | refine Below.setCell ?_ (by simp; try omega) _ | refine Below.alloc ?_ (by simp; try omega) _)

set_option maxHeartbeats 1000000 in
theorem seize1_calls (c : Cl) (o : Int) (B : Nat) (w : World) (h0 : w.cell? ⟨B, 0, none⟩ = some (.int .i64 o)) :
    Calls Try.prog 63 #[c.val, .pointer (some ⟨B, 0, none⟩)] w fun e w' => e = .returned (seizeG o c).val ∧ Below w.heap.size w w' := by
  have hlt := World.block_lt_of_cell? _ _ h0
  have l1 : w.heap.size < w.heap.size + 1 + 1 := by omega
  go_enter Try.func63, Try.ntmps63
  go_wp2
  refine bodyPost_ret (v := (seizeG o c).val) (by simp [results, Try.results63, go_sem, seizeG]) rfl ⟨rfl, ?_⟩
  repeat (first | exact Below.refl _ _ | refine Below.setCell ?_ (by simp; try omega) _ | refine Below.alloc ?_ (by simp; try omega) _)

set_option maxHeartbeats 1000000 in
theorem leave1_calls (c : Cl) (w : World) :
    Calls Try.prog 64 #[c.val] w fun e w' => e = .returned (leaveG c).val ∧ Below w.heap.size w w' := by
  have l1 : w.heap.size < w.heap.size + 1 + 1 := by omega
  go_enter Try.func64, Try.ntmps64
  go_wp2
  refine bodyPost_ret (v := (leaveG c).val) (by simp [results, Try.results64, go_sem, leaveG]) rfl ⟨rfl, ?_⟩
  repeat (first | exact Below.refl _ _ | refine Below.setCell ?_ (by simp; try omega) _ | refine Below.alloc ?_ (by simp; try omega) _)


theorem new_cell1 (w : World) (x : Value) (ty : TypeId) : (w.alloc (.cells #[x] ty)).cell? ⟨w.heap.size, 0, none⟩ = some x := by simp [(Cells.new w #[x] ty).cell]

set_option maxHeartbeats 1000000 in
theorem owned_calls (w : World) (sB : Nat) (t : T) (hs : NowAt w sB t) (hg : t.Good) (a c : Int) (hac : 1 ≤ a ∧ 1 ≤ c ∧ a + c - 1 ≤ 1000000) (o : Int) :
    Calls Try.prog 58 #[.pointer (some ⟨sB, 0, none⟩), .agg #[.int .i64 a, .int .i64 c], .int .i64 o] w fun e w' =>
      e = .returned (.int .i64 (firstE (ownedE o) (visL t a (a + c - 1)))) ∧ Below w.heap.size w w' := by
  have HS := hid hs
  clear hs
  have hmf : ∀ (fn : Fn) (first cap : Array Value) (w : World), (Instr.makeFunc fn first cap).run Try.prog w = .ok (.func fn first cap) w := fun _ _ _ _ => rfl
  have l1 : w.heap.size < w.heap.size + 1 + 1 := by omega
  go_enter Try.func58, Try.ntmps58
  go_wp2_with fail
  have hB : Below w.heap.size w ((w.alloc (.cells #[.int .i64 a, .int .i64 c] 37)).alloc (.cells #[.int .i64 o] 3)) := ((Below.refl _ _).alloc (Nat.le_refl _) _).alloc (by simp) _
  refine (each_calls _ sB t (HS.out.below hB) hg a c hac 100 #[.pointer (some ⟨w.heap.size + 1, 0, none⟩)] (ownedE o) ?_ (enters_of Try.func100 (by kernel_rfl) rfl)).mono ?_
  · intro d W hb
    refine owned1_calls d o (w.heap.size + 1) W ?_
    rw [hb.cell (p := ⟨w.heap.size + 1, 0, none⟩) (by simp)]
    have := new_cell1 (w.alloc (.cells #[.int .i64 a, .int .i64 c] 37)) (.int .i64 o) 3
    rwa [World.size_alloc] at this
  · rintro e w1 ⟨rfl, hb1⟩
    go_wp2
    go_ret
    exact ⟨rfl, hB.trans (hb1.mono hB.size)⟩

set_option maxHeartbeats 1000000 in
theorem version_nil (w : World) : Calls Try.prog 19 #[.pointer none] w fun e w' => e = .returned (.int .i64 0) ∧ w' = w := by
  go_enter Try.func19, Try.ntmps19
  go_wp2
  go_ret
  exact ⟨rfl, rfl⟩
set_option maxHeartbeats 1000000 in
theorem version_calls (w : World) (sB : Nat) (v : Value) (n cap : Nat) (p : Option Addr) (hn : n ≤ 1000000000) (h0 : w.cell? ⟨sB, 0, none⟩ = some (.slice p n cap)) : Calls Try.prog 19 #[.pointer (some ⟨sB, 0, none⟩)] w fun e w' => e = .returned (.int .i64 (n - 1)) ∧ w' = w := by
  have hlt := World.block_lt_of_cell? _ _ h0
  have hw1 : IntKind.i64.wrap ((n : Int) - 1) = n - 1 := IntWalk.i64_in _ (by omega)
  go_enter Try.func19, Try.ntmps19
  go_wp2
  go_ret
  exact ⟨rfl, rfl⟩
end Go.Proofs.Ytnnbdjfeagcbdaa
