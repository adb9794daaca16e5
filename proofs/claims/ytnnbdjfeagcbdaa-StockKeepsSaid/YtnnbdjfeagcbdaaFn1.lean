/- The small functions of the stock package: valid spans, the closures of the changes. -/
import Derived.Test.YtnnbdjfeagcbdaaInts
namespace Go.Proofs.Ytnnbdjfeagcbdaa
set_option linter.unusedSimpArgs false
set_option linter.unusedVariables false
open Go.RowKit Go.Shelf

def okSpan (a c : Int) : Bool := decide (1 ≤ a) && (decide (1 ≤ c) && (decide (a ≤ 1000000) && decide (c ≤ 1000000 - a + 1)))
theorem okSpan_iff (a c : Int) : okSpan a c = true ↔ 1 ≤ a ∧ 1 ≤ c ∧ a + c - 1 ≤ 1000000 := by
  simp [okSpan]; omega

set_option maxHeartbeats 1000000 in
theorem isSpan_calls (a c : Int) (w : World) :
    Calls Try.prog 52 #[.agg #[.int .i64 a, .int .i64 c]] w fun e w' => e = .returned (.bool (okSpan a c)) ∧ Below w.heap.size w w' := by
  by_cases h1 : 1 ≤ a
  · by_cases h2 : 1 ≤ c
    · by_cases h3 : a ≤ 1000000
      · have hw1 : IntKind.i64.wrap (1000000 - a) = 1000000 - a := IntWalk.i64_in _ (by omega)
        have hw2 : IntKind.i64.wrap (1000000 - a + 1) = 1000000 - a + 1 := IntWalk.i64_in _ (by omega)
        by_cases h4 : c ≤ 1000000 - a + 1
        · have e : okSpan a c = true := (okSpan_iff a c).2 (by omega)
          rw [e]
          go_enter Try.func52, Try.ntmps52
          go_wp2
          go_ret
          exact ⟨rfl, Below.alloc (Below.refl _ _) (Nat.le_refl _) _⟩
        · have e : okSpan a c = false := by rw [Bool.eq_false_iff]; intro h; exact h4 (by have := (okSpan_iff a c).1 h; omega)
          rw [e]
          go_enter Try.func52, Try.ntmps52
          go_wp2
          go_ret
          exact ⟨rfl, Below.alloc (Below.refl _ _) (Nat.le_refl _) _⟩
      · have e : okSpan a c = false := by rw [Bool.eq_false_iff]; intro h; exact h3 (by have := (okSpan_iff a c).1 h; omega)
        rw [e]
        go_enter Try.func52, Try.ntmps52
        go_wp2
        go_ret
        exact ⟨rfl, Below.alloc (Below.refl _ _) (Nat.le_refl _) _⟩
    · have e : okSpan a c = false := by rw [Bool.eq_false_iff]; intro h; exact h2 (by have := (okSpan_iff a c).1 h; omega)
      rw [e]
      go_enter Try.func52, Try.ntmps52
      go_wp2
      go_ret
      exact ⟨rfl, Below.alloc (Below.refl _ _) (Nat.le_refl _) _⟩
  · have e : okSpan a c = false := by rw [Bool.eq_false_iff]; intro h; exact h1 (by have := (okSpan_iff a c).1 h; omega)
    rw [e]
    go_enter Try.func52, Try.ntmps52
    go_wp2
    go_ret
    exact ⟨rfl, Below.alloc (Below.refl _ _) (Nat.le_refl _) _⟩

def enterE (c : Cl) : Int := if c.state ≠ 0 then 5 else 0
def ownedE (o : Int) (c : Cl) : Int := if c.state ≠ 1 then 4 else if c.owner ≠ o then 8 else if c.holder ≠ 0 then 10 else 0
def heldE (h : Int) (c : Cl) : Int := if c.state ≠ 1 then 4 else if c.holder ≠ h then 10 else 0

set_option maxHeartbeats 1000000 in
theorem enter1_calls (c : Cl) (w : World) :
    Calls Try.prog 55 #[c.val] w fun e w' => e = .returned (.int .i64 (enterE c)) ∧ Below w.heap.size w w' := by
  by_cases h : c.state = 0
  · have hb : (c.state != 0) = false := by simp [h]
    have e : enterE c = 0 := by simp [enterE, h]
    rw [e]
    go_enter Try.func55, Try.ntmps55
    go_wp2
    go_ret
    exact ⟨rfl, Below.alloc (Below.refl _ _) (Nat.le_refl _) _⟩
  · have hb : (c.state != 0) = true := by simp [h]
    have e : enterE c = 5 := by simp [enterE, h]
    rw [e]
    go_enter Try.func55, Try.ntmps55
    go_wp2
    go_ret
    exact ⟨rfl, Below.alloc (Below.refl _ _) (Nat.le_refl _) _⟩

set_option maxHeartbeats 2000000 in
theorem owned1_calls (c : Cl) (o : Int) (B : Nat) (w : World) (h0 : w.cell? ⟨B, 0, none⟩ = some (.int .i64 o)) :
    Calls Try.prog 100 #[c.val, .pointer (some ⟨B, 0, none⟩)] w fun e w' => e = .returned (.int .i64 (ownedE o c)) ∧ Below w.heap.size w w' := by
  have hlt := World.block_lt_of_cell? _ _ h0
  by_cases h : c.state = 1
  · have hb : (c.state != 1) = false := by simp [h]
    by_cases h2 : c.owner = o
    · have hb2 : (c.owner != o) = false := by simp [h2]
      by_cases h3 : c.holder = 0
      · have hb3 : (c.holder != 0) = false := by simp [h3]
        have e : ownedE o c = 0 := by simp [ownedE, h, h2, h3]
        rw [e]
        clear h h2 h3
        go_enter Try.func100, Try.ntmps100
        go_wp2
        go_ret
        exact ⟨rfl, Below.alloc (Below.refl _ _) (Nat.le_refl _) _⟩
      · have hb3 : (c.holder != 0) = true := by simp [h3]
        have e : ownedE o c = 10 := by simp [ownedE, h, h2, h3]
        rw [e]
        clear h h2 h3
        go_enter Try.func100, Try.ntmps100
        go_wp2
        go_ret
        exact ⟨rfl, Below.alloc (Below.refl _ _) (Nat.le_refl _) _⟩
    · have hb2 : (c.owner != o) = true := by simp [h2]
      have e : ownedE o c = 8 := by simp [ownedE, h, h2]
      rw [e]
      clear h h2
      go_enter Try.func100, Try.ntmps100
      go_wp2
      go_ret
      exact ⟨rfl, Below.alloc (Below.refl _ _) (Nat.le_refl _) _⟩
  · have hb : (c.state != 1) = true := by simp [h]
    have e : ownedE o c = 4 := by simp [ownedE, h]
    rw [e]
    clear h
    go_enter Try.func100, Try.ntmps100
    go_wp2
    go_ret
    exact ⟨rfl, Below.alloc (Below.refl _ _) (Nat.le_refl _) _⟩

set_option maxHeartbeats 2000000 in
theorem held1_calls (c : Cl) (o : Int) (B : Nat) (w : World) (h0 : w.cell? ⟨B, 0, none⟩ = some (.int .i64 o)) :
    Calls Try.prog 101 #[c.val, .pointer (some ⟨B, 0, none⟩)] w fun e w' => e = .returned (.int .i64 (heldE o c)) ∧ Below w.heap.size w w' := by
  have hlt := World.block_lt_of_cell? _ _ h0
  by_cases h : c.state = 1
  · have hb : (c.state != 1) = false := by simp [h]
    by_cases h2 : c.holder = o
    · have hb2 : (c.holder != o) = false := by simp [h2]
      have e : heldE o c = 0 := by simp [heldE, h, h2]
      rw [e]
      clear h h2
      go_enter Try.func101, Try.ntmps101
      go_wp2
      go_ret
      exact ⟨rfl, Below.alloc (Below.refl _ _) (Nat.le_refl _) _⟩
    · have hb2 : (c.holder != o) = true := by simp [h2]
      have e : heldE o c = 10 := by simp [heldE, h, h2]
      rw [e]
      clear h h2
      go_enter Try.func101, Try.ntmps101
      go_wp2
      go_ret
      exact ⟨rfl, Below.alloc (Below.refl _ _) (Nat.le_refl _) _⟩
  · have hb : (c.state != 1) = true := by simp [h]
    have e : heldE o c = 4 := by simp [heldE, h]
    rw [e]
    clear h
    go_enter Try.func101, Try.ntmps101
    go_wp2
    go_ret
    exact ⟨rfl, Below.alloc (Below.refl _ _) (Nat.le_refl _) _⟩

def enterG (lot owner : Int) (_ : Cl) : Cl := ⟨1, lot, owner, 0⟩
def moveG (to : Int) (c : Cl) : Cl := { c with owner := to }
def pledgeG (to : Int) (c : Cl) : Cl := { c with holder := to }
def releaseG (c : Cl) : Cl := { c with holder := 0 }
def seizeG (h : Int) (c : Cl) : Cl := { c with owner := h, holder := 0 }
def leaveG (_ : Cl) : Cl := ⟨2, 0, 0, 0⟩

set_option maxHeartbeats 1000000 in
theorem enter2_calls (c : Cl) (lot owner : Int) (B C : Nat) (w : World) (h0 : w.cell? ⟨B, 0, none⟩ = some (.int .i64 lot)) (h1 : w.cell? ⟨C, 0, none⟩ = some (.int .i64 owner)) :
    Calls Try.prog 57 #[c.val, .pointer (some ⟨B, 0, none⟩), .pointer (some ⟨C, 0, none⟩)] w fun e w' => e = .returned (enterG lot owner c).val ∧ Below w.heap.size w w' := by
  have hlt := World.block_lt_of_cell? _ _ h0
  have hlt1 := World.block_lt_of_cell? _ _ h1
  go_enter Try.func57, Try.ntmps57
  go_wp2
  have l1 : w.heap.size < w.heap.size + 1 + 1 := by omega
  refine bodyPost_ret (v := (enterG lot owner c).val) (by simp [results, Try.results57, go_sem, enterG]) rfl ⟨rfl, ?_⟩
  repeat (first | exact Below.refl _ _ | refine Below.setCell ?_ (by simp; try omega) _ | refine Below.alloc ?_ (by simp; try omega) _)
end Go.Proofs.Ytnnbdjfeagcbdaa
