/- BoardFronts: the walk. -/
import Derived.BigQuiet
import Derived.Deep.DeepCutAuto
import Derived.Test.YtdjhpldiifdifaaJFro0
import Derived.Test.YtdjhpldiifdifaaJLdo
import Derived.Test.YtdjhpldiifdifaaJStl
import Derived.Test.YtdjhpldiifdifaaJLvl
namespace Go.Proofs.Ytdjhpldiifdifaa
set_option linter.unusedSimpArgs false
set_option linter.unusedVariables false
open Go.RowKit Go.Shelf
attribute [local go_sem] Oper.semAt_some
attribute [local go_sem ↓] Go.wp_at_zero Go.wp_at_succ

/-- Behind run: the board, the order's own box. -/
structure FrC (w wr : World) (b r3 : Nat) (O : Nat → Nat) (G : Mm) (N : Nat) (last : Int) (o : Od) : Prop where
  bd : BdC O 0 wr b G N last []
  c3 : Cells wr r3 o.vals 27
  o3 : O r3 = 0
  g3 : w.heap.size ≤ r3
  num : N ≤ 40
  below : Below w.heap.size w wr
  low : ∀ k, k < w.heap.size → O k = 0
theorem FrC.after {w wr w' : World} {b r3 : Nat} {O : Nat → Nat} {G : Mm} {N : Nat} {last : Int} {o : Od} (h : FrC w wr b r3 O G N last o) (hb : Below wr.heap.size wr w') : FrC w w' b r3 (grow O wr 0) G N last o :=
  ⟨h.bd.step (C := fun _ => False) ⟨hb.os, hb.tape, hb.output, hb.size, fun k hk _ => ⟨hb.block k hk, grow_old hk⟩, fun _ _ e => e.elim⟩ (fun _ _ => not_false), h.c3.below hb h.c3.lt, by rw [grow_old h.c3.lt]; exact h.o3, h.g3, h.num, h.below.trans (hb.mono h.below.size), fun k hk => by rw [grow_old (Nat.lt_of_lt_of_le hk h.below.size)]; exact h.low k hk⟩
theorem FrC.put {w wr w' : World} {b r3 : Nat} {O : Nat → Nat} {G : Mm} {N : Nat} {last : Int} {o o' : Od} (h : FrC w wr b r3 O G N last o) (hk : Kept (fun k => k = r3) wr w') (hc : Cells w' r3 o'.vals 27) : FrC w w' b r3 O G N last o' :=
  ⟨h.bd.step (C := fun c => c = 0) ⟨hk.os, hk.tape, hk.output, hk.size, fun j hj hn => ⟨hk.block j hj (fun e => hn (by rw [e, h.o3])), rfl⟩, fun _ _ h => .inl h⟩ (fun c h1 h2 => by have := h1.1; omega), hc, h.o3, h.g3, h.num, h.below.trans (hk.below (B := w.heap.size) h.below.size (fun k e => by have := h.g3; omega)), h.low⟩
/-- An order is stored. -/
theorem put8 {w : World} {r : Nat} {o : Od} (h : Cells w r o.vals 27) (o' : Od) : Cells ((((((((w.setCell ⟨r, 0, none⟩ (.int .i64 o'.m)).setCell ⟨r, 1, none⟩ (.int .i64 o'.s)).setCell ⟨r, 2, none⟩ (.int .i64 o'.k)).setCell ⟨r, 3, none⟩ (.int .i64 o'.f)).setCell ⟨r, 4, none⟩ (.int .i64 o'.p)).setCell ⟨r, 5, none⟩ (.int .i64 o'.t)).setCell ⟨r, 6, none⟩ (.int .i64 o'.q)).setCell ⟨r, 7, none⟩ (.int .i64 o'.pk)) r o'.vals 27 ∧
    Kept (fun k => k = r) w ((((((((w.setCell ⟨r, 0, none⟩ (.int .i64 o'.m)).setCell ⟨r, 1, none⟩ (.int .i64 o'.s)).setCell ⟨r, 2, none⟩ (.int .i64 o'.k)).setCell ⟨r, 3, none⟩ (.int .i64 o'.f)).setCell ⟨r, 4, none⟩ (.int .i64 o'.p)).setCell ⟨r, 5, none⟩ (.int .i64 o'.t)).setCell ⟨r, 6, none⟩ (.int .i64 o'.q)).setCell ⟨r, 7, none⟩ (.int .i64 o'.pk)) := by
  obtain ⟨m0, s0, k0, f0, p0, t0, q0, pk0⟩ := o
  have h0 : Cells w r #[.int .i64 m0, .int .i64 s0, .int .i64 k0, .int .i64 f0, .int .i64 p0, .int .i64 t0, .int .i64 q0, .int .i64 pk0] 27 := h
  have h1 : Cells _ r #[.int .i64 o'.m, .int .i64 s0, .int .i64 k0, .int .i64 f0, .int .i64 p0, .int .i64 t0, .int .i64 q0, .int .i64 pk0] 27 := h0.set 0 (.int .i64 o'.m)
  have h2 : Cells _ r #[.int .i64 o'.m, .int .i64 o'.s, .int .i64 k0, .int .i64 f0, .int .i64 p0, .int .i64 t0, .int .i64 q0, .int .i64 pk0] 27 := h1.set 1 (.int .i64 o'.s)
  have h3 : Cells _ r #[.int .i64 o'.m, .int .i64 o'.s, .int .i64 o'.k, .int .i64 f0, .int .i64 p0, .int .i64 t0, .int .i64 q0, .int .i64 pk0] 27 := h2.set 2 (.int .i64 o'.k)
  have h4 : Cells _ r #[.int .i64 o'.m, .int .i64 o'.s, .int .i64 o'.k, .int .i64 o'.f, .int .i64 p0, .int .i64 t0, .int .i64 q0, .int .i64 pk0] 27 := h3.set 3 (.int .i64 o'.f)
  have h5 : Cells _ r #[.int .i64 o'.m, .int .i64 o'.s, .int .i64 o'.k, .int .i64 o'.f, .int .i64 o'.p, .int .i64 t0, .int .i64 q0, .int .i64 pk0] 27 := h4.set 4 (.int .i64 o'.p)
  have h6 : Cells _ r #[.int .i64 o'.m, .int .i64 o'.s, .int .i64 o'.k, .int .i64 o'.f, .int .i64 o'.p, .int .i64 o'.t, .int .i64 q0, .int .i64 pk0] 27 := h5.set 5 (.int .i64 o'.t)
  have h7 : Cells _ r #[.int .i64 o'.m, .int .i64 o'.s, .int .i64 o'.k, .int .i64 o'.f, .int .i64 o'.p, .int .i64 o'.t, .int .i64 o'.q, .int .i64 pk0] 27 := h6.set 6 (.int .i64 o'.q)
  have h8 : Cells _ r #[.int .i64 o'.m, .int .i64 o'.s, .int .i64 o'.k, .int .i64 o'.f, .int .i64 o'.p, .int .i64 o'.t, .int .i64 o'.q, .int .i64 o'.pk] 27 := h7.set 7 (.int .i64 o'.pk)
  exact ⟨h8, ((((((((Kept.refl (fun k => k = r) w).set (C := r) rfl 0 _).set (C := r) rfl 1 _).set (C := r) rfl 2 _).set (C := r) rfl 3 _).set (C := r) rfl 4 _).set (C := r) rfl 5 _).set (C := r) rfl 6 _).set (C := r) rfl 7 _⟩
theorem FrC.cells {w wr : World} {b r3 : Nat} {O : Nat → Nat} {G : Mm} {N : Nat} {last : Int} {o : Od} (h : FrC w wr b r3 O G N last o) : wr.cell? ⟨r3, 0, none⟩ = some (.int .i64 o.m) ∧ wr.cell? ⟨r3, 1, none⟩ = some (.int .i64 o.s) ∧ wr.cell? ⟨r3, 2, none⟩ = some (.int .i64 o.k) ∧ wr.cell? ⟨r3, 3, none⟩ = some (.int .i64 o.f) ∧ wr.cell? ⟨r3, 4, none⟩ = some (.int .i64 o.p) ∧ wr.cell? ⟨r3, 5, none⟩ = some (.int .i64 o.t) ∧ wr.cell? ⟨r3, 6, none⟩ = some (.int .i64 o.q) ∧ wr.cell? ⟨r3, 7, none⟩ = some (.int .i64 o.pk) ∧ r3 < wr.heap.size := by
  refine ⟨?_, ?_, ?_, ?_, ?_, ?_, ?_, ?_, h.c3.lt⟩ <;> (rw [h.c3.cell]; rfl)
theorem FrC.froz {w wr : World} {b r3 : Nat} {O : Nat → Nat} {G : Mm} {N : Nat} {last : Int} {o : Od} (h : FrC w wr b r3 O G N last o) (i : Nat) : wr.frozen? ⟨r3, i, none⟩ = false := h.c3.frozen i
/-- The next event. -/
theorem FrOk.next {n q0 p0 : Int} {o : Od} {first : Bool} {paid : Int} {e : Ev} {r : List Ev} (h : FrOk n q0 p0 o first paid (e :: r)) :
    e.w = 7 ∨ (e.w ≠ 1 ∧ e.w ≠ 7 ∧ FrOk n q0 p0 o (if e.w = 5 then false else first) paid r) ∨ (e.w = 1 ∧ e.o = n ∧ (first = true → e.x = q0 ∧ e.p = p0) ∧ (first = false → paid ≠ 0 → (o.s = 1 → paid ≤ e.p) ∧ (o.s = 2 → e.p ≤ paid)) ∧ (o.k = 1 → (o.s = 1 → e.p ≤ o.p) ∧ (o.s = 2 → o.p ≤ e.p)) ∧ FrOk n q0 p0 o false e.p r) := by
  cases h with
  | stop h => exact .inl h
  | skip h1 h7 h => exact .inr (.inl ⟨h1, h7, h⟩)
  | trade h1 hn hf hp hl h => exact .inr (.inr ⟨h1, hn, hf, hp, hl, h⟩)
end Go.Proofs.Ytdjhpldiifdifaa
