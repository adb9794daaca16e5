/- BoardRuns: the state at the loop's head. -/
import Derived.Test.YtdjhpldiifdifaaJLdo
import Derived.Test.YtdjhpldiifdifaaJLsh
namespace Go.Proofs.Ytdjhpldiifdifaa
set_option linter.unusedSimpArgs false
set_option linter.unusedVariables false
open Go.RowKit Go.Shelf

theorem Cells.cells4 {w : World} {r : Nat} {a b c d : Value} {ty : TypeId} (h : Cells w r #[a, b, c, d] ty) : w.cell? ⟨r, 0, none⟩ = some a ∧ w.cell? ⟨r, 1, none⟩ = some b ∧ w.cell? ⟨r, 2, none⟩ = some c ∧ w.cell? ⟨r, 3, none⟩ = some d := by
  refine ⟨?_, ?_, ?_, ?_⟩ <;> (rw [h.cell]; rfl)
/-- At the loop's head: the state, the box of the reference's board. -/
structure RuC (w wr : World) (b r7 : Nat) (O : Nat → Nat) (G : Mm) (N : Nat) (last : Int) (vx : Value) (x : Rb) (i : Nat) : Prop where
  lk : LkS 0 wr b O G N last vx x i
  c7 : Cells wr r7 #[vx, .int .i64 x.nums, .int .i64 x.turn, .int .i64 x.paid] 49
  o7 : O r7 = 0
  g7 : w.heap.size ≤ r7
  below : Below w.heap.size w wr
  low : ∀ k, k < w.heap.size → O k = 0
theorem RuC.after {w wr w' : World} {b r7 : Nat} {O : Nat → Nat} {G : Mm} {N : Nat} {last : Int} {vx : Value} {x : Rb} {i : Nat} (h : RuC w wr b r7 O G N last vx x i) (hb : Below wr.heap.size wr w') : RuC w w' b r7 (grow O wr 0) G N last vx x i :=
  ⟨h.lk.grow hb, h.c7.below hb h.c7.lt, by rw [grow_old h.c7.lt]; exact h.o7, h.g7, h.below.trans (hb.mono h.below.size), fun k hk => by rw [grow_old (Nat.lt_of_lt_of_le hk h.below.size)]; exact h.low k hk⟩
/-- What is done with the result ahead of the storing: a new box, or a box that was made ahead of the call. -/
def Boxed (B : Nat) (w0 w' w9 : World) : Prop := Below w'.heap.size w' w9 ∨ ∃ r6 cs, B ≤ r6 ∧ Cells w0 r6 cs 49 ∧ Kept (fun k => k = r6) w' w9 ∧ w9.heap.size = w'.heap.size
/-- Behind a call and the storing of its board. -/
theorem RuC.next {w wr w' w9 : World} {b r7 : Nat} {O O' : Nat → Nat} {G G' : Mm} {N N' : Nat} {last last' : Int} {vx v' : Value} {x x' : Rb} {i : Nat} (h : RuC w wr b r7 O G N last vx x i) (st : Step (colB 0) O wr O' w') (lk : LkS 0 w' b O' G' N' last' v' x' (i + 1)) {B : Nat} {w0 : World} (hB : w.heap.size ≤ B) (hB7 : r7 < B) (h6 : ∀ r cs, B ≤ r → Cells w0 r cs 49 → Cells w' r cs 49 ∧ O' r = 0) (hx : Boxed B w0 w' w9) :
    ∃ O9, RuC w ((((w9.setCell ⟨r7, 0, none⟩ v').setCell ⟨r7, 1, none⟩ (.int .i64 x'.nums)).setCell ⟨r7, 2, none⟩ (.int .i64 x'.turn)).setCell ⟨r7, 3, none⟩ (.int .i64 x'.paid)) b r7 O9 G' N' last' v' x' (i + 1) ∧ Cells w9 r7 #[vx, .int .i64 x.nums, .int .i64 x.turn, .int .i64 x.paid] 49 := by
  obtain ⟨c7, o7⟩ := keep_step st h.c7 h.o7
  have kk := kept_res (Kept.refl (fun k => k = r7) w9) v' x'.nums x'.turn x'.paid
  obtain ⟨l1, l2⟩ := low_step st h.below.size h.low
  have b' := h.below.trans l1
  rcases hx with hb | ⟨r6, cs, hr6, c60, k6, hs6⟩
  · have c79 := c7.below hb c7.lt
    have b9 : Below w.heap.size w w9 := b'.trans (hb.mono b'.size)
    have o9 : grow O' w' 0 r7 = 0 := by rw [grow_old c7.lt]; exact o7
    exact ⟨_, ⟨(lk.grow hb).own c79 o9 kk (by simp [size_setCell]), put_res c79 v' x'.nums x'.turn x'.paid, o9, h.g7, b9.trans (kk.below (B := w.heap.size) b9.size (fun k e => by have := h.g7; omega)), fun k hk => by rw [grow_old (Nat.lt_of_lt_of_le hk b'.size)]; exact l2 k hk⟩, c79⟩
  · obtain ⟨c6, o6⟩ := h6 r6 cs hr6 c60
    have c79 := c7.kept k6 (fun e => by omega)
    have lk9 := lk.own c6 o6 k6 hs6
    have b9 : Below w.heap.size w w9 := b'.trans (k6.below (B := w.heap.size) b'.size (fun k e => by omega))
    exact ⟨O', ⟨lk9.own c79 o7 kk (by simp [size_setCell]), put_res c79 v' x'.nums x'.turn x'.paid, o7, h.g7, b9.trans (kk.below (B := w.heap.size) b9.size (fun k e => by have := h.g7; omega)), l2⟩, c79⟩
/-- Ahead of the storing. -/
structure StU (w w9 : World) (b r7 i : Nat) (p' : Option Addr) (cap' n' : Nat) (nu tu pa : Int) : Prop where
  c7 : ∃ a c d e, Cells w9 r7 #[a, c, d, e] 49
  ru : ∃ O G N last x, n' = x.L.length ∧ nu = x.nums ∧ tu = x.turn ∧ pa = x.paid ∧ RuC w ((((w9.setCell ⟨r7, 0, none⟩ (.slice p' n' cap')).setCell ⟨r7, 1, none⟩ (.int .i64 nu)).setCell ⟨r7, 2, none⟩ (.int .i64 tu)).setCell ⟨r7, 3, none⟩ (.int .i64 pa)) b r7 O G N last (.slice p' n' cap') x (i + 1)
/-- What a call of the loop comes to. -/
def DoU (w wr w0 : World) (b r7 i : Nat) (e : Ending) (w' : World) : Prop :=
  ∃ p' cap' n' nu tu pa, e = .returned (.tuple #[.agg #[.slice p' n' cap', .int .i64 nu, .int .i64 tu, .int .i64 pa], .bool true]) ∧ (∀ r cs ty, wr.heap.size ≤ r → Cells w0 r cs ty → Cells w' r cs ty) ∧
    ∀ w9, Boxed wr.heap.size w0 w' w9 → StU w w9 b r7 i p' cap' n' nu tu pa
theorem do_u {w wr : World} {b r7 : Nat} {O : Nat → Nat} {G : Mm} {N : Nat} {last : Int} {vx : Value} {x : Rb} {i : Nat} (h : RuC w wr b r7 O G N last vx x i) (hi : i ≤ 90) (a : Ac) (hok : AcOk a) :
    ∀ w0, Below wr.heap.size wr w0 → Calls Try.prog 32 #[pt b, rbV vx x.nums x.turn x.paid, .agg (encA a).toArray] w0 (DoU w wr w0 b r7 i) := by
  intro w0 hb0
  have hd := h.after hb0
  refine (do_calls hd.lk hi a hok).mono ?_
  rintro e w' ⟨O', G', N', last', v', x', rfl, lk', st'⟩
  obtain ⟨p', cap', g', rfl, _, _⟩ := lk'.row.rows
  refine ⟨p', cap', _, _, _, _, rfl, fun r cs ty hr hc => (keep_step st' hc (grow_new hr)).1, fun w9 hb9 => ?_⟩
  obtain ⟨O9, ru, c79⟩ := hd.next st' lk' (B := wr.heap.size) (w0 := w0) h.below.size h.c7.lt (fun r cs hr hc => keep_step st' hc (grow_new hr)) hb9
  exact ⟨⟨_, _, _, _, c79⟩, _, _, _, _, _, rfl, rfl, rfl, rfl, ru⟩
end Go.Proofs.Ytdjhpldiifdifaa
