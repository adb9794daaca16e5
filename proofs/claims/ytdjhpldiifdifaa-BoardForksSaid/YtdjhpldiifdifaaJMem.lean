/- Blocks known whole; what a call leaves alone; own rows of encoded elements. No function of the program in sight. Doubly linked lists in memory. No function of the program in sight. The board's map of entries; ownership by colours. No function of the program in sight. Rows of pointers: one taken out, one put in. No function of the program in sight. -/
import Derived.Test.YtdjhpldiifdifaaRows
import Derived.WalkKit
import Derived.WalkSpells
import Derived.WalkLawsBesides
import Derived.Deep.RegionHeld3
import Derived.Deep.DrawnRows
import Derived.Deep.QuietTactic
import Derived.BigQuiet
import Derived.Lib.Hide
import Derived.OwnWalk
import Derived.Deep.AppendLies
import Derived.Deep.Onto
import Derived.Laws.OwnMore
import Derived.Deep.DeepCutAuto
import Derived.Deep.CutBlock
import Derived.Deep.LoopGhost
import Derived.Maps.OwnSet
import Derived.Maps.AppendAt
import Derived.Laws.CopyRow
namespace Go.Proofs.Ytdjhpldiifdifaa
set_option linter.unusedSimpArgs false
set_option linter.unusedVariables false
open Go.RowKit

/-- A fact that the walk shall not see. -/
theorem hid {p : Prop} (h : p) : Hid p := h
theorem cells_of_block {w : World} {b : Nat} {vs : Array Value} {ty : TypeId} (h : w.heap[b]? = some (Obj.cells vs ty)) (j : Nat) : w.cell? ⟨b, j, none⟩ = vs[j]? := by
  simp [World.cell?, World.cells?, h]
theorem heap_alloc_new (w : World) (o : Obj) : (w.alloc o).heap[w.heap.size]? = some o := (MapKept.heap_alloc w o).1
def Cells (w : World) (B : Nat) (cs : Array Value) (ty : TypeId) : Prop := w.heap[B]? = some (.cells cs ty)
theorem Cells.lt {w : World} {B : Nat} {cs : Array Value} {ty : TypeId} (h : Cells w B cs ty) : B < w.heap.size := (Array.getElem?_eq_some_iff.1 h).1
theorem Cells.cell {w : World} {B : Nat} {cs : Array Value} {ty : TypeId} (h : Cells w B cs ty) (j : Nat) : w.cell? ⟨B, j, none⟩ = cs[j]? := cells_of_block h j
theorem Cells.frozen {w : World} {B : Nat} {cs : Array Value} {ty : TypeId} (h : Cells w B cs ty) (j : Nat) : w.frozen? ⟨B, j, none⟩ = false := by
  simp [World.frozen?, show w.heap[B]? = _ from h]
theorem Cells.below {w w' : World} {B C : Nat} {cs : Array Value} {ty : TypeId} (h : Cells w B cs ty) (hb : Below C w w') (hC : B < C) : Cells w' B cs ty := (hb.block B hC).trans h
theorem Cells.new (w : World) (cs : Array Value) (ty : TypeId) : Cells (w.alloc (.cells cs ty)) w.heap.size cs ty := heap_alloc_new w _
theorem Cells.drew {w : World} {B : Nat} {cs : Array Value} {ty : TypeId} (h : Cells w B cs ty) : Cells w.drew B cs ty := h
theorem Cells.drewN {w : World} {B : Nat} {cs : Array Value} {ty : TypeId} (h : Cells w B cs ty) (k : Nat) : Cells (w.drewN k) B cs ty := h
theorem Cells.alloc {w : World} {B : Nat} {cs : Array Value} {ty : TypeId} (h : Cells w B cs ty) (o : Obj) : Cells (w.alloc o) B cs ty := (Below.heap_alloc w o B h.lt).trans h
theorem Cells.set {w : World} {B : Nat} {cs : Array Value} {ty : TypeId} (h : Cells w B cs ty) (j : Nat) (v : Value) : Cells (w.setCell ⟨B, j, none⟩ v) B (cs.setIfInBounds j v) ty := by
  obtain ⟨hlt, hk⟩ := Array.getElem?_eq_some_iff.1 h
  show (w.heap.modify B _)[B]? = _
  rw [Array.getElem?_eq_getElem (by rw [Array.size_modify]; exact hlt), Array.getElem_modify_self, hk]
  rfl
theorem Cells.set_far {w : World} {B C : Nat} {cs : Array Value} {ty : TypeId} (h : Cells w B cs ty) (j : Nat) (v : Value) (hne : B ≠ C) : Cells (w.setCell ⟨C, j, none⟩ v) B cs ty :=
  (Below.heap_setCell w ⟨C, j, none⟩ v B hne).trans h
theorem cells_type {w : World} {b : Nat} {cs cs' : Array Value} {t t' : TypeId} (h : Cells w b cs t) (h' : w.heap[b]? = some (Obj.cells cs' t')) : t = t' := by
  have := (show w.heap[b]? = _ from h).symm.trans h'
  simp at this
  exact this.2
/-- Blocks of different types are different. -/
theorem Cells.ne {w : World} {b c : Nat} {cs cs' : Array Value} {t t' : TypeId} (h : Cells w b cs t) (h' : Cells w c cs' t') (ht : t ≠ t') : b ≠ c := fun e => by subst e; exact ht (cells_type h h')
theorem cell_one {w : World} {B : Nat} {v : Value} {ty : TypeId} (h : Cells w B #[v] ty) : w.cell? ⟨B, 0, none⟩ = some v := by simp [h.cell]
theorem drewN_below {B : Nat} {a w : World} (h : Below B a w) (k : Nat) : Below B a (w.drewN k) := ⟨h.os, h.tape, h.output, h.size, h.block⟩
theorem size_setCell (w : World) (p : Addr) (v : Value) : (w.setCell p v).heap.size = w.heap.size := by
  unfold World.setCell
  split <;> simp

/-- Only blocks of a set are changed. -/
structure Kept (X : Nat → Prop) (w w' : World) : Prop where
  os : w'.os = w.os
  tape : w'.tape = w.tape
  output : w'.output = w.output
  size : w.heap.size ≤ w'.heap.size
  block : ∀ k, k < w.heap.size → ¬ X k → w'.heap[k]? = w.heap[k]?
theorem Kept.refl (X : Nat → Prop) (w : World) : Kept X w w := ⟨rfl, rfl, rfl, Nat.le_refl _, fun _ _ _ => rfl⟩
theorem Kept.trans {X Y : Nat → Prop} {w w' w'' : World} (h : Kept X w w') (g : Kept Y w' w'') (hY : ∀ k, k < w.heap.size → Y k → X k) : Kept X w w'' :=
  ⟨g.os.trans h.os, g.tape.trans h.tape, g.output.trans h.output, Nat.le_trans h.size g.size, fun k hk hx => (g.block k (Nat.lt_of_lt_of_le hk h.size) (fun hy => hx (hY k hk hy))).trans (h.block k hk hx)⟩
theorem Kept.of_below {X : Nat → Prop} {w w' : World} (h : Below w.heap.size w w') : Kept X w w' := ⟨h.os, h.tape, h.output, h.size, fun k hk _ => h.block k hk⟩
theorem Kept.below {X : Nat → Prop} {w w' : World} {B : Nat} (h : Kept X w w') (hB : B ≤ w.heap.size) (hX : ∀ k, X k → B ≤ k) : Below B w w' :=
  ⟨h.os, h.tape, h.output, h.size, fun k hk => h.block k (Nat.lt_of_lt_of_le hk hB) (fun hx => by have := hX k hx; omega)⟩
theorem Kept.mono {X Y : Nat → Prop} {w w' : World} (h : Kept X w w') (hX : ∀ k, X k → Y k) : Kept Y w w' := ⟨h.os, h.tape, h.output, h.size, fun k hk hy => h.block k hk (fun hx => hy (hX k hx))⟩
theorem Kept.set {X : Nat → Prop} {w w' : World} (h : Kept X w w') {C : Nat} (hC : X C) (j : Nat) (v : Value) : Kept X w (w'.setCell ⟨C, j, none⟩ v) :=
  ⟨by rw [← h.os]; unfold World.setCell; split <;> rfl, by rw [← h.tape]; unfold World.setCell; split <;> rfl, by rw [← h.output]; unfold World.setCell; split <;> rfl, by rw [size_setCell]; exact h.size,
    fun k hk hx => (Below.heap_setCell w' ⟨C, j, none⟩ v k (fun e => hx (by rw [show k = C from e]; exact hC))).trans (h.block k hk hx)⟩
theorem Kept.alloc {X : Nat → Prop} {w w' : World} (h : Kept X w w') (o : Obj) : Kept X w (w'.alloc o) :=
  h.trans (Kept.of_below (X := X) ((Below.refl _ _).alloc (Nat.le_refl _) _)) (fun _ _ h => h)
theorem Kept.drewN {X : Nat → Prop} {w w' : World} (h : Kept X w w') (k : Nat) : Kept X w (w'.drewN k) := ⟨h.os, h.tape, h.output, h.size, h.block⟩
theorem Kept.drew {X : Nat → Prop} {w w' : World} (h : Kept X w w') : Kept X w w'.drew := ⟨h.os, h.tape, h.output, h.size, h.block⟩
theorem Cells.kept {X : Nat → Prop} {w w' : World} {b : Nat} {cs : Array Value} {ty : TypeId} (h : Cells w b cs ty) (hk : Kept X w w') (hx : ¬ X b) : Cells w' b cs ty := (hk.block b h.lt hx).trans h

section
variable {α : Type} {enc : α → List Value} {sz : Nat}
/-- The cells of a list, one element behind the other. -/
def flatE (enc : α → List Value) (l : List α) : List Value := l.flatMap enc
theorem flatE_nil : flatE enc [] = [] := rfl
theorem flatE_append (l m : List α) : flatE enc (l ++ m) = flatE enc l ++ flatE enc m := by simp [flatE]
theorem flatE_snoc (l : List α) (a : α) : flatE enc (l ++ [a]) = flatE enc l ++ enc a := by simp [flatE]
theorem flatE_cons (l : List α) (a : α) : flatE enc (a :: l) = enc a ++ flatE enc l := by simp [flatE]
theorem flatE_length (h : ∀ a, (enc a).length = sz) (l : List α) : (flatE enc l).length = l.length * sz := by
  induction l with
  | nil => simp [flatE]
  | cons a l ih => rw [flatE_cons, List.length_append, h, ih, List.length_cons, Nat.succ_mul, Nat.add_comm]
theorem flatE_get (h : ∀ a, (enc a).length = sz) : ∀ (l : List α) (k : Nat) (hk : k < l.length) (j : Nat), j < sz → (flatE enc l)[k * sz + j]? = (enc l[k])[j]?
  | [], k, hk, _, _ => absurd hk (by simp)
  | a :: l, 0, _, j, hj => by rw [flatE_cons, Nat.zero_mul, Nat.zero_add, List.getElem?_append_left (by rw [h]; exact hj)]; rfl
  | a :: l, k + 1, hk, j, hj => by
    rw [flatE_cons, List.getElem?_append_right (by rw [h, Nat.succ_mul]; omega), h, show (k + 1) * sz + j - sz = k * sz + j by rw [Nat.succ_mul]; omega, flatE_get h l k (by simpa using hk) j hj]
    rfl
/-- A slice value that reads as a list of elements. -/
def ReadsE (enc : α → List Value) (sz : Nat) (w : World) (v : Value) (l : List α) : Prop :=
  l.length ≤ 9223372036854775807 ∧ ∃ p cap b off, v = .slice p l.length cap ∧ (0 < l.length → p = some ⟨b, off, none⟩ ∧ b < w.heap.size) ∧
    ∀ (k : Nat) (hk : k < l.length) (j : Nat), j < sz → w.cell? ⟨b, off + k * sz + j, none⟩ = (enc l[k])[j]?
theorem ReadsE.below {w w' : World} {v : Value} {l : List α} (h : ReadsE enc sz w v l) (hb : Below w.heap.size w w') : ReadsE enc sz w' v l := by
  obtain ⟨hm, p, cap, b, off, hv, hp, hc⟩ := h
  exact ⟨hm, p, cap, b, off, hv, fun h0 => ⟨(hp h0).1, Nat.lt_of_lt_of_le (hp h0).2 hb.size⟩, fun k hk j hj => (hb.cell (p := ⟨b, off + k * sz + j, none⟩) (hp (by omega)).2).trans (hc k hk j hj)⟩
theorem ReadsE.drewN {w : World} {v : Value} {l : List α} (h : ReadsE enc sz w v l) (n : Nat) : ReadsE enc sz (w.drewN n) v l := h
theorem ReadsE.alloc {w : World} {v : Value} {l : List α} (h : ReadsE enc sz w v l) (o : Obj) : ReadsE enc sz (w.alloc o) v l := h.below ((Below.refl _ _).alloc (Nat.le_refl _) _)
theorem ReadsE.nil (w : World) (p : Option Addr) (cap : Nat) : ReadsE enc sz w (.slice p 0 cap) ([] : List α) := ⟨by simp, p, cap, 0, 0, rfl, fun h => absurd h (by simp), fun k hk => absurd hk (by simp)⟩
/-- A slice in an own row from block B on. -/
def OwnE (enc : α → List Value) (sz : Nat) (e : TypeId) (B : Nat) (w : World) (v : Value) (l : List α) : Prop := w.ownsRow B e sz v l.length (flatE enc l)
variable {e : TypeId}
theorem OwnE.nil (B : Nat) (w : World) : OwnE enc sz e B w (.slice none 0 0) ([] : List α) := ⟨by simp [flatE], .inl ⟨rfl, rfl⟩⟩
theorem ownsRow_moved {w w' : World} {B : Nat} {e : TypeId} {size : Nat} {v : Value} {n : Nat} {xs : List Value} (h : w.ownsRow B e size v n xs) (hb : ∀ (b : Nat) (cs : Array Value), B ≤ b → v.ownBlock = some b → w.heap[b]? = some (Obj.cells cs e) → w'.heap[b]? = w.heap[b]?) : w'.ownsRow B e size v n xs := by
  refine ⟨h.1, h.2.imp id ?_⟩
  rintro ⟨g, c, cur, h1, h2, h3, h4⟩
  exact ⟨g, c, cur, h1, h2, (hb g cur h2 (by rw [h1]; rfl) h3).trans h3, h4⟩
theorem OwnE.moved {B : Nat} {w w' : World} {v : Value} {l : List α} (h : OwnE enc sz e B w v l) (hb : ∀ (b : Nat) (cs : Array Value), B ≤ b → v.ownBlock = some b → w.heap[b]? = some (Obj.cells cs e) → w'.heap[b]? = w.heap[b]?) : OwnE enc sz e B w' v l := ownsRow_moved h hb
theorem OwnE.below {B : Nat} {W W' : World} {v : Value} {l : List α} (h : OwnE enc sz e B W v l) (hb : Below W.heap.size W W') : OwnE enc sz e B W' v l :=
  ownsRow_moved h fun b cs _ _ hb' => hb.block b (Array.getElem?_eq_some_iff.1 hb').1
theorem OwnE.kept {X : Nat → Prop} {B : Nat} {W W' : World} {v : Value} {l : List α} (h : OwnE enc sz e B W v l) (hk : Kept X W W') (hx : ∀ b, v.ownBlock = some b → ¬ X b) : OwnE enc sz e B W' v l :=
  ownsRow_moved h fun b cs _ ho hb' => hk.block b (Array.getElem?_eq_some_iff.1 hb').1 (hx b ho)
theorem OwnE.alloc {B : Nat} {W : World} {v : Value} {l : List α} (h : OwnE enc sz e B W v l) (o : Obj) : OwnE enc sz e B (W.alloc o) v l := h.below ((Below.refl _ _).alloc (Nat.le_refl _) _)
theorem OwnE.drewN {B : Nat} {W : World} {v : Value} {l : List α} (h : OwnE enc sz e B W v l) (n : Nat) : OwnE enc sz e B (W.drewN n) v l := ownsRow_moved h fun _ _ _ _ _ => rfl
theorem OwnE.drew {B : Nat} {W : World} {v : Value} {l : List α} (h : OwnE enc sz e B W v l) : OwnE enc sz e B W.drew v l := ownsRow_moved h fun _ _ _ _ _ => rfl
theorem OwnE.mono {B B' : Nat} {W : World} {v : Value} {l : List α} (h : OwnE enc sz e B W v l) (hb : B' ≤ B) : OwnE enc sz e B' W v l := World.ownsRow.mono h hb
theorem OwnE.set {B : Nat} {W : World} {v : Value} {l : List α} (h : OwnE enc sz e B W v l) {C : Nat} {cs : Array Value} {ty : TypeId} (hc : Cells W C cs ty) (ht : ty ≠ e) (j : Nat) (u : Value) : OwnE enc sz e B (W.setCell ⟨C, j, none⟩ u) v l :=
  ownsRow_moved h fun b cs' _ _ hb' => Below.heap_setCell W ⟨C, j, none⟩ u b (fun h => by have h' : b = C := h; subst h'; exact ht (cells_type hc hb'))
/-- What a value looks like that owns a row, nil or not. -/
theorem OwnE.form {B : Nat} {W : World} {v : Value} {l : List α} (h : OwnE enc sz e B W v l) : ∃ p cap, v = .slice p l.length cap ∧ (p = none ∧ l = [] ∨ ∃ g, p = some ⟨g, 0, none⟩ ∧ B ≤ g ∧ g < W.heap.size) := by
  rcases h.2 with ⟨h1, h2⟩ | ⟨g, cap, cur, hv, hb, hg, _⟩
  · exact ⟨none, 0, by rw [h1, h2], .inl ⟨rfl, List.length_eq_zero_iff.1 h2⟩⟩
  · exact ⟨_, cap, hv, .inr ⟨g, rfl, hb, (Array.getElem?_eq_some_iff.1 hg).1⟩⟩
/-- The cells of an own row. -/
theorem OwnE.cells (hlen : ∀ a, (enc a).length = sz) {B : Nat} {w : World} {v : Value} {l : List α} (h : OwnE enc sz e B w v l) : ∃ p cap b, v = .slice p l.length cap ∧ (0 < l.length → p = some ⟨b, 0, none⟩ ∧ B ≤ b ∧ b < w.heap.size) ∧
    ∀ (k : Nat) (hk : k < l.length) (j : Nat), j < sz → w.cell? ⟨b, k * sz + j, none⟩ = (enc l[k])[j]? := by
  rcases h.2 with ⟨h1, h2⟩ | ⟨g, cap, cur, hv, hb, hg, h3⟩
  · exact ⟨none, 0, 0, by rw [h1, h2], fun h0 => by omega, fun k hk => by omega⟩
  · subst hv
    refine ⟨_, cap, g, rfl, fun _ => ⟨rfl, hb, (Array.getElem?_eq_some_iff.1 hg).1⟩, fun k hk j hj => ?_⟩
    rw [World.ownsRow.cellAt h _ (by have : k * sz + sz ≤ l.length * sz := by { rw [← Nat.succ_mul]; exact Nat.mul_le_mul_right _ hk }; omega), flatE_get hlen l k hk j hj]
end
/-- The new cells of an append, read out of their block. -/
theorem news_of {w : World} {B : Nat} {cs : Array Value} {t : TypeId} (h : Cells w B cs t) : ∀ j u, cs.toList[j]? = some u → w.cell? ((⟨B, 0, none⟩ : Addr).add j) = some u := World.news_of_block h
theorem news_at {w : World} {B : Nat} {cs : Array Value} {t : TypeId} (h : Cells w B cs t) : ∀ j u, cs.toList[j]? = some u → w.cell? ⟨B, j, none⟩ = some u := fun j u hu => by
  rw [h.cell]; simpa using hu
end Go.Proofs.Ytdjhpldiifdifaa
namespace Go.Proofs.Ytdjhpldiifdifaa
set_option linter.unusedSimpArgs false
set_option linter.unusedVariables false
open Go.RowKit

@[reducible] def pt (b : Nat) : Value := .pointer (some ⟨b, 0, none⟩)
/-- A pointer to a block, or nil. -/
def op : Option Nat → Value
  | none => .pointer none
  | some b => pt b
theorem op_none : op none = .pointer none := rfl
theorem op_some (b : Nat) : op (some b) = .pointer (some ⟨b, 0, none⟩) := rfl
/-- The first element's block; the last one's. -/
def headO : List (Nat × Nat) → Option Nat → Option Nat
  | [], o => o
  | x :: _, _ => some x.1
def lastO : List (Nat × Nat) → Option Nat → Option Nat
  | [], o => o
  | x :: l, _ => lastO l (some x.1)
/-- Elements (element's block, item's block), linked behind one another. -/
def DL (w : World) : Option Nat → List (Nat × Nat) → Option Nat → Prop
  | _, [], _ => True
  | prev, x :: l, next => Cells w x.1 #[op prev, op (headO l next), pt x.2] 115 ∧ DL w (some x.1) l next
theorem headO_app (l m : List (Nat × Nat)) (o : Option Nat) : headO (l ++ m) o = headO l (headO m o) := by cases l <;> rfl
theorem lastO_app : ∀ (l m : List (Nat × Nat)) (o : Option Nat), lastO (l ++ m) o = lastO m (lastO l o)
  | [], _, _ => rfl
  | x :: l, m, _ => lastO_app l m (some x.1)
theorem DL.split {w : World} : ∀ {l m : List (Nat × Nat)} {a b : Option Nat}, DL w a (l ++ m) b ↔ DL w a l (headO m b) ∧ DL w (lastO l a) m b
  | [], m, a, b => by simp [DL, lastO]
  | x :: l, m, a, b => by
    simp only [List.cons_append, DL, lastO, headO_app]
    rw [DL.split (l := l) (m := m)]
    exact and_assoc.symm
theorem DL.kept {X : Nat → Prop} {w w' : World} (hk : Kept X w w') : ∀ {l : List (Nat × Nat)} {a b : Option Nat}, DL w a l b → (∀ x ∈ l, ¬ X x.1) → DL w' a l b
  | [], _, _, _, _ => trivial
  | x :: l, a, b, h, hx => ⟨h.1.kept hk (hx x (by simp)), DL.kept hk h.2 (fun y hy => hx y (List.mem_cons_of_mem _ hy))⟩
theorem DL.mem {w : World} : ∀ {l : List (Nat × Nat)} {a b : Option Nat}, DL w a l b → ∀ x ∈ l, ∃ cs, Cells w x.1 cs 115
  | [], _, _, _, x, hx => by simp at hx
  | y :: l, a, b, h, x, hx => by
    rcases List.mem_cons.1 hx with rfl | hx
    · exact ⟨_, h.1⟩
    · exact DL.mem h.2 x hx
/-- A level: its price and its queue. -/
structure Lst (w : World) (L : Nat) (p : Int) (es : List (Nat × Nat)) : Prop where
  c : Cells w L #[.int .i64 p, op (headO es none), op (lastO es none), .int .i64 es.length] 113
  l : DL w none es none
  n : (es.map Prod.fst).Nodup
/-- The blocks of a level. -/
def Lst.foot (L : Nat) (es : List (Nat × Nat)) (k : Nat) : Prop := k = L ∨ k ∈ es.map Prod.fst
theorem Lst.kept {X : Nat → Prop} {w w' : World} {L : Nat} {p : Int} {es : List (Nat × Nat)} (h : Lst w L p es) (hk : Kept X w w') (hx : ∀ k, Lst.foot L es k → ¬ X k) : Lst w' L p es :=
  ⟨h.c.kept hk (hx L (.inl rfl)), h.l.kept hk (fun x hm => hx x.1 (.inr (List.mem_map.2 ⟨x, hm, rfl⟩))), h.n⟩
theorem Lst.lt {w : World} {L : Nat} {p : Int} {es : List (Nat × Nat)} (h : Lst w L p es) : ∀ k, Lst.foot L es k → k < w.heap.size := by
  rintro k (rfl | hk)
  · exact h.c.lt
  · obtain ⟨x, hx, rfl⟩ := List.mem_map.1 hk
    obtain ⟨cs, hc⟩ := h.l.mem x hx
    exact hc.lt
theorem lastO_snoc (l : List (Nat × Nat)) (x : Nat × Nat) (o : Option Nat) : lastO (l ++ [x]) o = some x.1 := by rw [lastO_app]; rfl
theorem snoc_cases {α : Type} (l : List α) : l = [] ∨ ∃ L q, l = L ++ [q] := by
  rcases List.eq_nil_or_concat l with h | ⟨L, q, h⟩
  · exact .inl h
  · exact .inr ⟨L, q, by rw [h, List.concat_eq_append]⟩
theorem el_lv : (115 : TypeId) ≠ 113 := by decide
/-- An item came to the end of a list that was empty. -/
theorem Lst.push0 {w' : World} {L : Nat} {p : Int} {E i : Nat} (h1 : Cells w' L #[.int .i64 p, pt E, pt E, .int .i64 1] 113) (h2 : Cells w' E #[.pointer none, .pointer none, pt i] 115) : Lst w' L p ([] ++ [(E, i)]) :=
  ⟨h1, ⟨h2, trivial⟩, by simp⟩
/-- An item came to the end of a list. -/
theorem Lst.push1 {w w' : World} {L : Nat} {p : Int} {M : List (Nat × Nat)} {q : Nat × Nat} {E i : Nat} (h : Lst w L p (M ++ [q])) (hE : w.heap.size ≤ E) (hk : Kept (fun k => k = L ∨ k = q.1) w w')
    (h1 : Cells w' L #[.int .i64 p, op (headO (M ++ [q]) none), pt E, .int .i64 ((M ++ [q]).length + 1)] 113) (h2 : Cells w' E #[pt q.1, .pointer none, pt i] 115) (h3 : Cells w' q.1 #[op (lastO M none), pt E, pt q.2] 115) : Lst w' L p ((M ++ [q]) ++ [(E, i)]) := by
  obtain ⟨d1, d2⟩ := DL.split.1 h.l
  have hn := h.n
  rw [List.map_append, List.nodup_append] at hn
  refine ⟨?_, ?_, ?_⟩
  · have e : headO ((M ++ [q]) ++ [(E, i)]) none = headO (M ++ [q]) none := by cases M <;> rfl
    have e2 : (((M ++ [q]) ++ [(E, i)]).length : Int) = ((M ++ [q]).length : Int) + 1 := by rw [List.length_append]; rfl
    rw [lastO_snoc, e, e2]
    exact h1
  · rw [List.append_assoc]
    refine DL.split.2 ⟨d1.kept hk (fun x hx => ?_), h3, h2, trivial⟩
    rintro (h4 | h4)
    · obtain ⟨cs, hc⟩ := d1.mem x hx
      exact hc.ne h.c el_lv h4
    · exact hn.2.2 x.1 (List.mem_map.2 ⟨x, hx, rfl⟩) q.1 (by simp) h4
  · rw [List.map_append, List.nodup_append]
    refine ⟨by rw [List.map_append, List.nodup_append]; exact hn, by simp, fun a ha b hb => ?_⟩
    simp only [List.map_cons, List.map_nil, List.mem_cons, List.not_mem_nil, or_false] at hb
    have := h.lt a (.inr ha)
    omega
/-- An element was taken out. -/
theorem Lst.cut {w w' : World} {L : Nat} {p : Int} {pre post : List (Nat × Nat)} {x : Nat × Nat} (h : Lst w L p (pre ++ x :: post)) (hk : Kept (fun k => k = L ∨ k = x.1 ∨ some k = lastO pre none ∨ some k = headO post none) w w')
    (h1 : Cells w' L #[.int .i64 p, op (headO (pre ++ post) none), op (lastO (pre ++ post) none), .int .i64 ((pre ++ post).length)] 113)
    (h2 : ∀ M q, pre = M ++ [q] → Cells w' q.1 #[op (lastO M none), op (headO post none), pt q.2] 115)
    (h3 : ∀ q M, post = q :: M → Cells w' q.1 #[op (lastO pre none), op (headO M none), pt q.2] 115) : Lst w' L p (pre ++ post) := by
  have hn := h.n
  rw [List.map_append, List.map_cons] at hn
  obtain ⟨n1, n2, n3⟩ := List.nodup_append.1 hn
  obtain ⟨n4, n5⟩ := List.nodup_cons.1 n2
  obtain ⟨d1, d2⟩ := DL.split.1 h.l
  refine ⟨h1, DL.split.2 ⟨?_, ?_⟩, ?_⟩
  · rcases snoc_cases pre with rfl | ⟨M, q, rfl⟩
    · trivial
    · obtain ⟨e1, e2⟩ := DL.split.1 d1
      have nM := n1
      rw [List.map_append, List.nodup_append] at nM
      refine DL.split.2 ⟨e1.kept hk (fun y hy => ?_), h2 M q rfl, trivial⟩
      have hyM : y.1 ∈ M.map Prod.fst := List.mem_map.2 ⟨y, hy, rfl⟩
      rintro (h4 | h4 | h4 | h4)
      · obtain ⟨cs, hc⟩ := e1.mem y hy
        exact hc.ne h.c el_lv h4
      · exact n3 y.1 (by rw [List.map_append]; exact List.mem_append_left _ hyM) x.1 (by simp) h4
      · rw [lastO_snoc] at h4
        injection h4 with h4
        exact nM.2.2 y.1 hyM q.1 (by simp) h4
      · cases post with
        | nil => cases h4
        | cons z post =>
          injection h4 with h4
          exact n3 y.1 (by rw [List.map_append]; exact List.mem_append_left _ hyM) z.1 (by simp) h4
  · cases post with
    | nil => trivial
    | cons z post =>
      refine ⟨h3 z post rfl, d2.2.2.kept hk (fun y hy => ?_)⟩
      have hyP : y.1 ∈ post.map Prod.fst := List.mem_map.2 ⟨y, hy, rfl⟩
      rintro (h4 | h4 | h4 | h4)
      · obtain ⟨cs, hc⟩ := d2.2.2.mem y hy
        exact hc.ne h.c el_lv h4
      · exact n4 (by rw [← h4]; exact List.mem_cons_of_mem _ hyP)
      · rcases snoc_cases pre with rfl | ⟨M, q, rfl⟩
        · cases h4
        · rw [lastO_snoc] at h4
          injection h4 with h4
          exact n3 q.1 (by simp) y.1 (List.mem_cons_of_mem _ (List.mem_cons_of_mem _ hyP)) h4.symm
      · injection h4 with h4
        exact (List.nodup_cons.1 n5).1 (by rw [← h4]; exact hyP)
  · rw [List.map_append, List.nodup_append]
    exact ⟨n1, n5, fun a ha b hb => n3 a ha b (List.mem_cons_of_mem _ hb)⟩
end Go.Proofs.Ytdjhpldiifdifaa
namespace Go.Proofs.Ytdjhpldiifdifaa
set_option linter.unusedSimpArgs false
set_option linter.unusedVariables false
open Go.RowKit Go.Maps

/-- How a pointer in the map reads. -/
def rdE : Value → Option (DataW Nat × List MemPlace)
  | .pointer none => some (.lit (.int .i64 (-1)), [])
  | .pointer (some ⟨b, 0, none⟩) => some (.lit (.int .i64 b), [])
  | _ => none
theorem rdE_nil : rdE (.pointer none) = some (.lit (.int .i64 (-1)), []) := rfl
theorem rdE_pt (b : Nat) : rdE (pt b) = some (.lit (.int .i64 b), []) := rfl
theorem rdE_inv {v : Value} {z : Int} {ps : List MemPlace} (h : rdE v = some (.lit (.int .i64 z), ps)) : (z = -1 ∧ v = .pointer none) ∨ ∃ b : Nat, z = b ∧ v = pt b := by
  unfold rdE at h
  split at h
  · simp only [Option.some.injEq, Prod.mk.injEq, DataW.lit.injEq, Lit.int.injEq, true_and] at h
    exact .inl ⟨h.1.symm, rfl⟩
  · rename_i b
    simp only [Option.some.injEq, Prod.mk.injEq, DataW.lit.injEq, Lit.int.injEq, true_and] at h
    exact .inr ⟨b, h.1.symm, rfl⟩
  · cases h
theorem kInt : Keyed Try.prog 3 := int_keyed (q := .i64) (by kernel_rfl)
theorem mapUnder : Try.prog.underlying 88 = some (.map 3 92) := by kernel_rfl
theorem zeroEnt (w : World) : (zeroValue 92).run Try.prog w = .ok (.pointer none) w := by kernel_rfl
theorem keyInt {k : Int} (h : (Lit.int .i64 k).wf = true) : keyOf Try.prog 3 (.int .i64 k) = some (.int .i64 k) := keyOf_int_mk (by kernel_rfl) h

/-- What a list of pairs has at a key. -/
def getM (l : List (Int × Nat)) (k : Int) : Option Nat := (l.find? fun x => decide (x.1 = k)).map Prod.snd
theorem getM_mem {l : List (Int × Nat)} {k : Int} {b : Nat} (h : getM l k = some b) : (k, b) ∈ l := by
  unfold getM at h
  simp only [Option.map_eq_some_iff] at h
  obtain ⟨x, hx, rfl⟩ := h
  have h1 := List.mem_of_find?_eq_some hx
  have h2 := List.find?_some hx
  simp only [decide_eq_true_eq] at h2
  subst h2
  exact h1
theorem getM_none {l : List (Int × Nat)} {k : Int} (h : getM l k = none) : k ∉ l.map Prod.fst := by
  unfold getM at h
  simp only [Option.map_eq_none_iff, List.find?_eq_none, decide_eq_true_eq] at h
  intro hm
  obtain ⟨x, hx, hk⟩ := List.mem_map.1 hm
  exact h x hx hk
/-- The map in block b reads as a list of pairs. -/
structure MapC (w : World) (b : Nat) (l : List (Int × Nat)) : Prop where
  nodup : (l.map Prod.fst).Nodup
  wf : ∀ x ∈ l, (Lit.int .i64 x.1).wf = true
  own : ∃ D : DataW Nat, w.ownsMap Try.prog 3 rdE b l.length D ∧ Maps.size D = l.length ∧ (∀ x ∈ l, ∀ z, D.atKey (.int .i64 x.1) z = .lit (.int .i64 x.2)) ∧ ∀ k, k ∉ l.map Prod.fst → Maps.has D (.int .i64 k) = false
theorem own_tight {P : Program} {k : TypeId} {R : Value → Option (DataW Nat × List MemPlace)} {w : World} {b n : Nat} {D : DataW Nat} (h : w.ownsMap P k R b n D) : w.ownsMap P k R b (Maps.size D) D := by
  obtain ⟨es, clock, hb, F, hs, rfl⟩ := h
  exact ⟨es, clock, hb, F, by simp [Maps.size, length_sorted], rfl⟩
theorem MapC.perm {w : World} {b : Nat} {l m : List (Int × Nat)} (h : MapC w b l) (hp : l.Perm m) : MapC w b m := by
  obtain ⟨D, h1, h2, h3, h4⟩ := h.own
  refine ⟨(hp.map _).nodup_iff.1 h.nodup, fun x hx => h.wf x (hp.mem_iff.2 hx), D, hp.length_eq ▸ h1, hp.length_eq ▸ h2, fun x hx => h3 x (hp.mem_iff.2 hx), fun k hk => h4 k (fun hm => hk ((hp.map _).mem_iff.1 hm))⟩
theorem MapC.kept {X : Nat → Prop} {w w' : World} {b : Nat} {l : List (Int × Nat)} (h : MapC w b l) (hk : Kept X w w') (hx : ¬ X b) : MapC w' b l := by
  obtain ⟨D, ⟨es, clock, hb, hr⟩, hs⟩ := h.own
  exact ⟨h.nodup, h.wf, D, ⟨es, clock, (hk.block b (Array.getElem?_eq_some_iff.1 hb).1 hx).trans hb, hr⟩, hs⟩
theorem MapC.lt {w : World} {b : Nat} {l : List (Int × Nat)} (h : MapC w b l) : b < w.heap.size := by
  obtain ⟨D, h1, _⟩ := h.own
  exact h1.lt
theorem MapC.new (w : World) : MapC (w.alloc (.map #[] 0)) w.heap.size [] :=
  ⟨by simp, by simp, .map [], World.ownsMap_made w _ _ _, rfl, by simp, fun k _ => rfl⟩
theorem MapC.ne {w : World} {b c : Nat} {l : List (Int × Nat)} (h : MapC w b l) {cs : Array Value} {ty : TypeId} (hc : Cells w c cs ty) : c ≠ b := by
  obtain ⟨D, ⟨es, clock, hb, hr⟩, hs⟩ := h.own
  rintro rfl
  have := (show w.heap[c]? = _ from hc).symm.trans hb
  simp at this
theorem Kept.of_turned {w w' : World} {b : Nat} (h : w.mapTurned w' b) : Kept (fun k => k = b) w w' := by
  have hg := h.grown
  exact ⟨hg.os, hg.tape, hg.output, hg.size, fun k hk hx => hg.block k hk (fun e => hx (by injection e))⟩
/-- m[k]. -/
theorem MapC.look {w : World} {b : Nat} {l : List (Int × Nat)} (h : MapC w b l) {k : Int} (hk : (Lit.int .i64 k).wf = true) :
    (Instr.lookup 88 (.map (some b)) (.int .i64 k) false).run Try.prog w = .ok (op (getM l k)) w := by
  obtain ⟨D, h1, h2, h3, h4⟩ := h.own
  obtain ⟨v, ps, hr, hv⟩ := h1.lookup kInt mapUnder (zeroEnt w) rdE_nil (keyInt hk)
  rw [hr]
  cases hg : getM l k with
  | none =>
    have hn := h4 k (getM_none hg)
    rw [Maps.atKey_of_not_has hn] at hv
    rcases rdE_inv hv with ⟨_, rfl⟩ | ⟨b', hb, _⟩
    · rfl
    · omega
  | some e =>
    have hm := getM_mem hg
    rw [h3 _ hm] at hv
    rcases rdE_inv hv with ⟨hb, _⟩ | ⟨b', hb, rfl⟩
    · simp only at hb; omega
    · simp only at hb
      obtain rfl : e = b' := by omega
      rfl
/-- len(m). -/
theorem MapC.len {w : World} {b : Nat} {l : List (Int × Nat)} (h : MapC w b l) (ty : TypeId) : (Builtin.len_ #[88] ty #[.map (some b)]).run Try.prog w = .ok (.int .i64 l.length) w := by
  obtain ⟨D, h1, h2, _⟩ := h.own
  rw [h1.len mapUnder ty, h2]
/-- delete(m, k). -/
theorem MapC.drop {w : World} {b : Nat} {l : List (Int × Nat)} {k : Int} {e : Nat} (h : MapC w b ((k, e) :: l)) (ty : TypeId) :
    ∃ w', (Builtin.delete_ #[88, 3] ty #[.map (some b), .int .i64 k]).run Try.prog w = .ok (.tuple #[]) w' ∧ MapC w' b l ∧ Kept (fun k => k = b) w w' := by
  obtain ⟨D, h1, h2, h3, h4⟩ := h.own
  have hn := h.nodup
  rw [List.map_cons, List.nodup_cons] at hn
  have hkey := keyInt (h.wf (k, e) (by simp))
  obtain ⟨w', hr, h5, h6⟩ := h1.drop kInt mapUnder hkey ty
  have hh : Maps.has D (.int .i64 k) = true := Maps.has_true_of_atKey (h3 (k, e) (by simp))
  have hsz := Maps.size_del (h1.tidy kInt) (k := .int .i64 k)
  rw [hh, h2] at hsz
  simp only [if_true, List.length_cons, Nat.add_right_cancel_iff] at hsz
  refine ⟨w', hr, ⟨hn.2, fun x hx => h.wf x (List.mem_cons_of_mem _ hx), _, hsz ▸ own_tight h5, hsz, fun x hx z => ?_, fun j hj => ?_⟩, Kept.of_turned h6⟩
  · have hne : x.1 ≠ k := fun he => hn.1 (List.mem_map.2 ⟨x, hx, he⟩)
    rw [Maps.atKey_del_other (by simpa using hne)]
    exact h3 x (List.mem_cons_of_mem _ hx) z
  · by_cases hjk : j = k
    · subst hjk
      exact Maps.has_del_same
    · rw [Maps.has_del_other (by simpa using hjk)]
      exact h4 j (by simp only [List.map_cons, List.mem_cons, not_or]; exact ⟨hjk, hj⟩)
/-- m[k] = e, k not in m. -/
theorem MapC.put {w : World} {b : Nat} {l : List (Int × Nat)} {k : Int} {e : Nat} (h : MapC w b l) (hlen : l.length ≤ 1000000) (hk : (Lit.int .i64 k).wf = true) (hnew : k ∉ l.map Prod.fst) :
    ∃ w', (Instr.mapUpdate 88 (.map (some b)) (.int .i64 k) (pt e)).run Try.prog w = .ok () w' ∧ MapC w' b ((k, e) :: l) ∧ Kept (fun k => k = b) w w' := by
  obtain ⟨D, h1, h2, h3, h4⟩ := h.own
  obtain ⟨w', hr, h5, h6⟩ := h1.store kInt mapUnder (by unfold maxLen; omega) (keyInt hk) (rdE_pt e)
  have hsz := Maps.size_put (h1.tidy kInt) (k := .int .i64 k) (d := .lit (.int .i64 e))
  rw [h4 k hnew, h2] at hsz
  simp only [Bool.false_eq_true, if_false] at hsz
  have hkl : WideAt.IsKeyLit (.int .i64 k) := by simp [WideAt.IsKeyLit]
  refine ⟨w', hr, ⟨?_, fun x hx => ?_, _, h5, by rw [hsz]; rfl, fun x hx z => ?_, fun j hj => ?_⟩, Kept.of_turned h6⟩
  · rw [List.map_cons, List.nodup_cons]
    exact ⟨hnew, h.nodup⟩
  · rcases List.mem_cons.1 hx with rfl | hx
    · exact hk
    · exact h.wf x hx
  · rcases List.mem_cons.1 hx with rfl | hx
    · exact Maps.atKey_put_same h1.isMap hkl _ _
    · have hne : x.1 ≠ k := fun he => hnew (List.mem_map.2 ⟨x, hx, he⟩)
      rw [Maps.atKey_put_other (by simpa using hne)]
      exact h3 x hx z
  · simp only [List.map_cons, List.mem_cons, not_or] at hj
    rw [Maps.has_put_other (by simpa using hj.1)]
    exact h4 j hj.2

/-! ### colours -/
/-- From one state of ownership to another one: what is not of the colours C stays. -/
structure Step (C : Nat → Prop) (O : Nat → Nat) (w : World) (O' : Nat → Nat) (w' : World) : Prop where
  os : w'.os = w.os
  tape : w'.tape = w.tape
  output : w'.output = w.output
  size : w.heap.size ≤ w'.heap.size
  old : ∀ k, k < w.heap.size → ¬ C (O k) → w'.heap[k]? = w.heap[k]? ∧ O' k = O k
  col : ∀ k, k < w.heap.size → C (O k) → C (O' k) ∨ O' k = 0
theorem Step.refl (C : Nat → Prop) (O : Nat → Nat) (w : World) : Step C O w O w := ⟨rfl, rfl, rfl, Nat.le_refl _, fun _ _ _ => ⟨rfl, rfl⟩, fun _ _ h => .inl h⟩
theorem Step.trans {C : Nat → Prop} {O O' O'' : Nat → Nat} {w w' w'' : World} (h : Step C O w O' w') (g : Step C O' w' O'' w'') : Step C O w O'' w'' :=
  ⟨g.os.trans h.os, g.tape.trans h.tape, g.output.trans h.output, Nat.le_trans h.size g.size,
    fun k hk hc => by
      obtain ⟨h1, h2⟩ := h.old k hk hc
      obtain ⟨g1, g2⟩ := g.old k (Nat.lt_of_lt_of_le hk h.size) (by rw [h2]; exact hc)
      exact ⟨g1.trans h1, g2.trans h2⟩,
    fun k hk hc => by
      rcases h.col k hk hc with h1 | h1
      · exact g.col k (Nat.lt_of_lt_of_le hk h.size) h1
      · by_cases hz : C 0
        · exact g.col k (Nat.lt_of_lt_of_le hk h.size) (by rw [h1]; exact hz)
        · right
          rw [(g.old k (Nat.lt_of_lt_of_le hk h.size) (by rw [h1]; exact hz)).2, h1]⟩
theorem Step.wider {C C' : Nat → Prop} {O O' : Nat → Nat} {w w' : World} (h : Step C O w O' w') (hc : ∀ c, C c → C' c) : Step C' O w O' w' := by
  refine ⟨h.os, h.tape, h.output, h.size, fun k hk hn => h.old k hk (fun hC => hn (hc _ hC)), fun k hk hC' => ?_⟩
  by_cases hC : C (O k)
  · rcases h.col k hk hC with h1 | h1
    · exact .inl (hc _ h1)
    · exact .inr h1
  · left; rw [(h.old k hk hC).2]; exact hC'
/-- Only blocks of a colour are changed; new ones get a colour. -/
theorem Step.of_kept {O : Nat → Nat} {c d : Nat} {X : Nat → Prop} {w w' : World} (h : Kept X w w') (hX : ∀ k, k < w.heap.size → X k → O k = c) : Step (fun x => x = c) O w (fun k => if k < w.heap.size then O k else d) w' :=
  ⟨h.os, h.tape, h.output, h.size, fun k hk hc => ⟨h.block k hk (fun hx => hc (hX k hk hx)), if_pos hk⟩, fun k hk hc => .inl (by show (if k < w.heap.size then O k else d) = c; rw [if_pos hk]; exact hc)⟩
/-- A block gets another colour. -/
def paint (O : Nat → Nat) (b c : Nat) : Nat → Nat := fun k => if k = b then c else O k
theorem paint_self (O : Nat → Nat) (b c : Nat) : paint O b c b = c := if_pos rfl
theorem paint_far (O : Nat → Nat) {b c k : Nat} (h : k ≠ b) : paint O b c k = O k := if_neg h
theorem Step.paint {C : Nat → Prop} (O : Nat → Nat) (w : World) {b c : Nat} (h1 : C (O b)) (h2 : C c ∨ c = 0) : Step C O w (paint O b c) w := by
  refine ⟨rfl, rfl, rfl, Nat.le_refl _, fun k hk hn => ⟨rfl, paint_far O (fun e => hn (by rw [e]; exact h1))⟩, fun k hk hC => ?_⟩
  by_cases e : k = b
  · rw [e, paint_self]; exact h2
  · rw [paint_far O e]; exact .inl hC
theorem Step.kept {C : Nat → Prop} {O O' : Nat → Nat} {w w' : World} (h : Step C O w O' w') : Kept (fun k => C (O k)) w w' := ⟨h.os, h.tape, h.output, h.size, fun k hk hx => (h.old k hk hx).1⟩
/-- A colour that is left alone. -/
theorem Step.keptD {C : Nat → Prop} {O O' : Nat → Nat} {w w' : World} (h : Step C O w O' w') {d : Nat} (hd : ¬ C d) : Kept (fun k => O k ≠ d) w w' := ⟨h.os, h.tape, h.output, h.size, fun k hk hx => (h.old k hk (by have := Decidable.not_not.1 hx; rw [this]; exact hd)).1⟩
end Go.Proofs.Ytdjhpldiifdifaa
namespace Go.Proofs.Ytdjhpldiifdifaa
set_option linter.unusedSimpArgs false
set_option linter.unusedVariables false
open Go.RowKit

/-- A call of append whose run is known. -/
theorem step_append_run {P : Program} {ops : Array Oper} {o : Oper} {a : Act} {w : World} {K : Act → World → Prop} {Q : Exit → Act → World → Prop} {E : Prop} (hgd : o.guard = none) (s x : Operand) (t : TypeId)
    (ho : o.op = .call { callee := .builtin .append, args := #[s, x], argTypes := #[t, t] }) (sv xv v : Value) (w' : World) (hs : a.eval s = sv) (hx : a.eval x = xv) (hrun : (Builtin.append_ #[t, t] o.type #[sv, xv]).run P w = .ok v w') (hK : K (a.put o.dst v) w') :
    if Region.wanted o (yielded ops a.tmps) = true then Oper.wp P o a w K Q else E := by
  have hw : Region.wanted o (yielded ops a.tmps) = true := by simp [Region.wanted, hgd]
  rw [if_pos hw]
  unfold Oper.wp
  simp [execOp, ho, resolve, invoke, builtin, hs, hx, hrun, Result.andThen]
  exact hK
/-- A call of copy whose run is known. -/
theorem step_copy_run {P : Program} {ops : Array Oper} {o : Oper} {a : Act} {w : World} {K : Act → World → Prop} {Q : Exit → Act → World → Prop} {E : Prop} (hgd : o.guard = none) (s x : Operand) (t : TypeId)
    (ho : o.op = .call { callee := .builtin .copy, args := #[s, x], argTypes := #[t, t] }) (sv xv v : Value) (w' : World) (hs : a.eval s = sv) (hx : a.eval x = xv) (hrun : (Builtin.copy_ #[t, t] o.type #[sv, xv]).run P w = .ok v w') (hK : K (a.put o.dst v) w') :
    if Region.wanted o (yielded ops a.tmps) = true then Oper.wp P o a w K Q else E := by
  have hw : Region.wanted o (yielded ops a.tmps) = true := by simp [Region.wanted, hgd]
  rw [if_pos hw]
  unfold Oper.wp
  simp [execOp, ho, resolve, invoke, builtin, hs, hx, hrun, Result.andThen]
  exact hK
theorem wpList_append_run {P : Program} {w : World} {ops : Array Oper} {rest : List Oper} {o : Oper} {a : Act} {Q : Exit → Act → World → Prop} (hgd : o.guard = none) (s x : Operand) (t : TypeId)
    (ho : o.op = .call { callee := .builtin .append, args := #[s, x], argTypes := #[t, t] }) (sv xv v : Value) (w' : World) (hs : a.eval s = sv) (hx : a.eval x = xv) (hrun : (Builtin.append_ #[t, t] o.type #[sv, xv]).run P w = .ok v w') (h : wpList P ops Q rest (a.put o.dst v) w') :
    wpList P ops Q (o :: rest) a w := by
  refine wpList_plain hgd fun K hK => ?_
  unfold Oper.wp
  simp [execOp, ho, resolve, invoke, builtin, hs, hx, hrun, Result.andThen]
  exact hK _ _ h

abbrev encPt : Nat → List Value := fun b => [pt b]
theorem flat_pt (l : List Nat) : flatE encPt l = l.map pt := by
  induction l with
  | nil => rfl
  | cons a l ih => rw [flatE_cons, ih]; rfl
theorem Kept.of_grown {w w' : World} {r : Option Nat} (h : w.grownBy w' r) : Kept (fun k => some k = r) w w' :=
  ⟨h.os, h.tape, h.output, h.size, fun k hk hx => h.block k hk hx⟩
theorem info_ptr {t : TypeId} (h : (Try.prog.info? t).map (fun i => (i.zero, i.size, i.bytes)) = some (some (.pointer none), 1, 8)) : ∃ i, Try.prog.info? t = some i ∧ i.zero = some (.pointer none) ∧ i.size = 1 ∧ i.bytes = 8 := by
  cases hi : Try.prog.info? t with
  | none => rw [hi] at h; cases h
  | some i =>
    rw [hi] at h
    simp only [Option.map_some, Option.some.injEq, Prod.mk.injEq] at h
    exact ⟨i, rfl, h.1, h.2.1, h.2.2⟩
theorem infoLev : (Try.prog.info? 108).map (fun i => (i.zero, i.size, i.bytes)) = some (some (.pointer none), 1, 8) := by kernel_rfl
theorem infoEnt : (Try.prog.info? 92).map (fun i => (i.zero, i.size, i.bytes)) = some (some (.pointer none), 1, 8) := by kernel_rfl
theorem undLev : Try.prog.underlying 106 = some (.slice 108) := by kernel_rfl
theorem undEnt : Try.prog.underlying 89 = some (.slice 92) := by kernel_rfl
/-- append(s[:i], s[i+1:]...) -/
theorem row_cut {t e ty : TypeId} (ht : Try.prog.underlying t = some (.slice e)) (hi : (Try.prog.info? e).map (fun i => (i.zero, i.size, i.bytes)) = some (some (.pointer none), 1, 8)) {w : World} {b cap : Nat} {pre post : List Nat} {x : Nat}
    (h : OwnE encPt 1 e 0 w (.slice (some ⟨b, 0, none⟩) (pre ++ x :: post).length cap) (pre ++ x :: post)) (hlen : (pre ++ x :: post).length ≤ 1000000) (A : Addr) (hA : 0 < post.length → A = ⟨b, pre.length + 1, none⟩) (c : Nat) :
    ∃ v' w', (Builtin.append_ #[t, t] ty #[.slice (some ⟨b, 0, none⟩) pre.length cap, .slice (some A) post.length c]).run Try.prog w = .ok v' w' ∧ OwnE encPt 1 e 0 w' v' (pre ++ post) ∧ Kept (fun k => k = b) w w' ∧ (v'.ownBlock = some b ∨ v'.ownBlock = some w.heap.size) := by
  obtain ⟨i, hi, hz, hs, hb⟩ := info_ptr hi
  have hown : w.ownsRow 0 e 1 (.slice (some ⟨b, 0, none⟩) pre.length cap) pre.length (flatE encPt pre) := by
    obtain ⟨h1, h2⟩ := h
    rcases h2 with ⟨h2, _⟩ | ⟨g, cap', cur, h2, h3, h4, h5, h6, h7, h8⟩
    · cases h2
    · have e1 : g = b ∧ cap' = cap := by injection h2 with a1 a2 a3; injection a1 with a1; injection a1 with a1; exact ⟨a1.symm, a3.symm⟩
      obtain ⟨rfl, rfl⟩ := e1
      refine ⟨by simp [flat_pt], .inr ⟨g, cap', cur, rfl, h3, h4, by rw [List.length_append] at h5; omega, h6, h7, ?_⟩⟩
      rw [flat_pt] at h8 ⊢
      have := congrArg (List.take pre.length) h8
      rw [List.take_take, List.map_append, List.take_append_of_le_length (by simp), List.length_append, List.length_cons] at this
      rw [show min pre.length ((pre.length + (post.length + 1)) * 1) = pre.length * 1 by omega] at this
      rw [this, List.take_of_length_le (by simp)]
  have hnews : ∀ j u, (flatE encPt post)[j]? = some u → w.cell? (A.add j) = some u := by
    intro j u hu
    have hj : j < post.length := by have := (List.getElem?_eq_some_iff.1 hu).1; rw [flat_pt] at this; simpa using this
    rw [hA (by omega)]
    have hc := World.ownsRow.cellAt h (pre.length + 1 + j) (by rw [List.length_append, List.length_cons]; omega)
    rw [show (⟨b, pre.length + 1, none⟩ : Addr).add j = ⟨b, pre.length + 1 + j, none⟩ by unfold Addr.add; split <;> simp_all]
    rw [hc]
    rw [flat_pt] at hu ⊢
    rw [List.map_append, List.getElem?_append_right (by simp; omega), List.length_map, show pre.length + 1 + j - pre.length = j + 1 by omega]
    exact hu
  obtain ⟨v', w', h1, h2, h3, _, h5⟩ := run_append_own_at w 0 t ty e i (.pointer none) 1 8 ht hi hz hs hb rfl (by omega) _ _ _ hown A post.length c (flatE encPt post) (by simp [flat_pt]) hnews
    (by intro u hu; rw [flat_pt] at hu; obtain ⟨y, _, rfl⟩ := List.mem_map.1 hu; rfl) (by rw [List.length_append, List.length_cons] at hlen; unfold maxLen; omega) (by rw [List.length_append, List.length_cons] at hlen; omega) (by omega)
  refine ⟨v', w', h1, ?_, (Kept.of_grown h3).mono (fun k hk => ?_), ?_⟩
  · unfold OwnE
    rw [flatE_append, List.length_append]
    exact h2
  · injection hk
  · rcases h5 with h5 | h5
    · exact .inl h5
    · exact .inr h5
/-- append(s, nil) -/
theorem row_grow {t e ty : TypeId} (ht : Try.prog.underlying t = some (.slice e)) (hi : (Try.prog.info? e).map (fun i => (i.zero, i.size, i.bytes)) = some (some (.pointer none), 1, 8)) {w : World} {v : Value} {l : List Nat}
    (h : OwnE encPt 1 e 0 w v l) (hlen : l.length ≤ 1000000) (A : Addr) (u : Value) (h1 : u.oneCell' = true) (hA : w.cell? A = some u) (c : Nat) :
    ∃ g cap w' cur, (Builtin.append_ #[t, t] ty #[v, .slice (some A) 1 c]).run Try.prog w = .ok (.slice (some ⟨g, 0, none⟩) (l.length + 1) cap) w' ∧ Cells w' g cur e ∧ l.length + 1 ≤ cap ∧ cap ≤ maxLen ∧ cur.size = cap ∧ cur.toList.take (l.length + 1) = l.map pt ++ [u] ∧
      Kept (fun k => some k = v.ownBlock) w w' ∧ (v.ownBlock = some g ∨ g = w.heap.size) := by
  obtain ⟨i, hi, hz, hs, hb⟩ := info_ptr hi
  have hnews : ∀ j x, [u][j]? = some x → w.cell? (A.add j) = some x := by
    intro j x hu
    have hj : j = 0 := by have := (List.getElem?_eq_some_iff.1 hu).1; simp at this; omega
    subst hj
    rw [show A.add 0 = A from if_pos rfl, hA]
    exact hu
  obtain ⟨v', w', r1, r2, r3, _, r5⟩ := run_append_own_at w 0 t ty e i (.pointer none) 1 8 ht hi hz hs hb rfl (by omega) v l.length (flatE encPt l) h A 1 c [u] rfl hnews (by intro x hx; rw [List.mem_singleton] at hx; rw [hx]; exact h1)
    (by unfold maxLen; omega) (by omega) (by omega)
  obtain ⟨q1, q2⟩ := r2
  rcases q2 with ⟨_, q3⟩ | ⟨g, cap, cur, q3, q4, q5, q6, q7, q8, q9⟩
  · omega
  · subst q3
    refine ⟨g, cap, w', cur, r1, q5, q6, q7, by rw [q8, Nat.mul_one], by rw [Nat.mul_one] at q9; rw [q9, flat_pt], Kept.of_grown r3, ?_⟩
    rcases r5 with r5 | r5
    · exact .inl r5.symm
    · injection r5 with r5
      exact .inr r5
theorem cells_setRow {w : World} {g : Nat} {cur cur' : Array Value} {e : TypeId} (h : Cells w g cur e) : Cells (w.setRow g cur') g cur' e ∧ Kept (fun k => k = g) w (w.setRow g cur') :=
  ⟨setRow_heap w g cur cur' e (0, 0) h, rfl, rfl, rfl, by simp [World.setRow], fun k hk hx => setRow_other w g k cur' hx⟩
/-- copy(s[i+1:], s[i:]) -/
theorem row_shift {t e ty : TypeId} (ht : Try.prog.underlying t = some (.slice e)) (hi : (Try.prog.info? e).map (fun i => (i.zero, i.size, i.bytes)) = some (some (.pointer none), 1, 8)) {w : World} {g cap : Nat} {cur : Array Value} {pre post : List Nat} {u : Value} (hu : u.oneCell' = true)
    (h : Cells w g cur e) (hcap : pre.length + post.length + 1 ≤ cap) (hs : cur.size = cap) (ht2 : cur.toList.take (pre.length + post.length + 1) = pre.map pt ++ (post.map pt ++ [u])) (o : Nat) (ho : 0 < post.length → o = pre.length + 1) (ho2 : o ≤ cap) (c1 c2 : Nat) :
    ∃ x w' cur', (Builtin.copy_ #[t, t] ty #[.slice (some ⟨g, o, none⟩) post.length c1, .slice (some ⟨g, pre.length, none⟩) (post.length + 1) c2]).run Try.prog w = .ok x w' ∧ Cells w' g cur' e ∧ Kept (fun k => k = g) w w' ∧ cur'.size = cap ∧
      cur'.toList.take pre.length = pre.map pt ∧ ∀ j (hj : j < post.length), cur'[pre.length + 1 + j]? = some (pt post[j]) := by
  obtain ⟨i, hi, hz, hsz, hb⟩ := info_ptr hi
  have hcell : ∀ k, k < pre.length + post.length + 1 → cur[k]? = (pre.map pt ++ (post.map pt ++ [u]))[k]? := fun k hk => by
    rw [← ht2, List.getElem?_take, if_pos hk, Array.getElem?_toList]
  have hsrc : ∀ j x, (post.map pt)[j]? = some x → w.cell? ((⟨g, pre.length, none⟩ : Addr).add j) = some x := by
    intro j x hx
    have hj : j < post.length := by have := (List.getElem?_eq_some_iff.1 hx).1; simpa using this
    rw [show (⟨g, pre.length, none⟩ : Addr).add j = ⟨g, pre.length + j, none⟩ by unfold Addr.add; split <;> simp_all]
    rw [h.cell, hcell _ (by omega), List.getElem?_append_right (by simp), List.length_map, show pre.length + j - pre.length = j by omega, List.getElem?_append_left (by simpa using hj)]
    exact hx
  have hrun := run_copy_row Try.prog w t t ty e g o post.length c1 ⟨g, pre.length, none⟩ (post.length + 1) c2 cur e (post.map pt) ht (by rw [hi]; simp [hsz]) h (by rw [List.length_map]; exact (Nat.min_eq_right (by omega)).symm) hsrc
    (by rw [List.length_map, hs]; rcases Nat.eq_zero_or_pos post.length with h0 | h0; omega; rw [ho h0]; omega) (by intro x hx; obtain ⟨y, _, rfl⟩ := List.mem_map.1 hx; rfl)
  have hr := cells_setRow (cur' := (cur.toList.take o ++ post.map pt ++ cur.toList.drop (o + (post.map pt).length)).toArray) h
  refine ⟨_, _, _, hrun, hr.1, hr.2, ?_, ?_, fun j hj => ?_⟩
  · have hl : cur.toList.length = cap := hs
    rcases Nat.eq_zero_or_pos post.length with h0 | h0
    · simp only [List.size_toArray, List.length_append, List.length_take, List.length_map, List.length_drop, hl]; omega
    · rw [ho h0]; simp only [List.size_toArray, List.length_append, List.length_take, List.length_map, List.length_drop, hl]; omega
  · have hp : cur.toList.take pre.length = pre.map pt := by
      have := congrArg (List.take pre.length) ht2
      rw [List.take_take, show min pre.length (pre.length + post.length + 1) = pre.length by omega, List.take_append_of_le_length (by simp), show List.take pre.length (pre.map pt) = pre.map pt from List.take_of_length_le (by simp)] at this
      exact this
    rcases Nat.eq_zero_or_pos post.length with h0 | h0
    · have hp0 : post = [] := List.length_eq_zero_iff.1 h0
      subst hp0
      simp only [List.map_nil, List.append_nil, List.length_nil, Nat.add_zero, List.take_append_drop]
      exact hp
    · rw [ho h0]
      show List.take pre.length (_ ++ _ ++ _) = _
      have hl : (cur.toList.take (pre.length + 1)).length = pre.length + 1 := by rw [List.length_take, show cur.toList.length = cap from hs]; omega
      rw [List.append_assoc, List.take_append_of_le_length (by omega), List.take_take, show min pre.length (pre.length + 1) = pre.length by omega, hp]
  · have h0 : 0 < post.length := by omega
    rw [ho h0]
    have hl : (cur.toList.take (pre.length + 1)).length = pre.length + 1 := by rw [List.length_take, show cur.toList.length = cap from hs]; omega
    rw [List.getElem?_toArray, List.append_assoc, List.getElem?_append_right (by omega), hl, show pre.length + 1 + j - (pre.length + 1) = j by omega, List.getElem?_append_left (by simpa using hj)]
    simp
/-- s[i] = p -/
theorem row_put {e : TypeId} {w : World} {g cap L : Nat} {cur : Array Value} {pre post : List Nat} (h : Cells w g (cur.setIfInBounds pre.length (pt L)) e) (hcap : pre.length + post.length + 1 ≤ cap) (hm : cap ≤ maxLen) (hs : cur.size = cap)
    (h1 : cur.toList.take pre.length = pre.map pt) (h2 : ∀ j (hj : j < post.length), cur[pre.length + 1 + j]? = some (pt post[j])) :
    OwnE encPt 1 e 0 w (.slice (some ⟨g, 0, none⟩) (pre ++ L :: post).length cap) (pre ++ L :: post) := by
  refine ⟨by simp [flat_pt], .inr ⟨g, cap, _, rfl, Nat.zero_le _, h, by rw [List.length_append, List.length_cons]; omega, hm, by rw [Array.size_setIfInBounds, hs, Nat.mul_one], ?_⟩⟩
  rw [flat_pt, Nat.mul_one]
  apply List.ext_getElem?
  intro k
  rw [List.getElem?_take, Array.getElem?_toList]
  by_cases hk : k < (pre ++ L :: post).length
  · rw [if_pos hk]
    rw [List.length_append, List.length_cons] at hk
    rcases Nat.lt_trichotomy k pre.length with hlt | heq | hgt
    · rw [Array.getElem?_setIfInBounds_ne (by omega), List.map_append, List.getElem?_append_left (by simpa using hlt), ← h1, List.getElem?_take, if_pos hlt, Array.getElem?_toList]
    · subst heq
      rw [Array.getElem?_setIfInBounds_self_of_lt (by omega), List.map_append, List.getElem?_append_right (by simp)]
      simp
    · obtain ⟨j, rfl⟩ : ∃ j, k = pre.length + 1 + j := ⟨k - pre.length - 1, by omega⟩
      rw [Array.getElem?_setIfInBounds_ne (by omega), h2 j (by omega), List.map_append, List.getElem?_append_right (by simp; omega), List.length_map, show pre.length + 1 + j - pre.length = j + 1 by omega]
      simp [List.getElem?_eq_getElem (show j < post.length by omega)]
  · rw [if_neg hk, List.getElem?_eq_none (by simpa using hk)]
end Go.Proofs.Ytdjhpldiifdifaa
