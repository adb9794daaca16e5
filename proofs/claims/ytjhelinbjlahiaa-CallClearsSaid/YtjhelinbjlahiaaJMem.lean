/- Blocks known whole; what a call leaves alone; own rows of encoded elements. No function of the program in sight. Bids in plain Lean: demand and supply. No program in sight. -/
import Derived.Test.YtjhelinbjlahiaaRows
import Derived.WalkKit
import Derived.WalkSpells
import Derived.WalkLawsBesides
import Derived.Deep.RegionHeld3
import Derived.Deep.DrawnRows
import Derived.Deep.QuietTactic
import Derived.BigQuiet
import Derived.Lib.Hide
import Derived.OwnWalk
import Derived.Deep.AppendLies
import Derived.Deep.Onto
import Derived.Laws.OwnMore
import Derived.Deep.DeepCutAuto
import Derived.Deep.CutBlock
import Derived.Deep.LoopGhost
namespace Go.Proofs.Ytjhelinbjlahiaa
set_option linter.unusedSimpArgs false
set_option linter.unusedVariables false
open Go.RowKit

/-- A fact that the walk shall not see. -/
theorem hid {p : Prop} (h : p) : Hid p := h
theorem cells_of_block {w : World} {b : Nat} {vs : Array Value} {ty : TypeId} (h : w.heap[b]? = some (Obj.cells vs ty)) (j : Nat) : w.cell? ⟨b, j, none⟩ = vs[j]? := by
  simp [World.cell?, World.cells?, h]
theorem heap_alloc_new (w : World) (o : Obj) : (w.alloc o).heap[w.heap.size]? = some o := (MapKept.heap_alloc w o).1
def Cells (w : World) (B : Nat) (cs : Array Value) (ty : TypeId) : Prop := w.heap[B]? = some (.cells cs ty)
theorem Cells.lt {w : World} {B : Nat} {cs : Array Value} {ty : TypeId} (h : Cells w B cs ty) : B < w.heap.size := (Array.getElem?_eq_some_iff.1 h).1
theorem Cells.cell {w : World} {B : Nat} {cs : Array Value} {ty : TypeId} (h : Cells w B cs ty) (j : Nat) : w.cell? ⟨B, j, none⟩ = cs[j]? := cells_of_block h j
theorem Cells.frozen {w : World} {B : Nat} {cs : Array Value} {ty : TypeId} (h : Cells w B cs ty) (j : Nat) : w.frozen? ⟨B, j, none⟩ = false := by
  simp [World.frozen?, show w.heap[B]? = _ from h]
theorem Cells.below {w w' : World} {B C : Nat} {cs : Array Value} {ty : TypeId} (h : Cells w B cs ty) (hb : Below C w w') (hC : B < C) : Cells w' B cs ty := (hb.block B hC).trans h
theorem Cells.new (w : World) (cs : Array Value) (ty : TypeId) : Cells (w.alloc (.cells cs ty)) w.heap.size cs ty := heap_alloc_new w _
theorem Cells.drew {w : World} {B : Nat} {cs : Array Value} {ty : TypeId} (h : Cells w B cs ty) : Cells w.drew B cs ty := h
theorem Cells.drewN {w : World} {B : Nat} {cs : Array Value} {ty : TypeId} (h : Cells w B cs ty) (k : Nat) : Cells (w.drewN k) B cs ty := h
theorem Cells.alloc {w : World} {B : Nat} {cs : Array Value} {ty : TypeId} (h : Cells w B cs ty) (o : Obj) : Cells (w.alloc o) B cs ty := (Below.heap_alloc w o B h.lt).trans h
theorem Cells.set {w : World} {B : Nat} {cs : Array Value} {ty : TypeId} (h : Cells w B cs ty) (j : Nat) (v : Value) : Cells (w.setCell ⟨B, j, none⟩ v) B (cs.setIfInBounds j v) ty := by
  obtain ⟨hlt, hk⟩ := Array.getElem?_eq_some_iff.1 h
  show (w.heap.modify B _)[B]? = _
  rw [Array.getElem?_eq_getElem (by rw [Array.size_modify]; exact hlt), Array.getElem_modify_self, hk]
  rfl
theorem Cells.set_far {w : World} {B C : Nat} {cs : Array Value} {ty : TypeId} (h : Cells w B cs ty) (j : Nat) (v : Value) (hne : B ≠ C) : Cells (w.setCell ⟨C, j, none⟩ v) B cs ty :=
  (Below.heap_setCell w ⟨C, j, none⟩ v B hne).trans h
theorem cells_type {w : World} {b : Nat} {cs cs' : Array Value} {t t' : TypeId} (h : Cells w b cs t) (h' : w.heap[b]? = some (Obj.cells cs' t')) : t = t' := by
  have := (show w.heap[b]? = _ from h).symm.trans h'
  simp at this
  exact this.2
/-- Blocks of different types are different. -/
theorem Cells.ne {w : World} {b c : Nat} {cs cs' : Array Value} {t t' : TypeId} (h : Cells w b cs t) (h' : Cells w c cs' t') (ht : t ≠ t') : b ≠ c := fun e => by subst e; exact ht (cells_type h h')
theorem cell_one {w : World} {B : Nat} {v : Value} {ty : TypeId} (h : Cells w B #[v] ty) : w.cell? ⟨B, 0, none⟩ = some v := by simp [h.cell]
theorem drewN_below {B : Nat} {a w : World} (h : Below B a w) (k : Nat) : Below B a (w.drewN k) := ⟨h.os, h.tape, h.output, h.size, h.block⟩
theorem size_setCell (w : World) (p : Addr) (v : Value) : (w.setCell p v).heap.size = w.heap.size := by
  unfold World.setCell
  split <;> simp

/-- Only blocks of a set are changed. -/
structure Kept (X : Nat → Prop) (w w' : World) : Prop where
  os : w'.os = w.os
  tape : w'.tape = w.tape
  output : w'.output = w.output
  size : w.heap.size ≤ w'.heap.size
  block : ∀ k, k < w.heap.size → ¬ X k → w'.heap[k]? = w.heap[k]?
theorem Kept.refl (X : Nat → Prop) (w : World) : Kept X w w := ⟨rfl, rfl, rfl, Nat.le_refl _, fun _ _ _ => rfl⟩
theorem Kept.trans {X Y : Nat → Prop} {w w' w'' : World} (h : Kept X w w') (g : Kept Y w' w'') (hY : ∀ k, k < w.heap.size → Y k → X k) : Kept X w w'' :=
  ⟨g.os.trans h.os, g.tape.trans h.tape, g.output.trans h.output, Nat.le_trans h.size g.size, fun k hk hx => (g.block k (Nat.lt_of_lt_of_le hk h.size) (fun hy => hx (hY k hk hy))).trans (h.block k hk hx)⟩
theorem Kept.of_below {X : Nat → Prop} {w w' : World} (h : Below w.heap.size w w') : Kept X w w' := ⟨h.os, h.tape, h.output, h.size, fun k hk _ => h.block k hk⟩
theorem Kept.below {X : Nat → Prop} {w w' : World} {B : Nat} (h : Kept X w w') (hB : B ≤ w.heap.size) (hX : ∀ k, X k → B ≤ k) : Below B w w' :=
  ⟨h.os, h.tape, h.output, h.size, fun k hk => h.block k (Nat.lt_of_lt_of_le hk hB) (fun hx => by have := hX k hx; omega)⟩
theorem Kept.mono {X Y : Nat → Prop} {w w' : World} (h : Kept X w w') (hX : ∀ k, X k → Y k) : Kept Y w w' := ⟨h.os, h.tape, h.output, h.size, fun k hk hy => h.block k hk (fun hx => hy (hX k hx))⟩
theorem Kept.set {X : Nat → Prop} {w w' : World} (h : Kept X w w') {C : Nat} (hC : X C) (j : Nat) (v : Value) : Kept X w (w'.setCell ⟨C, j, none⟩ v) :=
  ⟨by rw [← h.os]; unfold World.setCell; split <;> rfl, by rw [← h.tape]; unfold World.setCell; split <;> rfl, by rw [← h.output]; unfold World.setCell; split <;> rfl, by rw [size_setCell]; exact h.size,
    fun k hk hx => (Below.heap_setCell w' ⟨C, j, none⟩ v k (fun e => hx (by rw [show k = C from e]; exact hC))).trans (h.block k hk hx)⟩
theorem Kept.alloc {X : Nat → Prop} {w w' : World} (h : Kept X w w') (o : Obj) : Kept X w (w'.alloc o) :=
  h.trans (Kept.of_below (X := X) ((Below.refl _ _).alloc (Nat.le_refl _) _)) (fun _ _ h => h)
theorem Kept.drewN {X : Nat → Prop} {w w' : World} (h : Kept X w w') (k : Nat) : Kept X w (w'.drewN k) := ⟨h.os, h.tape, h.output, h.size, h.block⟩
theorem Kept.drew {X : Nat → Prop} {w w' : World} (h : Kept X w w') : Kept X w w'.drew := ⟨h.os, h.tape, h.output, h.size, h.block⟩
theorem Cells.kept {X : Nat → Prop} {w w' : World} {b : Nat} {cs : Array Value} {ty : TypeId} (h : Cells w b cs ty) (hk : Kept X w w') (hx : ¬ X b) : Cells w' b cs ty := (hk.block b h.lt hx).trans h

section
variable {α : Type} {enc : α → List Value} {sz : Nat}
/-- The cells of a list, one element behind the other. -/
def flatE (enc : α → List Value) (l : List α) : List Value := l.flatMap enc
theorem flatE_nil : flatE enc [] = [] := rfl
theorem flatE_append (l m : List α) : flatE enc (l ++ m) = flatE enc l ++ flatE enc m := by simp [flatE]
theorem flatE_snoc (l : List α) (a : α) : flatE enc (l ++ [a]) = flatE enc l ++ enc a := by simp [flatE]
theorem flatE_cons (l : List α) (a : α) : flatE enc (a :: l) = enc a ++ flatE enc l := by simp [flatE]
theorem flatE_length (h : ∀ a, (enc a).length = sz) (l : List α) : (flatE enc l).length = l.length * sz := by
  induction l with
  | nil => simp [flatE]
  | cons a l ih => rw [flatE_cons, List.length_append, h, ih, List.length_cons, Nat.succ_mul, Nat.add_comm]
theorem flatE_get (h : ∀ a, (enc a).length = sz) : ∀ (l : List α) (k : Nat) (hk : k < l.length) (j : Nat), j < sz → (flatE enc l)[k * sz + j]? = (enc l[k])[j]?
  | [], k, hk, _, _ => absurd hk (by simp)
  | a :: l, 0, _, j, hj => by rw [flatE_cons, Nat.zero_mul, Nat.zero_add, List.getElem?_append_left (by rw [h]; exact hj)]; rfl
  | a :: l, k + 1, hk, j, hj => by
    rw [flatE_cons, List.getElem?_append_right (by rw [h, Nat.succ_mul]; omega), h, show (k + 1) * sz + j - sz = k * sz + j by rw [Nat.succ_mul]; omega, flatE_get h l k (by simpa using hk) j hj]
    rfl
/-- A slice value that reads as a list of elements. -/
def ReadsE (enc : α → List Value) (sz : Nat) (w : World) (v : Value) (l : List α) : Prop :=
  l.length ≤ 9223372036854775807 ∧ ∃ p cap b off, v = .slice p l.length cap ∧ (0 < l.length → p = some ⟨b, off, none⟩ ∧ b < w.heap.size) ∧
    ∀ (k : Nat) (hk : k < l.length) (j : Nat), j < sz → w.cell? ⟨b, off + k * sz + j, none⟩ = (enc l[k])[j]?
theorem ReadsE.below {w w' : World} {v : Value} {l : List α} (h : ReadsE enc sz w v l) (hb : Below w.heap.size w w') : ReadsE enc sz w' v l := by
  obtain ⟨hm, p, cap, b, off, hv, hp, hc⟩ := h
  exact ⟨hm, p, cap, b, off, hv, fun h0 => ⟨(hp h0).1, Nat.lt_of_lt_of_le (hp h0).2 hb.size⟩, fun k hk j hj => (hb.cell (p := ⟨b, off + k * sz + j, none⟩) (hp (by omega)).2).trans (hc k hk j hj)⟩
theorem ReadsE.drewN {w : World} {v : Value} {l : List α} (h : ReadsE enc sz w v l) (n : Nat) : ReadsE enc sz (w.drewN n) v l := h
theorem ReadsE.alloc {w : World} {v : Value} {l : List α} (h : ReadsE enc sz w v l) (o : Obj) : ReadsE enc sz (w.alloc o) v l := h.below ((Below.refl _ _).alloc (Nat.le_refl _) _)
theorem ReadsE.nil (w : World) (p : Option Addr) (cap : Nat) : ReadsE enc sz w (.slice p 0 cap) ([] : List α) := ⟨by simp, p, cap, 0, 0, rfl, fun h => absurd h (by simp), fun k hk => absurd hk (by simp)⟩
/-- A slice in an own row from block B on. -/
def OwnE (enc : α → List Value) (sz : Nat) (e : TypeId) (B : Nat) (w : World) (v : Value) (l : List α) : Prop := w.ownsRow B e sz v l.length (flatE enc l)
variable {e : TypeId}
theorem OwnE.nil (B : Nat) (w : World) : OwnE enc sz e B w (.slice none 0 0) ([] : List α) := ⟨by simp [flatE], .inl ⟨rfl, rfl⟩⟩
theorem ownsRow_moved {w w' : World} {B : Nat} {e : TypeId} {size : Nat} {v : Value} {n : Nat} {xs : List Value} (h : w.ownsRow B e size v n xs) (hb : ∀ (b : Nat) (cs : Array Value), B ≤ b → v.ownBlock = some b → w.heap[b]? = some (Obj.cells cs e) → w'.heap[b]? = w.heap[b]?) : w'.ownsRow B e size v n xs := by
  refine ⟨h.1, h.2.imp id ?_⟩
  rintro ⟨g, c, cur, h1, h2, h3, h4⟩
  exact ⟨g, c, cur, h1, h2, (hb g cur h2 (by rw [h1]; rfl) h3).trans h3, h4⟩
theorem OwnE.moved {B : Nat} {w w' : World} {v : Value} {l : List α} (h : OwnE enc sz e B w v l) (hb : ∀ (b : Nat) (cs : Array Value), B ≤ b → v.ownBlock = some b → w.heap[b]? = some (Obj.cells cs e) → w'.heap[b]? = w.heap[b]?) : OwnE enc sz e B w' v l := ownsRow_moved h hb
theorem OwnE.below {B : Nat} {W W' : World} {v : Value} {l : List α} (h : OwnE enc sz e B W v l) (hb : Below W.heap.size W W') : OwnE enc sz e B W' v l :=
  ownsRow_moved h fun b cs _ _ hb' => hb.block b (Array.getElem?_eq_some_iff.1 hb').1
theorem OwnE.kept {X : Nat → Prop} {B : Nat} {W W' : World} {v : Value} {l : List α} (h : OwnE enc sz e B W v l) (hk : Kept X W W') (hx : ∀ b, v.ownBlock = some b → ¬ X b) : OwnE enc sz e B W' v l :=
  ownsRow_moved h fun b cs _ ho hb' => hk.block b (Array.getElem?_eq_some_iff.1 hb').1 (hx b ho)
theorem OwnE.alloc {B : Nat} {W : World} {v : Value} {l : List α} (h : OwnE enc sz e B W v l) (o : Obj) : OwnE enc sz e B (W.alloc o) v l := h.below ((Below.refl _ _).alloc (Nat.le_refl _) _)
theorem OwnE.drewN {B : Nat} {W : World} {v : Value} {l : List α} (h : OwnE enc sz e B W v l) (n : Nat) : OwnE enc sz e B (W.drewN n) v l := ownsRow_moved h fun _ _ _ _ _ => rfl
theorem OwnE.drew {B : Nat} {W : World} {v : Value} {l : List α} (h : OwnE enc sz e B W v l) : OwnE enc sz e B W.drew v l := ownsRow_moved h fun _ _ _ _ _ => rfl
theorem OwnE.mono {B B' : Nat} {W : World} {v : Value} {l : List α} (h : OwnE enc sz e B W v l) (hb : B' ≤ B) : OwnE enc sz e B' W v l := World.ownsRow.mono h hb
theorem OwnE.set {B : Nat} {W : World} {v : Value} {l : List α} (h : OwnE enc sz e B W v l) {C : Nat} {cs : Array Value} {ty : TypeId} (hc : Cells W C cs ty) (ht : ty ≠ e) (j : Nat) (u : Value) : OwnE enc sz e B (W.setCell ⟨C, j, none⟩ u) v l :=
  ownsRow_moved h fun b cs' _ _ hb' => Below.heap_setCell W ⟨C, j, none⟩ u b (fun h => by have h' : b = C := h; subst h'; exact ht (cells_type hc hb'))
/-- What a value looks like that owns a row, nil or not. -/
theorem OwnE.form {B : Nat} {W : World} {v : Value} {l : List α} (h : OwnE enc sz e B W v l) : ∃ p cap, v = .slice p l.length cap ∧ (p = none ∧ l = [] ∨ ∃ g, p = some ⟨g, 0, none⟩ ∧ B ≤ g ∧ g < W.heap.size) := by
  rcases h.2 with ⟨h1, h2⟩ | ⟨g, cap, cur, hv, hb, hg, _⟩
  · exact ⟨none, 0, by rw [h1, h2], .inl ⟨rfl, List.length_eq_zero_iff.1 h2⟩⟩
  · exact ⟨_, cap, hv, .inr ⟨g, rfl, hb, (Array.getElem?_eq_some_iff.1 hg).1⟩⟩
/-- The cells of an own row. -/
theorem OwnE.cells (hlen : ∀ a, (enc a).length = sz) {B : Nat} {w : World} {v : Value} {l : List α} (h : OwnE enc sz e B w v l) : ∃ p cap b, v = .slice p l.length cap ∧ (0 < l.length → p = some ⟨b, 0, none⟩ ∧ B ≤ b ∧ b < w.heap.size) ∧
    ∀ (k : Nat) (hk : k < l.length) (j : Nat), j < sz → w.cell? ⟨b, k * sz + j, none⟩ = (enc l[k])[j]? := by
  rcases h.2 with ⟨h1, h2⟩ | ⟨g, cap, cur, hv, hb, hg, h3⟩
  · exact ⟨none, 0, 0, by rw [h1, h2], fun h0 => by omega, fun k hk => by omega⟩
  · subst hv
    refine ⟨_, cap, g, rfl, fun _ => ⟨rfl, hb, (Array.getElem?_eq_some_iff.1 hg).1⟩, fun k hk j hj => ?_⟩
    rw [World.ownsRow.cellAt h _ (by have : k * sz + sz ≤ l.length * sz := by { rw [← Nat.succ_mul]; exact Nat.mul_le_mul_right _ hk }; omega), flatE_get hlen l k hk j hj]
end
/-- The new cells of an append, read out of their block. -/
theorem news_of {w : World} {B : Nat} {cs : Array Value} {t : TypeId} (h : Cells w B cs t) : ∀ j u, cs.toList[j]? = some u → w.cell? ((⟨B, 0, none⟩ : Addr).add j) = some u := World.news_of_block h
theorem news_at {w : World} {B : Nat} {cs : Array Value} {t : TypeId} (h : Cells w B cs t) : ∀ j u, cs.toList[j]? = some u → w.cell? ⟨B, j, none⟩ = some u := fun j u hu => by
  rw [h.cell]; simpa using hu
end Go.Proofs.Ytjhelinbjlahiaa
namespace Go.Proofs.Ytjhelinbjlahiaa
set_option linter.unusedSimpArgs false
set_option linter.unusedVariables false
open Go.RowKit

structure Bd where
  s : Int
  p : Int
  q : Int
deriving DecidableEq
def encBd (b : Bd) : List Value := [.int .i64 b.s, .int .i64 b.p, .int .i64 b.q]
theorem encBd_len (b : Bd) : (encBd b).length = 3 := rfl
theorem encBd_one (b : Bd) : ∀ u ∈ encBd b, u.oneCell' = true := by
  intro u hu
  simp only [encBd, List.mem_cons, List.not_mem_nil, or_false] at hu
  rcases hu with rfl | rfl | rfl <;> rfl
def Bd.ok (b : Bd) : Prop := (b.s = 1 ∨ b.s = 2) ∧ 1 ≤ b.p ∧ b.p ≤ 1000000 ∧ 1 ≤ b.q ∧ b.q ≤ 1000000000
instance (b : Bd) : Decidable b.ok := by unfold Bd.ok; infer_instance
/-- A bid takes part at a price. -/
def Bd.takes (b : Bd) (x : Int) : Bool := if b.s = 1 then decide (x ≤ b.p) else decide (b.p ≤ x)
/-- The quantities of some bids. -/
def sumQ (f : Bd → Bool) : List Bd → Int
  | [] => 0
  | b :: l => (if f b then b.q else 0) + sumQ f l
theorem sumQ_app (f : Bd → Bool) (l m : List Bd) : sumQ f (l ++ m) = sumQ f l + sumQ f m := by
  induction l with
  | nil => simp [sumQ]
  | cons b l ih => simp only [List.cons_append, sumQ, ih]; omega
theorem sumQ_snoc (f : Bd → Bool) (l : List Bd) (b : Bd) : sumQ f (l ++ [b]) = sumQ f l + if f b then b.q else 0 := by rw [sumQ_app]; simp [sumQ]
theorem sumQ_bound (f : Bd → Bool) {l : List Bd} (h : ∀ b ∈ l, b.ok) : 0 ≤ sumQ f l ∧ sumQ f l ≤ 1000000000 * (l.length : Int) := by
  induction l with
  | nil => simp [sumQ]
  | cons b l ih =>
    obtain ⟨h1, h2⟩ := ih fun x hx => h x (List.mem_cons_of_mem _ hx)
    obtain ⟨_, _, _, h3, h4⟩ := h b List.mem_cons_self
    simp only [sumQ, List.length_cons]
    split <;> omega
theorem sumQ_congr {f g : Bd → Bool} {l : List Bd} (h : ∀ b ∈ l, f b = g b) : sumQ f l = sumQ g l := by
  induction l with
  | nil => rfl
  | cons b l ih => simp only [sumQ, h b List.mem_cons_self, ih fun x hx => h x (List.mem_cons_of_mem _ hx)]
def buyT (x : Int) (b : Bd) : Bool := decide (b.s = 1 ∧ x ≤ b.p)
def selT (x : Int) (b : Bd) : Bool := decide (b.s ≠ 1 ∧ b.p ≤ x)
/-- The demand and the supply at a price. -/
def dem (l : List Bd) (x : Int) : Int := sumQ (buyT x) l
def sup (l : List Bd) (x : Int) : Int := sumQ (selT x) l
/-- What Check says. -/
def chk (l : List Bd) : Int := if 4096 < l.length then 2 else if ∀ b ∈ l, b.ok then 0 else 1
theorem take_snoc {α : Type} {l : List α} {i : Nat} (h : i < l.length) : l.take (i + 1) = l.take i ++ [l[i]] := by rw [List.take_add_one, List.getElem?_eq_getElem h]; rfl
end Go.Proofs.Ytjhelinbjlahiaa
