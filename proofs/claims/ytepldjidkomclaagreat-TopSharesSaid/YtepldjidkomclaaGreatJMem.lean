/- Blocks known whole; what a call leaves alone; own rows of encoded elements. No function of the program in sight. A row of ints as a function; two ranges exchanged. rotateCmpFunc: two neighbouring ranges change places. Rows as functions: sorted parts, parts with the same elements, an insertion. No function of the program in sight. Merging in place, plain laws on rows as functions. No function of the program in sight. symMerge in general, plain. No function of the program in sight. stableCmpFunc, plain: blocks that are in order. -/
import Derived.Test.YtepldjidkomclaaGreatRows
import Derived.WalkKit
import Derived.WalkSpells
import Derived.WalkLawsBesides
import Derived.Deep.RegionHeld3
import Derived.Deep.DrawnRows
import Derived.Deep.QuietTactic
import Derived.BigQuiet
import Derived.Lib.Hide
import Derived.OwnWalk
import Derived.Deep.AppendLies
import Derived.Deep.Onto
import Derived.Laws.OwnMore
import Derived.Deep.DeepCutAuto
import Derived.Deep.CutBlock
import Derived.Deep.LoopGhost
import Derived.Test.YtepldjidkomclaaGreatJCSo0
namespace Go.Proofs.YtepldjidkomclaaGreat
set_option linter.unusedSimpArgs false
set_option linter.unusedVariables false
open Go.RowKit
theorem hid {p : Prop} (h : p) : Hid p := h
theorem cells_of_block {w : World} {b : Nat} {vs : Array Value} {ty : TypeId} (h : w.heap[b]? = some (Obj.cells vs ty)) (j : Nat) : w.cell? ⟨b, j, none⟩ = vs[j]? := by
  simp [World.cell?, World.cells?, h]
theorem heap_alloc_new (w : World) (o : Obj) : (w.alloc o).heap[w.heap.size]? = some o := (MapKept.heap_alloc w o).1
def Cells (w : World) (B : Nat) (cs : Array Value) (ty : TypeId) : Prop := w.heap[B]? = some (.cells cs ty)
theorem Cells.lt {w : World} {B : Nat} {cs : Array Value} {ty : TypeId} (h : Cells w B cs ty) : B < w.heap.size := (Array.getElem?_eq_some_iff.1 h).1
theorem Cells.cell {w : World} {B : Nat} {cs : Array Value} {ty : TypeId} (h : Cells w B cs ty) (j : Nat) : w.cell? ⟨B, j, none⟩ = cs[j]? := cells_of_block h j
theorem Cells.frozen {w : World} {B : Nat} {cs : Array Value} {ty : TypeId} (h : Cells w B cs ty) (j : Nat) : w.frozen? ⟨B, j, none⟩ = false := by
  simp [World.frozen?, show w.heap[B]? = _ from h]
theorem Cells.below {w w' : World} {B C : Nat} {cs : Array Value} {ty : TypeId} (h : Cells w B cs ty) (hb : Below C w w') (hC : B < C) : Cells w' B cs ty := (hb.block B hC).trans h
theorem Cells.new (w : World) (cs : Array Value) (ty : TypeId) : Cells (w.alloc (.cells cs ty)) w.heap.size cs ty := heap_alloc_new w _
theorem Cells.drew {w : World} {B : Nat} {cs : Array Value} {ty : TypeId} (h : Cells w B cs ty) : Cells w.drew B cs ty := h
theorem Cells.drewN {w : World} {B : Nat} {cs : Array Value} {ty : TypeId} (h : Cells w B cs ty) (k : Nat) : Cells (w.drewN k) B cs ty := h
theorem Cells.alloc {w : World} {B : Nat} {cs : Array Value} {ty : TypeId} (h : Cells w B cs ty) (o : Obj) : Cells (w.alloc o) B cs ty := (Below.heap_alloc w o B h.lt).trans h
theorem Cells.set {w : World} {B : Nat} {cs : Array Value} {ty : TypeId} (h : Cells w B cs ty) (j : Nat) (v : Value) : Cells (w.setCell ⟨B, j, none⟩ v) B (cs.setIfInBounds j v) ty := by
  obtain ⟨hlt, hk⟩ := Array.getElem?_eq_some_iff.1 h
  show (w.heap.modify B _)[B]? = _
  rw [Array.getElem?_eq_getElem (by rw [Array.size_modify]; exact hlt), Array.getElem_modify_self, hk]
  rfl
theorem Cells.set_far {w : World} {B C : Nat} {cs : Array Value} {ty : TypeId} (h : Cells w B cs ty) (j : Nat) (v : Value) (hne : B ≠ C) : Cells (w.setCell ⟨C, j, none⟩ v) B cs ty :=
  (Below.heap_setCell w ⟨C, j, none⟩ v B hne).trans h
theorem cells_type {w : World} {b : Nat} {cs cs' : Array Value} {t t' : TypeId} (h : Cells w b cs t) (h' : w.heap[b]? = some (Obj.cells cs' t')) : t = t' := by
  have := (show w.heap[b]? = _ from h).symm.trans h'
  simp at this
  exact this.2
theorem Cells.ne {w : World} {b c : Nat} {cs cs' : Array Value} {t t' : TypeId} (h : Cells w b cs t) (h' : Cells w c cs' t') (ht : t ≠ t') : b ≠ c := fun e => by subst e; exact ht (cells_type h h')
theorem cell_one {w : World} {B : Nat} {v : Value} {ty : TypeId} (h : Cells w B #[v] ty) : w.cell? ⟨B, 0, none⟩ = some v := by simp [h.cell]
theorem drewN_below {B : Nat} {a w : World} (h : Below B a w) (k : Nat) : Below B a (w.drewN k) := ⟨h.os, h.tape, h.output, h.size, h.block⟩
theorem size_setCell (w : World) (p : Addr) (v : Value) : (w.setCell p v).heap.size = w.heap.size := by
  unfold World.setCell
  split <;> simp
structure Kept (X : Nat → Prop) (w w' : World) : Prop where
  os : w'.os = w.os
  tape : w'.tape = w.tape
  output : w'.output = w.output
  size : w.heap.size ≤ w'.heap.size
  block : ∀ k, k < w.heap.size → ¬ X k → w'.heap[k]? = w.heap[k]?
theorem Kept.refl (X : Nat → Prop) (w : World) : Kept X w w := ⟨rfl, rfl, rfl, Nat.le_refl _, fun _ _ _ => rfl⟩
theorem Kept.trans {X Y : Nat → Prop} {w w' w'' : World} (h : Kept X w w') (g : Kept Y w' w'') (hY : ∀ k, k < w.heap.size → Y k → X k) : Kept X w w'' :=
  ⟨g.os.trans h.os, g.tape.trans h.tape, g.output.trans h.output, Nat.le_trans h.size g.size, fun k hk hx => (g.block k (Nat.lt_of_lt_of_le hk h.size) (fun hy => hx (hY k hk hy))).trans (h.block k hk hx)⟩
theorem Kept.of_below {X : Nat → Prop} {w w' : World} (h : Below w.heap.size w w') : Kept X w w' := ⟨h.os, h.tape, h.output, h.size, fun k hk _ => h.block k hk⟩
theorem Kept.below {X : Nat → Prop} {w w' : World} {B : Nat} (h : Kept X w w') (hB : B ≤ w.heap.size) (hX : ∀ k, X k → B ≤ k) : Below B w w' :=
  ⟨h.os, h.tape, h.output, h.size, fun k hk => h.block k (Nat.lt_of_lt_of_le hk hB) (fun hx => by have := hX k hx; omega)⟩
theorem Kept.mono {X Y : Nat → Prop} {w w' : World} (h : Kept X w w') (hX : ∀ k, X k → Y k) : Kept Y w w' := ⟨h.os, h.tape, h.output, h.size, fun k hk hy => h.block k hk (fun hx => hy (hX k hx))⟩
theorem Kept.set {X : Nat → Prop} {w w' : World} (h : Kept X w w') {C : Nat} (hC : X C) (j : Nat) (v : Value) : Kept X w (w'.setCell ⟨C, j, none⟩ v) :=
  ⟨by rw [← h.os]; unfold World.setCell; split <;> rfl, by rw [← h.tape]; unfold World.setCell; split <;> rfl, by rw [← h.output]; unfold World.setCell; split <;> rfl, by rw [size_setCell]; exact h.size,
    fun k hk hx => (Below.heap_setCell w' ⟨C, j, none⟩ v k (fun e => hx (by rw [show k = C from e]; exact hC))).trans (h.block k hk hx)⟩
theorem Kept.alloc {X : Nat → Prop} {w w' : World} (h : Kept X w w') (o : Obj) : Kept X w (w'.alloc o) :=
  h.trans (Kept.of_below (X := X) ((Below.refl _ _).alloc (Nat.le_refl _) _)) (fun _ _ h => h)
theorem Kept.drewN {X : Nat → Prop} {w w' : World} (h : Kept X w w') (k : Nat) : Kept X w (w'.drewN k) := ⟨h.os, h.tape, h.output, h.size, h.block⟩
theorem Kept.drew {X : Nat → Prop} {w w' : World} (h : Kept X w w') : Kept X w w'.drew := ⟨h.os, h.tape, h.output, h.size, h.block⟩
theorem Cells.kept {X : Nat → Prop} {w w' : World} {b : Nat} {cs : Array Value} {ty : TypeId} (h : Cells w b cs ty) (hk : Kept X w w') (hx : ¬ X b) : Cells w' b cs ty := (hk.block b h.lt hx).trans h
section
variable {α : Type} {enc : α → List Value} {sz : Nat}
def flatE (enc : α → List Value) (l : List α) : List Value := l.flatMap enc
theorem flatE_nil : flatE enc [] = [] := rfl
theorem flatE_append (l m : List α) : flatE enc (l ++ m) = flatE enc l ++ flatE enc m := by simp [flatE]
theorem flatE_snoc (l : List α) (a : α) : flatE enc (l ++ [a]) = flatE enc l ++ enc a := by simp [flatE]
theorem flatE_cons (l : List α) (a : α) : flatE enc (a :: l) = enc a ++ flatE enc l := by simp [flatE]
theorem flatE_length (h : ∀ a, (enc a).length = sz) (l : List α) : (flatE enc l).length = l.length * sz := by
  induction l with
  | nil => simp [flatE]
  | cons a l ih => rw [flatE_cons, List.length_append, h, ih, List.length_cons, Nat.succ_mul, Nat.add_comm]
theorem flatE_get (h : ∀ a, (enc a).length = sz) : ∀ (l : List α) (k : Nat) (hk : k < l.length) (j : Nat), j < sz → (flatE enc l)[k * sz + j]? = (enc l[k])[j]?
  | [], k, hk, _, _ => absurd hk (by simp)
  | a :: l, 0, _, j, hj => by rw [flatE_cons, Nat.zero_mul, Nat.zero_add, List.getElem?_append_left (by rw [h]; exact hj)]; rfl
  | a :: l, k + 1, hk, j, hj => by
    rw [flatE_cons, List.getElem?_append_right (by rw [h, Nat.succ_mul]; omega), h, show (k + 1) * sz + j - sz = k * sz + j by rw [Nat.succ_mul]; omega, flatE_get h l k (by simpa using hk) j hj]
    rfl
def ReadsE (enc : α → List Value) (sz : Nat) (w : World) (v : Value) (l : List α) : Prop :=
  l.length ≤ 9223372036854775807 ∧ ∃ p cap b off, v = .slice p l.length cap ∧ (0 < l.length → p = some ⟨b, off, none⟩ ∧ b < w.heap.size) ∧
    ∀ (k : Nat) (hk : k < l.length) (j : Nat), j < sz → w.cell? ⟨b, off + k * sz + j, none⟩ = (enc l[k])[j]?
theorem ReadsE.below {w w' : World} {v : Value} {l : List α} (h : ReadsE enc sz w v l) (hb : Below w.heap.size w w') : ReadsE enc sz w' v l := by
  obtain ⟨hm, p, cap, b, off, hv, hp, hc⟩ := h
  exact ⟨hm, p, cap, b, off, hv, fun h0 => ⟨(hp h0).1, Nat.lt_of_lt_of_le (hp h0).2 hb.size⟩, fun k hk j hj => (hb.cell (p := ⟨b, off + k * sz + j, none⟩) (hp (by omega)).2).trans (hc k hk j hj)⟩
theorem ReadsE.drewN {w : World} {v : Value} {l : List α} (h : ReadsE enc sz w v l) (n : Nat) : ReadsE enc sz (w.drewN n) v l := h
theorem ReadsE.alloc {w : World} {v : Value} {l : List α} (h : ReadsE enc sz w v l) (o : Obj) : ReadsE enc sz (w.alloc o) v l := h.below ((Below.refl _ _).alloc (Nat.le_refl _) _)
theorem ReadsE.nil (w : World) (p : Option Addr) (cap : Nat) : ReadsE enc sz w (.slice p 0 cap) ([] : List α) := ⟨by simp, p, cap, 0, 0, rfl, fun h => absurd h (by simp), fun k hk => absurd hk (by simp)⟩
def OwnE (enc : α → List Value) (sz : Nat) (e : TypeId) (B : Nat) (w : World) (v : Value) (l : List α) : Prop := w.ownsRow B e sz v l.length (flatE enc l)
variable {e : TypeId}
theorem OwnE.nil (B : Nat) (w : World) : OwnE enc sz e B w (.slice none 0 0) ([] : List α) := ⟨by simp [flatE], .inl ⟨rfl, rfl⟩⟩
theorem ownsRow_moved {w w' : World} {B : Nat} {e : TypeId} {size : Nat} {v : Value} {n : Nat} {xs : List Value} (h : w.ownsRow B e size v n xs) (hb : ∀ (b : Nat) (cs : Array Value), B ≤ b → v.ownBlock = some b → w.heap[b]? = some (Obj.cells cs e) → w'.heap[b]? = w.heap[b]?) : w'.ownsRow B e size v n xs := by
  refine ⟨h.1, h.2.imp id ?_⟩
  rintro ⟨g, c, cur, h1, h2, h3, h4⟩
  exact ⟨g, c, cur, h1, h2, (hb g cur h2 (by rw [h1]; rfl) h3).trans h3, h4⟩
theorem OwnE.moved {B : Nat} {w w' : World} {v : Value} {l : List α} (h : OwnE enc sz e B w v l) (hb : ∀ (b : Nat) (cs : Array Value), B ≤ b → v.ownBlock = some b → w.heap[b]? = some (Obj.cells cs e) → w'.heap[b]? = w.heap[b]?) : OwnE enc sz e B w' v l := ownsRow_moved h hb
theorem OwnE.below {B : Nat} {W W' : World} {v : Value} {l : List α} (h : OwnE enc sz e B W v l) (hb : Below W.heap.size W W') : OwnE enc sz e B W' v l :=
  ownsRow_moved h fun b cs _ _ hb' => hb.block b (Array.getElem?_eq_some_iff.1 hb').1
theorem OwnE.kept {X : Nat → Prop} {B : Nat} {W W' : World} {v : Value} {l : List α} (h : OwnE enc sz e B W v l) (hk : Kept X W W') (hx : ∀ b, v.ownBlock = some b → ¬ X b) : OwnE enc sz e B W' v l :=
  ownsRow_moved h fun b cs _ ho hb' => hk.block b (Array.getElem?_eq_some_iff.1 hb').1 (hx b ho)
theorem OwnE.alloc {B : Nat} {W : World} {v : Value} {l : List α} (h : OwnE enc sz e B W v l) (o : Obj) : OwnE enc sz e B (W.alloc o) v l := h.below ((Below.refl _ _).alloc (Nat.le_refl _) _)
theorem OwnE.drewN {B : Nat} {W : World} {v : Value} {l : List α} (h : OwnE enc sz e B W v l) (n : Nat) : OwnE enc sz e B (W.drewN n) v l := ownsRow_moved h fun _ _ _ _ _ => rfl
theorem OwnE.drew {B : Nat} {W : World} {v : Value} {l : List α} (h : OwnE enc sz e B W v l) : OwnE enc sz e B W.drew v l := ownsRow_moved h fun _ _ _ _ _ => rfl
theorem OwnE.mono {B B' : Nat} {W : World} {v : Value} {l : List α} (h : OwnE enc sz e B W v l) (hb : B' ≤ B) : OwnE enc sz e B' W v l := World.ownsRow.mono h hb
theorem OwnE.set {B : Nat} {W : World} {v : Value} {l : List α} (h : OwnE enc sz e B W v l) {C : Nat} {cs : Array Value} {ty : TypeId} (hc : Cells W C cs ty) (ht : ty ≠ e) (j : Nat) (u : Value) : OwnE enc sz e B (W.setCell ⟨C, j, none⟩ u) v l :=
  ownsRow_moved h fun b cs' _ _ hb' => Below.heap_setCell W ⟨C, j, none⟩ u b (fun h => by have h' : b = C := h; subst h'; exact ht (cells_type hc hb'))
theorem OwnE.form {B : Nat} {W : World} {v : Value} {l : List α} (h : OwnE enc sz e B W v l) : ∃ p cap, v = .slice p l.length cap ∧ (p = none ∧ l = [] ∨ ∃ g, p = some ⟨g, 0, none⟩ ∧ B ≤ g ∧ g < W.heap.size) := by
  rcases h.2 with ⟨h1, h2⟩ | ⟨g, cap, cur, hv, hb, hg, _⟩
  · exact ⟨none, 0, by rw [h1, h2], .inl ⟨rfl, List.length_eq_zero_iff.1 h2⟩⟩
  · exact ⟨_, cap, hv, .inr ⟨g, rfl, hb, (Array.getElem?_eq_some_iff.1 hg).1⟩⟩
theorem OwnE.cells (hlen : ∀ a, (enc a).length = sz) {B : Nat} {w : World} {v : Value} {l : List α} (h : OwnE enc sz e B w v l) : ∃ p cap b, v = .slice p l.length cap ∧ (0 < l.length → p = some ⟨b, 0, none⟩ ∧ B ≤ b ∧ b < w.heap.size) ∧
    ∀ (k : Nat) (hk : k < l.length) (j : Nat), j < sz → w.cell? ⟨b, k * sz + j, none⟩ = (enc l[k])[j]? := by
  rcases h.2 with ⟨h1, h2⟩ | ⟨g, cap, cur, hv, hb, hg, h3⟩
  · exact ⟨none, 0, 0, by rw [h1, h2], fun h0 => by omega, fun k hk => by omega⟩
  · subst hv
    refine ⟨_, cap, g, rfl, fun _ => ⟨rfl, hb, (Array.getElem?_eq_some_iff.1 hg).1⟩, fun k hk j hj => ?_⟩
    rw [World.ownsRow.cellAt h _ (by have : k * sz + sz ≤ l.length * sz := by { rw [← Nat.succ_mul]; exact Nat.mul_le_mul_right _ hk }; omega), flatE_get hlen l k hk j hj]
end
theorem news_of {w : World} {B : Nat} {cs : Array Value} {t : TypeId} (h : Cells w B cs t) : ∀ j u, cs.toList[j]? = some u → w.cell? ((⟨B, 0, none⟩ : Addr).add j) = some u := World.news_of_block h
theorem news_at {w : World} {B : Nat} {cs : Array Value} {t : TypeId} (h : Cells w B cs t) : ∀ j u, cs.toList[j]? = some u → w.cell? ⟨B, j, none⟩ = some u := fun j u hu => by
  rw [h.cell]; simpa using hu
end Go.Proofs.YtepldjidkomclaaGreat
namespace Go.Proofs.YtepldjidkomclaaGreat.Ca
set_option linter.unusedSimpArgs false
set_option linter.unusedVariables false
open Go.RowKit
attribute [local go_sem] Oper.semAt_some
attribute [local go_sem ↓] Go.wp_at_zero Go.wp_at_succ
def Row (w : World) (g n : Nat) (f : Nat → Int) : Prop := ∃ cs, Cells w g cs 3 ∧ ∀ i, i < n → cs[i]? = some (Value.int .i64 (f i))
theorem Row.cell {w : World} {g n : Nat} {f : Nat → Int} (h : Row w g n f) {i : Nat} (hi : i < n) : w.cell? ⟨g, i, none⟩ = some (.int .i64 (f i)) := by
  obtain ⟨cs, hc, hz⟩ := h
  rw [hc.cell]; exact hz i hi
theorem Row.froz {w : World} {g n : Nat} {f : Nat → Int} (h : Row w g n f) (i : Nat) : w.frozen? ⟨g, i, none⟩ = false := by
  obtain ⟨cs, hc, _⟩ := h
  exact hc.frozen i
theorem Row.lt {w : World} {g n : Nat} {f : Nat → Int} (h : Row w g n f) : g < w.heap.size := by
  obtain ⟨cs, hc, _⟩ := h
  exact hc.lt
theorem Row.set {w : World} {g n : Nat} {f : Nat → Int} (h : Row w g n f) (i : Nat) (v : Int) : Row (w.setCell ⟨g, i, none⟩ (.int .i64 v)) g n (fun k => if k = i then v else f k) := by
  obtain ⟨cs, hc, hz⟩ := h
  refine ⟨_, hc.set i _, fun k hk => ?_⟩
  have hlt := (Array.getElem?_eq_some_iff.1 (hz k hk)).1
  by_cases e : k = i
  · subst e
    simp only [if_true]
    rw [Array.getElem?_setIfInBounds_self_of_lt hlt]
  · simp only [if_neg e]
    rw [Array.getElem?_setIfInBounds_ne (fun h => e h.symm)]
    exact hz k hk
theorem Row.kept {X : Nat → Prop} {w w' : World} {g n : Nat} {f : Nat → Int} (h : Row w g n f) (hk : Kept X w w') (hx : ¬ X g) : Row w' g n f := by
  obtain ⟨cs, hc, hz⟩ := h
  exact ⟨cs, hc.kept hk hx, hz⟩
theorem Row.below {w w' : World} {g n : Nat} {f : Nat → Int} (h : Row w g n f) (hb : Below w.heap.size w w') : Row w' g n f := by
  obtain ⟨cs, hc, hz⟩ := h
  exact ⟨cs, hc.below hb hc.lt, hz⟩
theorem Row.drewN {w : World} {g n : Nat} {f : Nat → Int} (h : Row w g n f) (k : Nat) : Row (w.drewN k) g n f := h
theorem Row.drew {w : World} {g n : Nat} {f : Nat → Int} (h : Row w g n f) : Row w.drew g n f := h
theorem Row.congr {w : World} {g n : Nat} {f f' : Nat → Int} (h : Row w g n f) (e : ∀ i, i < n → f' i = f i) : Row w g n f' := by
  obtain ⟨cs, hc, hz⟩ := h
  exact ⟨cs, hc, fun i hi => by rw [e i hi]; exact hz i hi⟩
def swp1 (f : Nat → Int) (i j : Nat) : Nat → Int := fun k => if k = j then f i else if k = i then f j else f k
theorem Row.swap {w : World} {g n : Nat} {f : Nat → Int} (h : Row w g n f) (i j : Nat) : Row ((w.setCell ⟨g, i, none⟩ (.int .i64 (f j))).setCell ⟨g, j, none⟩ (.int .i64 (f i))) g n (swp1 f i j) :=
  (h.set i (f j)).set j (f i)
def swp (f : Nat → Int) (a b n : Nat) : Nat → Int := fun k => if a ≤ k ∧ k < a + n then f (k - a + b) else if b ≤ k ∧ k < b + n then f (k - b + a) else f k
theorem swp_zero (f : Nat → Int) (a b : Nat) : swp f a b 0 = f := by
  funext k
  unfold swp
  rw [if_neg (by omega), if_neg (by omega)]
theorem swp_succ (f : Nat → Int) {a b n N : Nat} (hn : n < N) (hab : a + N ≤ b) : swp1 (swp f a b n) (a + n) (b + n) = swp f a b (n + 1) := by
  funext k
  unfold swp1
  by_cases h1 : k = b + n
  · subst h1
    rw [if_pos rfl]
    unfold swp
    rw [if_neg (by omega), if_neg (by omega), if_neg (by omega), if_pos (by omega)]
    congr 1; omega
  · rw [if_neg h1]
    by_cases h2 : k = a + n
    · subst h2
      rw [if_pos rfl]
      unfold swp
      rw [if_neg (by omega), if_neg (by omega), if_pos (by omega)]
      congr 1; omega
    · rw [if_neg h2]
      unfold swp
      by_cases h3 : a ≤ k ∧ k < a + n
      · rw [if_pos h3, if_pos (show a ≤ k ∧ k < a + (n + 1) by omega)]
      · rw [if_neg h3, if_neg (show ¬ (a ≤ k ∧ k < a + (n + 1)) by omega)]
        by_cases h4 : b ≤ k ∧ k < b + n
        · rw [if_pos h4, if_pos (show b ≤ k ∧ k < b + (n + 1) by omega)]
        · rw [if_neg h4, if_neg (show ¬ (b ≤ k ∧ k < b + (n + 1)) by omega)]
set_option maxRecDepth 100000 in
set_option maxHeartbeats 4000000 in
theorem swapRange_calls {w : World} {g L : Nat} {f : Nat → Int} (h : Row w g L f) (hL : L ≤ 1000000) {a b n : Nat} (hab : a + n ≤ b) (hb : b + n ≤ L) (cap : Nat) (fv : Value) :
    Calls Tryz.prog 136 #[.slice (some ⟨g, 0, none⟩) L cap, .int .i64 a, .int .i64 b, .int .i64 n, fv] w fun e w' => e = .returned (.tuple #[]) ∧ Row w' g L (swp f a b n) ∧ Kept (fun k => k = g) w w' := by
  obtain ⟨R, hR⟩ : ∃ R : Ending → World → Prop, R = fun e w' => e = .returned (.tuple #[]) ∧ Row w' g L (swp f a b n) ∧ Kept (fun k => k = g) w w' := ⟨_, rfl⟩
  have HR := hid hR
  rw [← hR]
  have H := hid h
  clear hR h
  go_enter Tryz.func136, Tryz.ntmps136
  go_wp2_with fail
  go_loopg [10] n (fun k s10 wr => ∃ i : Nat, s10 = .int .i64 i ∧ i ≤ n ∧ k = n - i ∧ Row wr g L (swp f a b i) ∧ Kept (fun k => k = g) w wr)
  case atStart => exact ⟨0, rfl, by omega, by omega, by rw [swp_zero]; exact H.out, Kept.refl _ _⟩
  case round =>
    obtain ⟨i, rfl, hi, hk, hr, kk⟩ := hrel
    have HK := hid hk
    have HRW := hid hr
    have KK := hid kk
    clear hk kk
    by_cases hin : i < n
    · have gi : (i : Int) < (n : Int) := by omega
      obtain ⟨p, hp⟩ : ∃ p, p = a + i := ⟨_, rfl⟩
      obtain ⟨q, hq⟩ : ∃ q, q = b + i := ⟨_, rfl⟩
      have ep : (a : Int) + (i : Int) = (p : Int) := by omega
      have eq : (b : Int) + (i : Int) = (q : Int) := by omega
      have ep2 : IntKind.i64.wrap ((a : Int) + (i : Int)) = (p : Int) := by rw [ep]; exact IntWalk.i64_in _ (by omega)
      have eq2 : IntKind.i64.wrap ((b : Int) + (i : Int)) = (q : Int) := by rw [eq]; exact IntWalk.i64_in _ (by omega)
      obtain ⟨u, hu⟩ : ∃ u, u = swp f a b i p := ⟨_, rfl⟩
      obtain ⟨v, hv⟩ : ∃ v, v = swp f a b i q := ⟨_, rfl⟩
      have c1 := hr.cell (i := p) (by omega)
      have c2 := hr.cell (i := q) (by omega)
      rw [← hu] at c1
      rw [← hv] at c2
      have f1 := hr.froz p
      have f2 := hr.froz q
      have hl := hr.lt
      have p0 : (0 : Int) ≤ (p : Int) := by omega
      have q0 : (0 : Int) ≤ (q : Int) := by omega
      have pL : (p : Int) < (L : Int) := by omega
      have qL : (q : Int) < (L : Int) := by omega
      have NX := hid (show ∀ wx, wx = (wr.setCell ⟨g, p, none⟩ (.int .i64 v)).setCell ⟨g, q, none⟩ (.int .i64 u) → Row wx g L (swp f a b (i + 1)) ∧ Kept (fun k => k = g) w wx by
        rintro wx rfl
        have h1 := HRW.out.swap p q
        rw [← hu, ← hv, hp, hq, swp_succ f hin hab] at h1
        rw [hp, hq]
        exact ⟨h1, (KK.out.set (C := g) rfl _ _).set (C := g) rfl _ _⟩)
      have hne : p ≠ q := by omega
      have hn6 : n ≤ 1000000 := by omega
      clear hu hv hp hq ep eq hr hab hb
      go_wp2_with fail
      go_region
      all_goals go_wp2
      all_goals (
        go_roundg (n - (i + 1))
        · exact ⟨i + 1, by go_num, by omega, by omega, (NX.out _ rfl).1.drew, (NX.out _ rfl).2.drew⟩
        · have := HK.out; omega)
    · have hin2 : i = n := by omega
      subst hin2
      have g3 : decide ((i : Int) < (i : Int)) = false := by simp
      have FN := hid (show R (.returned (.tuple #[])) wr by rw [HR.out]; exact ⟨rfl, HRW.out, KK.out⟩)
      clear hr
      go_wp2
      first | exact FN.out | (go_end0; exact FN.out)
end Go.Proofs.YtepldjidkomclaaGreat.Ca
namespace Go.Proofs.YtepldjidkomclaaGreat.Ca
set_option linter.unusedSimpArgs false
set_option linter.unusedVariables false
open Go.RowKit
attribute [local go_sem] Oper.semAt_some
attribute [local go_sem ↓] Go.wp_at_zero Go.wp_at_succ
def rotF (f : Nat → Int) (a m b : Nat) : Nat → Int := fun k => if a ≤ k ∧ k < a + (b - m) then f (k + (m - a)) else if a + (b - m) ≤ k ∧ k < b then f (k - (b - m)) else f k
structure RotI (h T : Nat → Int) (a m b i j : Nat) : Prop where
  far : ∀ k, k < m - i ∨ m + j ≤ k → T k = h k
  one : ∀ k, m - i ≤ k → k < m - i + j → T k = h (k + i)
  two : ∀ k, m - i + j ≤ k → k < m + j → T k = h (k - j)
  i1 : i ≤ m
  j1 : m + j ≤ b
theorem RotI.start (f : Nat → Int) {a m b : Nat} (h1 : a ≤ m) (h2 : m ≤ b) : RotI f (rotF f a m b) a m b (m - a) (b - m) := by
  refine ⟨fun k hk => ?_, fun k ha hb => ?_, fun k ha hb => ?_, by omega, by omega⟩
  · unfold rotF; rw [if_neg (by omega), if_neg (by omega)]
  · unfold rotF; rw [if_pos (by omega)]
  · unfold rotF; rw [if_neg (by omega), if_pos (by omega)]
theorem RotI.left {h T : Nat → Int} {a m b i j : Nat} (r : RotI h T a m b i j) (hij : j < i) : RotI (swp h (m - i) m j) T a m b (i - j) j := by
  have := r.i1
  have := r.j1
  refine ⟨fun k hk => ?_, fun k ha hb => ?_, fun k ha hb => ?_, by omega, by omega⟩
  · unfold swp
    by_cases h1 : m - i ≤ k ∧ k < m - i + j
    · rw [if_pos h1, r.one k h1.1 h1.2]
      congr 1; omega
    · rw [if_neg h1, if_neg (show ¬ (m ≤ k ∧ k < m + j) by omega)]
      exact r.far k (by omega)
  · unfold swp
    by_cases h2 : m - i ≤ k + (i - j) ∧ k + (i - j) < m - i + j
    · omega
    · rw [if_neg h2]
      by_cases h3 : m ≤ k + (i - j) ∧ k + (i - j) < m + j
      · rw [if_pos h3, r.two k (by omega) (by omega)]
        congr 1; omega
      · rw [if_neg h3, r.two k (by omega) (by omega)]
        congr 1; omega
  · unfold swp
    rw [if_neg (show ¬ (m - i ≤ k - j ∧ k - j < m - i + j) by omega), if_neg (show ¬ (m ≤ k - j ∧ k - j < m + j) by omega), r.two k (by omega) (by omega)]
theorem RotI.right {h T : Nat → Int} {a m b i j : Nat} (r : RotI h T a m b i j) (hij : i < j) : RotI (swp h (m - i) (m + j - i) i) T a m b i (j - i) := by
  have := r.i1
  have := r.j1
  refine ⟨fun k hk => ?_, fun k ha hb => ?_, fun k ha hb => ?_, by omega, by omega⟩
  · unfold swp
    rw [if_neg (show ¬ (m - i ≤ k ∧ k < m - i + i) by omega)]
    by_cases h1 : m + j - i ≤ k ∧ k < m + j - i + i
    · rw [if_pos h1, r.two k (by omega) (by omega)]
      congr 1; omega
    · rw [if_neg h1]
      exact r.far k (by omega)
  · unfold swp
    by_cases h1 : m - i ≤ k + i ∧ k + i < m - i + i
    · omega
    · rw [if_neg h1, if_neg (show ¬ (m + j - i ≤ k + i ∧ k + i < m + j - i + i) by omega), r.one k (by omega) (by omega)]
  · unfold swp
    rw [if_pos (show m - i ≤ k - (j - i) ∧ k - (j - i) < m - i + i by omega), r.one k (by omega) (by omega)]
    congr 1; omega
theorem RotI.done {h T : Nat → Int} {a m b i : Nat} (r : RotI h T a m b i i) : ∀ k, swp h (m - i) m i k = T k := by
  have := r.i1
  have := r.j1
  intro k
  unfold swp
  by_cases h1 : m - i ≤ k ∧ k < m - i + i
  · rw [if_pos h1, r.one k (by omega) (by omega)]
    congr 1; omega
  · rw [if_neg h1]
    by_cases h2 : m ≤ k ∧ k < m + i
    · rw [if_pos h2, r.two k (by omega) (by omega)]
      congr 1; omega
    · rw [if_neg h2, r.far k (by omega)]
set_option maxRecDepth 100000 in
set_option maxHeartbeats 4000000 in
theorem rotate_calls {w : World} {g L : Nat} {f : Nat → Int} (h : Row w g L f) (hL : L ≤ 1000000) {a m b : Nat} (h1 : a < m) (h2 : m < b) (hb : b ≤ L) (cap : Nat) (fv : Value) :
    Calls Tryz.prog 128 #[.slice (some ⟨g, 0, none⟩) L cap, .int .i64 a, .int .i64 m, .int .i64 b, fv] w fun e w' => e = .returned (.tuple #[]) ∧ Row w' g L (rotF f a m b) ∧ Kept (fun k => k = g) w w' := by
  obtain ⟨R, hR⟩ : ∃ R : Ending → World → Prop, R = fun e w' => e = .returned (.tuple #[]) ∧ Row w' g L (rotF f a m b) ∧ Kept (fun k => k = g) w w' := ⟨_, rfl⟩
  have HR := hid hR
  rw [← hR]
  have H := hid h
  obtain ⟨i0, hi0⟩ : ∃ i0, i0 = m - a := ⟨_, rfl⟩
  obtain ⟨j0, hj0⟩ : ∃ j0, j0 = b - m := ⟨_, rfl⟩
  have R0 := hid (RotI.start f (Nat.le_of_lt h1) (Nat.le_of_lt h2))
  rw [← hi0, ← hj0] at R0
  have e1 : IntKind.i64.wrap ((m : Int) - (a : Int)) = (i0 : Int) := by rw [show (m : Int) - (a : Int) = (i0 : Int) by omega]; exact IntWalk.i64_in _ (by omega)
  have e2 : IntKind.i64.wrap ((b : Int) - (m : Int)) = (j0 : Int) := by rw [show (b : Int) - (m : Int) = (j0 : Int) by omega]; exact IntWalk.i64_in _ (by omega)
  have hm6 : m ≤ 1000000 := by omega
  have hij : i0 + j0 ≤ 1000000 := by omega
  have hi1 : 1 ≤ i0 := by omega
  have hj1 : 1 ≤ j0 := by omega
  have HB := hid hb
  clear hR h hi0 hj0 h1 h2 hb
  go_enter Tryz.func128, Tryz.ntmps128
  go_wp2_with fail
  go_loopg [10, 11] (i0 + j0) (fun k s10 s11 wr => ∃ (i j : Nat) (h : Nat → Int), s10 = .int .i64 i ∧ s11 = .int .i64 j ∧ i + j = k ∧ k ≤ 1000000 ∧ 1 ≤ i ∧ 1 ≤ j ∧ RotI h (rotF f a m b) a m b i j ∧ Row wr g L h ∧ Kept (fun k => k = g) w wr)
  case atStart => exact ⟨i0, j0, f, by go_num, by go_num, rfl, hij, hi1, hj1, R0.out, H.out, Kept.refl _ _⟩
  case round =>
    obtain ⟨i, j, h, rfl, rfl, hk, hk6, i1, j1, ri, hr, kk⟩ := hrel
    have RI := hid ri
    have HRW := hid hr
    have KK := hid kk
    have HK := hid hk
    have him := ri.i1
    have hjb := ri.j1
    have hbL := HB.out
    clear ri hr kk e1 e2
    by_cases hij2 : i = j
    · subst hij2
      have g1 : ((i : Int) != (i : Int)) = false := by simp
      obtain ⟨p, hp⟩ : ∃ p, p = m - i := ⟨_, rfl⟩
      have ep : IntKind.i64.wrap ((m : Int) - (i : Int)) = (p : Int) := by rw [show (m : Int) - (i : Int) = (p : Int) by omega]; exact IntWalk.i64_in _ (by omega)
      have SW := hid (swapRange_calls HRW.out hL (a := p) (b := m) (n := i) (by omega) (by omega) cap fv)
      have HP := hid hp
      clear hp hk
      go_wp2_with fail
      refine SW.out.mono ?_
      rintro e w2 ⟨rfl, hr2, hk2⟩
      have FN := hid (show R (.returned (.tuple #[])) w2 by
        rw [HR.out]
        refine ⟨rfl, hr2.congr fun k _ => ?_, KK.out.trans hk2 (fun _ _ e => e)⟩
        rw [HP.out]
        exact (RI.out.done k).symm)
      clear hr2 hk2
      go_wp2
      first | exact FN.out | (go_end0; exact FN.out)
    · have g1 : ((i : Int) != (j : Int)) = true := by simp; omega
      by_cases hlt : j < i
      · have g2 : decide ((j : Int) < (i : Int)) = true := by simp; omega
        obtain ⟨p, hp⟩ : ∃ p, p = m - i := ⟨_, rfl⟩
        obtain ⟨i2, hi2⟩ : ∃ i2, i2 = i - j := ⟨_, rfl⟩
        have ep : IntKind.i64.wrap ((m : Int) - (i : Int)) = (p : Int) := by rw [show (m : Int) - (i : Int) = (p : Int) by omega]; exact IntWalk.i64_in _ (by omega)
        have ei : IntKind.i64.wrap ((i : Int) - (j : Int)) = (i2 : Int) := by rw [show (i : Int) - (j : Int) = (i2 : Int) by omega]; exact IntWalk.i64_in _ (by omega)
        have SW := hid (swapRange_calls HRW.out hL (a := p) (b := m) (n := j) (by omega) (by omega) cap fv)
        have LF := hid (RI.out.left hlt)
        rw [← hp, ← hi2] at LF
        have hi2k : i2 + j < i + j := by omega
        have hi21 : 1 ≤ i2 := by omega
        have hi6 : i2 + j ≤ 1000000 := by omega
        clear hp hi2 hk
        go_wp2_with fail
        refine SW.out.mono ?_
        rintro e w2 ⟨rfl, hr2, hk2⟩
        have R2 := hid hr2
        have K2 := hid (KK.out.trans hk2 (fun _ _ e => e))
        clear hr2 hk2
        go_wp2
        go_roundg (i2 + j)
        · exact ⟨i2, j, _, rfl, rfl, rfl, hi6, hi21, j1, LF.out, R2.out, K2.out⟩
        · have := HK.out; omega
      · have g2 : decide ((j : Int) < (i : Int)) = false := by simp; omega
        obtain ⟨p, hp⟩ : ∃ p, p = m - i := ⟨_, rfl⟩
        obtain ⟨q, hq⟩ : ∃ q, q = m + j := ⟨_, rfl⟩
        obtain ⟨q2, hq2⟩ : ∃ q2, q2 = m + j - i := ⟨_, rfl⟩
        obtain ⟨j2, hj2⟩ : ∃ j2, j2 = j - i := ⟨_, rfl⟩
        have ep : IntKind.i64.wrap ((m : Int) - (i : Int)) = (p : Int) := by rw [show (m : Int) - (i : Int) = (p : Int) by omega]; exact IntWalk.i64_in _ (by omega)
        have eq : IntKind.i64.wrap ((m : Int) + (j : Int)) = (q : Int) := by rw [show (m : Int) + (j : Int) = (q : Int) by omega]; exact IntWalk.i64_in _ (by omega)
        have eq2 : IntKind.i64.wrap ((q : Int) - (i : Int)) = (q2 : Int) := by rw [show (q : Int) - (i : Int) = (q2 : Int) by omega]; exact IntWalk.i64_in _ (by omega)
        have ej : IntKind.i64.wrap ((j : Int) - (i : Int)) = (j2 : Int) := by rw [show (j : Int) - (i : Int) = (j2 : Int) by omega]; exact IntWalk.i64_in _ (by omega)
        have SW := hid (swapRange_calls HRW.out hL (a := p) (b := q2) (n := i) (by omega) (by omega) cap fv)
        have RT := hid (RI.out.right (by omega))
        rw [← hp, ← hq2, ← hj2] at RT
        have hi2k : i + j2 < i + j := by omega
        have hj21 : 1 ≤ j2 := by omega
        have hi6 : i + j2 ≤ 1000000 := by omega
        clear hp hq hq2 hj2 hk
        go_wp2_with fail
        refine SW.out.mono ?_
        rintro e w2 ⟨rfl, hr2, hk2⟩
        have R2 := hid hr2
        have K2 := hid (KK.out.trans hk2 (fun _ _ e => e))
        clear hr2 hk2
        go_wp2
        go_roundg (i + j2)
        · exact ⟨i, j2, _, rfl, rfl, rfl, hi6, i1, hj21, RT.out, R2.out, K2.out⟩
        · have := HK.out; omega
end Go.Proofs.YtepldjidkomclaaGreat.Ca
namespace Go.Proofs.YtepldjidkomclaaGreat.Ca
set_option linter.unusedSimpArgs false
set_option linter.unusedVariables false
open Go.RowKit
def seg (f : Nat → Int) (a b : Nat) : List Int := (List.range (b - a)).map fun i => f (a + i)
theorem seg_len (f : Nat → Int) (a b : Nat) : (seg f a b).length = b - a := by simp [seg]
theorem seg_empty (f : Nat → Int) {a b : Nat} (h : b ≤ a) : seg f a b = [] := by
  have : b - a = 0 := by omega
  simp [seg, this]
theorem seg_get (f : Nat → Int) {a b i : Nat} (hi : i < (seg f a b).length) : (seg f a b)[i] = f (a + i) := by simp [seg]
theorem seg_congr {f f' : Nat → Int} {a b : Nat} (h : ∀ k, a ≤ k → k < b → f k = f' k) : seg f a b = seg f' a b := by
  unfold seg
  refine List.map_congr_left fun i hi => ?_
  rw [List.mem_range] at hi
  exact h _ (by omega) (by omega)
theorem seg_split (f : Nat → Int) {a m b : Nat} (h1 : a ≤ m) (h2 : m ≤ b) : seg f a b = seg f a m ++ seg f m b := by
  refine List.ext_getElem ?_ fun i hi hi' => ?_
  · rw [List.length_append, seg_len, seg_len, seg_len]; omega
  · rw [seg_len] at hi
    rw [seg_get]
    by_cases h : i < m - a
    · rw [List.getElem_append_left (by rw [seg_len]; exact h), seg_get]
    · rw [List.getElem_append_right (by rw [seg_len]; omega), seg_get]
      congr 1
      rw [seg_len]; omega
theorem seg_snoc (f : Nat → Int) {a b : Nat} (h : a ≤ b) : seg f a (b + 1) = seg f a b ++ [f b] := by
  rw [seg_split f h (Nat.le_succ b)]
  congr 1
  have : b + 1 - b = 1 := by omega
  simp [seg, this]
theorem seg_cons (f : Nat → Int) {a b : Nat} (h : a < b) : seg f a b = f a :: seg f (a + 1) b := by
  rw [seg_split f (Nat.le_succ a) h]
  have : a + 1 - a = 1 := by omega
  simp [seg, this]
theorem mem_seg {f : Nat → Int} {a b : Nat} {x : Int} : x ∈ seg f a b ↔ ∃ k, a ≤ k ∧ k < b ∧ x = f k := by
  unfold seg
  rw [List.mem_map]
  constructor
  · rintro ⟨i, hi, rfl⟩
    rw [List.mem_range] at hi
    exact ⟨a + i, by omega, by omega, rfl⟩
  · rintro ⟨k, h1, h2, rfl⟩
    exact ⟨k - a, by rw [List.mem_range]; omega, by congr 1; omega⟩
theorem seg_shift {f h : Nat → Int} {a b d : Nat} (e : ∀ k, a ≤ k → k < b → h (k + d) = f k) : seg h (a + d) (b + d) = seg f a b := by
  refine List.ext_getElem (by rw [seg_len, seg_len]; omega) fun i hi hi' => ?_
  rw [seg_len] at hi
  rw [seg_get, seg_get, ← e (a + i) (by omega) (by omega)]
  congr 1; omega
theorem seg_swap (f : Nat → Int) {a b j : Nat} (h1 : a ≤ j) (h2 : j + 1 < b) : (seg (swp1 f (j + 1) j) a b).Perm (seg f a b) := by
  have far : ∀ {x y : Nat}, (∀ k, x ≤ k → k < y → k ≠ j ∧ k ≠ j + 1) → seg (swp1 f (j + 1) j) x y = seg f x y := fun {x y} hk => seg_congr fun k h3 h4 => by
    have := hk k h3 h4
    unfold swp1
    rw [if_neg this.1, if_neg this.2]
  rw [seg_split _ h1 (show j ≤ b by omega), seg_split f h1 (show j ≤ b by omega), far (fun k h3 h4 => by omega)]
  refine List.Perm.append_left _ ?_
  rw [seg_cons _ (show j < b by omega), seg_cons _ (show j + 1 < b by omega), seg_cons f (show j < b by omega), seg_cons f (show j + 1 < b by omega), far (fun k h3 h4 => by omega)]
  have e1 : swp1 f (j + 1) j j = f (j + 1) := by unfold swp1; rw [if_pos rfl]
  have e2 : swp1 f (j + 1) j (j + 1) = f j := by unfold swp1; rw [if_neg (by omega), if_pos rfl]
  rw [e1, e2]
  exact List.Perm.swap _ _ _
section
variable {lt : Int → Int → Bool}
def Srt (lt : Int → Int → Bool) (f : Nat → Int) (a b : Nat) : Prop := ∀ i j, a ≤ i → i < j → j < b → Tt lt (f i) (f j)
theorem Srt.seg {f : Nat → Int} {a b : Nat} (h : Srt lt f a b) : (seg f a b).Pairwise (Tt lt) := by
  rw [List.pairwise_iff_getElem]
  intro i j hi hj hij
  rw [seg_len] at hi hj
  rw [seg_get, seg_get]
  exact h _ _ (by omega) (by omega) (by omega)
theorem srt_of {f : Nat → Int} {a b : Nat} (h : (Go.Proofs.YtepldjidkomclaaGreat.Ca.seg f a b).Pairwise (Tt lt)) : Srt lt f a b := by
  rw [List.pairwise_iff_getElem] at h
  intro i j h1 h2 h3
  have := h (i - a) (j - a) (by rw [seg_len]; omega) (by rw [seg_len]; omega) (by omega)
  rw [seg_get, seg_get, show a + (i - a) = i by omega, show a + (j - a) = j by omega] at this
  exact this
theorem Srt.one (f : Nat → Int) (a : Nat) : Srt lt f a (a + 1) := fun i j h1 h2 h3 => by omega
theorem Srt.congr {f f' : Nat → Int} {a b : Nat} (h : Srt lt f a b) (e : ∀ k, a ≤ k → k < b → f' k = f k) : Srt lt f' a b := fun i j i1 i2 i3 => by
  rw [e i i1 (by omega), e j (by omega) i3]; exact h i j i1 i2 i3
structure InsJ (lt : Int → Int → Bool) (f h : Nat → Int) (a i j : Nat) (y : Int) : Prop where
  ja : a ≤ j
  ji : j ≤ i
  at' : h j = y
  far : ∀ k, k < a ∨ i < k → h k = f k
  perm : (seg h a (i + 1)).Perm (seg f a (i + 1))
  rest : ∀ p q, a ≤ p → p < q → q ≤ i → p ≠ j → q ≠ j → Tt lt (h p) (h q)
  over : ∀ p, j < p → p ≤ i → lt y (h p) = true
  early : ∀ p, a ≤ p → p ≤ i → p ≠ j → h p < y
theorem InsJ.start {f : Nat → Int} {a i : Nat} (hi : a ≤ i) (hs : Srt lt f a i) (he : ∀ k, a ≤ k → k < i → f k < f i) : InsJ lt f f a i i (f i) :=
  ⟨hi, Nat.le_refl _, rfl, fun _ _ => rfl, List.Perm.refl _, fun p q h1 h2 h3 h4 h5 => hs p q h1 h2 (by omega), fun p h1 h2 => by omega, fun p h1 h2 h3 => he p h1 (by omega)⟩
theorem InsJ.step {f h : Nat → Int} {a i j : Nat} {y : Int} (r : InsJ lt f h a i (j + 1) y) (hj : a ≤ j) (hl : lt y (h j) = true) : InsJ lt f (swp1 h (j + 1) j) a i j y := by
  have hji := r.ji
  have e1 : swp1 h (j + 1) j j = y := by unfold swp1; rw [if_pos rfl]; exact r.at'
  have e2 : swp1 h (j + 1) j (j + 1) = h j := by unfold swp1; rw [if_neg (by omega), if_pos rfl]
  have e3 : ∀ k, k ≠ j → k ≠ j + 1 → swp1 h (j + 1) j k = h k := fun k h1 h2 => by unfold swp1; rw [if_neg h1, if_neg h2]
  refine ⟨hj, by omega, e1, fun k hk => ?_, ?_, fun p q h1 h2 h3 h4 h5 => ?_, fun p h1 h2 => ?_, fun p h1 h2 h3 => ?_⟩
  · rw [e3 k (by omega) (by omega)]; exact r.far k hk
  · exact (seg_swap h hj (by omega)).trans r.perm
  · by_cases hp : p = j + 1
    · subst hp
      rw [e2, e3 q h5 (by omega)]
      exact r.rest j q hj (by omega) h3 (by omega) (by omega)
    · rw [e3 p h4 hp]
      by_cases hq : q = j + 1
      · subst hq
        rw [e2]
        exact r.rest p j h1 (by omega) (by omega) (by omega) (by omega)
      · rw [e3 q h5 hq]
        exact r.rest p q h1 h2 h3 hp hq
  · by_cases hp : p = j + 1
    · subst hp; rw [e2]; exact hl
    · rw [e3 p (by omega) hp]
      exact r.over p (by omega) h2
  · by_cases hp : p = j + 1
    · subst hp; rw [e2]; exact r.early j hj (by omega) (by omega)
    · rw [e3 p h3 hp]; exact r.early p h1 h2 hp
theorem InsJ.done (hlt : Swo lt) {f h : Nat → Int} {a i j : Nat} {y : Int} (r : InsJ lt f h a i j y) (hd : j = a ∨ lt y (h (j - 1)) = false) : Srt lt h a (i + 1) := by
  have hja := r.ja
  have hji := r.ji
  intro p q h1 h2 h3
  by_cases hp : p = j
  · subst hp
    rw [r.at']
    exact .inl (r.over q h2 (by omega))
  · by_cases hq : q = j
    · subst hq
      rw [r.at']
      rcases hd with hd | hd
      · omega
      · have h4 : Tt lt (h (q - 1)) y := Tt.early (r.early (q - 1) (by omega) (by omega) (by omega)) hd
        by_cases hpq : p = q - 1
        · rw [hpq]; exact h4
        · exact Tt.trans hlt (r.rest p (q - 1) h1 (by omega) (by omega) hp (by omega)) h4
    · exact r.rest p q h1 h2 (by omega) hp hq
end
end Go.Proofs.YtepldjidkomclaaGreat.Ca
namespace Go.Proofs.YtepldjidkomclaaGreat.Ca
set_option linter.unusedSimpArgs false
set_option linter.unusedVariables false
open Go.RowKit
def movR (f : Nat → Int) (a c : Nat) : Nat → Int := fun p => if a ≤ p ∧ p < c then f (p + 1) else if p = c then f a else f p
def movL (f : Nat → Int) (m c : Nat) : Nat → Int := fun p => if p = c then f m else if c < p ∧ p ≤ m then f (p - 1) else f p
theorem movR_self (f : Nat → Int) (a : Nat) : movR f a a = f := by
  funext p
  unfold movR
  rw [if_neg (by omega)]
  split
  · rename_i h; rw [h]
  · rfl
theorem movL_self (f : Nat → Int) (m : Nat) : movL f m m = f := by
  funext p
  unfold movL
  split
  · rename_i h; rw [h]
  · rw [if_neg (by omega)]
theorem movR_succ (f : Nat → Int) {a c : Nat} (h : a ≤ c) : swp1 (movR f a c) c (c + 1) = movR f a (c + 1) := by
  funext p
  unfold swp1
  by_cases h1 : p = c + 1
  · subst h1
    rw [if_pos rfl]
    unfold movR
    rw [if_neg (by omega), if_pos rfl, if_neg (by omega), if_pos rfl]
  · rw [if_neg h1]
    by_cases h2 : p = c
    · subst h2
      rw [if_pos rfl]
      unfold movR
      rw [if_neg (by omega), if_neg (by omega), if_pos (show a ≤ p ∧ p < p + 1 by omega)]
    · rw [if_neg h2]
      unfold movR
      by_cases h3 : a ≤ p ∧ p < c
      · rw [if_pos h3, if_pos (show a ≤ p ∧ p < c + 1 by omega)]
      · rw [if_neg h3, if_neg h2, if_neg (show ¬ (a ≤ p ∧ p < c + 1) by omega), if_neg h1]
theorem movL_pred (f : Nat → Int) {m c : Nat} (h : c < m) : swp1 (movL f m (c + 1)) (c + 1) c = movL f m c := by
  funext p
  unfold swp1
  by_cases h1 : p = c
  · subst h1
    rw [if_pos rfl]
    unfold movL
    rw [if_pos rfl, if_pos rfl]
  · rw [if_neg h1]
    by_cases h2 : p = c + 1
    · subst h2
      rw [if_pos rfl]
      unfold movL
      rw [if_neg (by omega), if_neg (by omega), if_neg (by omega), if_pos (show c < c + 1 ∧ c + 1 ≤ m by omega)]
      rfl
    · rw [if_neg h2]
      unfold movL
      rw [if_neg h2, if_neg h1]
      by_cases h3 : c + 1 < p ∧ p ≤ m
      · rw [if_pos h3, if_pos (show c < p ∧ p ≤ m by omega)]
      · rw [if_neg h3, if_neg (show ¬ (c < p ∧ p ≤ m) by omega)]
section
variable {lt : Int → Int → Bool}
structure MrgR (lt : Int → Int → Bool) (f f' : Nat → Int) (a b : Nat) : Prop where
  far : ∀ k, k < a ∨ b ≤ k → f' k = f k
  perm : (seg f' a b).Perm (seg f a b)
  srt : Srt lt f' a b
theorem mrg_one (hlt : Swo lt) {f : Nat → Int} {a b i : Nat} (h1 : a < i) (h2 : i ≤ b) (hs : Srt lt f (a + 1) b) (he : ∀ k, a < k → k < b → f a < f k) (lo : ∀ k, a < k → k < i → lt (f k) (f a) = true) (hi : ∀ k, i ≤ k → k < b → lt (f k) (f a) = false) : MrgR lt f (movR f a (i - 1)) a b := by
  have e1 : seg (movR f a (i - 1)) a (i - 1) = seg f (a + 1) i := by
    have := seg_shift (f := movR f a (i - 1)) (h := f) (a := a) (b := i - 1) (d := 1) (fun k k1 k2 => by unfold movR; rw [if_pos ⟨k1, k2⟩])
    rw [show i - 1 + 1 = i by omega] at this
    exact this.symm
  have e2 : movR f a (i - 1) (i - 1) = f a := by unfold movR; rw [if_neg (by omega), if_pos rfl]
  have e3 : seg (movR f a (i - 1)) i b = seg f i b := seg_congr fun k k1 k2 => by unfold movR; rw [if_neg (by omega), if_neg (by omega)]
  have e4 : seg (movR f a (i - 1)) a b = seg f (a + 1) i ++ f a :: seg f i b := by
    rw [seg_split _ (show a ≤ i - 1 by omega) (show i - 1 ≤ b by omega), e1]
    by_cases hib : i - 1 < b
    · rw [seg_cons _ hib, e2, show i - 1 + 1 = i by omega, e3]
    · omega
  have e5 : seg f (a + 1) b = seg f (a + 1) i ++ seg f i b := seg_split f (by omega) h2
  refine ⟨fun k hk => ?_, ?_, srt_of ?_⟩
  · unfold movR; rw [if_neg (by omega), if_neg (by omega)]
  · rw [e4, seg_cons f (show a < b by omega), e5]
    exact List.perm_middle
  · rw [e4]
    refine put_early hlt (by rw [← e5]; exact hs.seg) (fun y hy => ?_) (fun y hy => ?_) (fun y hy => ?_)
    · rw [← e5] at hy
      obtain ⟨k, k1, k2, rfl⟩ := mem_seg.1 hy
      exact he k (by omega) k2
    · obtain ⟨k, k1, k2, rfl⟩ := mem_seg.1 hy
      exact lo k (by omega) k2
    · obtain ⟨k, k1, k2, rfl⟩ := mem_seg.1 hy
      exact hi k k1 k2
theorem mrg_last (hlt : Swo lt) {f : Nat → Int} {a m i : Nat} (h1 : a ≤ i) (h2 : i ≤ m) (hs : Srt lt f a m) (he : ∀ k, a ≤ k → k < m → f k < f m) (lo : ∀ k, a ≤ k → k < i → lt (f m) (f k) = false) (hi : ∀ k, i ≤ k → k < m → lt (f m) (f k) = true) : MrgR lt f (movL f m i) a (m + 1) := by
  have e1 : seg (movL f m i) a i = seg f a i := seg_congr fun k k1 k2 => by unfold movL; rw [if_neg (by omega), if_neg (by omega)]
  have e2 : movL f m i i = f m := by unfold movL; rw [if_pos rfl]
  have e3 : seg (movL f m i) (i + 1) (m + 1) = seg f i m := seg_shift fun k k1 k2 => by
    unfold movL
    rw [if_neg (by omega), if_pos (by omega)]
    rfl
  have e4 : seg (movL f m i) a (m + 1) = seg f a i ++ f m :: seg f i m := by
    rw [seg_split _ h1 (show i ≤ m + 1 by omega), e1, seg_cons _ (show i < m + 1 by omega), e2, e3]
  have e5 : seg f a m = seg f a i ++ seg f i m := seg_split f h1 h2
  refine ⟨fun k hk => ?_, ?_, srt_of ?_⟩
  · unfold movL; rw [if_neg (by omega), if_neg (by omega)]
  · rw [e4, seg_snoc f (by omega), e5]
    exact List.perm_middle.trans (List.perm_append_comm (l₁ := [f m]))
  · rw [e4]
    refine put_late hlt (by rw [← e5]; exact hs.seg) (fun x hx => ?_) (fun x hx => ?_) (fun x hx => ?_)
    · rw [← e5] at hx
      obtain ⟨k, k1, k2, rfl⟩ := mem_seg.1 hx
      exact he k k1 k2
    · obtain ⟨k, k1, k2, rfl⟩ := mem_seg.1 hx
      exact lo k k1 k2
    · obtain ⟨k, k1, k2, rfl⟩ := mem_seg.1 hx
      exact hi k k1 k2
theorem mono_late (hlt : Swo lt) {f : Nat → Int} {m b h k : Nat} {x : Int} (hs : Srt lt f m b) (he : ∀ k, m ≤ k → k < b → x < f k) (hm : m ≤ k) (hk : k ≤ h) (hb : h < b) (hl : lt (f h) x = true) : lt (f k) x = true := by
  by_cases e : k = h
  · rw [e]; exact hl
  · have h1 := hs k h hm (by omega) hb
    exact (Tt.late (he k hm (by omega))).1 (Tt.trans hlt h1 (.inl hl))
theorem mono_early (hlt : Swo lt) {f : Nat → Int} {a m h k : Nat} {y : Int} (hs : Srt lt f a m) (he : ∀ k, a ≤ k → k < m → f k < y) (ha : a ≤ h) (hk : h ≤ k) (hm : k < m) (hl : lt y (f h) = true) : lt y (f k) = true := by
  by_cases e : k = h
  · rw [e]; exact hl
  · have h1 := hs h k ha (by omega) hm
    exact (Tt.late (he k (by omega) hm)).1 (Tt.trans hlt (.inl hl) h1)
end
end Go.Proofs.YtepldjidkomclaaGreat.Ca
namespace Go.Proofs.YtepldjidkomclaaGreat.Ca
set_option linter.unusedSimpArgs false
set_option linter.unusedVariables false
open Go.RowKit
section
variable {lt : Int → Int → Bool}
theorem MrgR.refl {f : Nat → Int} {a b : Nat} (h : Srt lt f a b) : MrgR lt f f a b := ⟨fun _ _ => rfl, List.Perm.refl _, h⟩
structure SymC (lt : Int → Int → Bool) (f : Nat → Int) (a m b mid st en : Nat) : Prop where
  lo : a ≤ st
  sm : st ≤ m
  me : m ≤ en
  eb : en ≤ b
  sum : st + en = mid + m
  one : st = a ∨ en = b ∨ Tt lt (f (st - 1)) (f en)
  two : en = m ∨ st = m ∨ Tt lt (f (en - 1)) (f st)
  x : Srt lt f a m
  y : Srt lt f m b
  early : ∀ i j, a ≤ i → i < m → m ≤ j → j < b → f i < f j
theorem SymC.parts {f : Nat → Int} {a m b mid st en : Nat} (c : SymC lt f a m b mid st en) : (∀ k, k < st ∨ en ≤ k → rotF f st m en k = f k) ∧ (∀ k, st ≤ k → k < mid → rotF f st m en k = f (k + (m - st))) ∧ (∀ k, mid ≤ k → k < en → rotF f st m en k = f (k - (en - m))) := by
  have h1 := c.lo; have h2 := c.sm; have h3 := c.me; have h4 := c.eb; have h5 := c.sum
  refine ⟨fun k hk => ?_, fun k k1 k2 => ?_, fun k k1 k2 => ?_⟩
  · unfold rotF; rw [if_neg (by omega), if_neg (by omega)]
  · unfold rotF; rw [if_pos (by omega)]
  · unfold rotF; rw [if_neg (by omega), if_pos (by omega)]
theorem SymC.left {f : Nat → Int} {a m b mid st en : Nat} (c : SymC lt f a m b mid st en) : Srt lt (rotF f st m en) a st ∧ Srt lt (rotF f st m en) st mid ∧ (∀ i j, a ≤ i → i < st → st ≤ j → j < mid → rotF f st m en i < rotF f st m en j) ∧ st ≤ mid := by
  obtain ⟨p1, p2, p3⟩ := c.parts
  have h1 := c.lo; have h2 := c.sm; have h3 := c.me; have h4 := c.eb; have h5 := c.sum
  refine ⟨fun i j i1 i2 i3 => ?_, fun i j i1 i2 i3 => ?_, fun i j i1 i2 i3 i4 => ?_, by omega⟩
  · rw [p1 i (by omega), p1 j (by omega)]; exact c.x i j i1 i2 (by omega)
  · rw [p2 i i1 (by omega), p2 j (by omega) i3]; exact c.y _ _ (by omega) (by omega) (by omega)
  · rw [p1 i (by omega), p2 j i3 i4]; exact c.early i _ i1 (by omega) (by omega) (by omega)
theorem SymC.right {f : Nat → Int} {a m b mid st en : Nat} (c : SymC lt f a m b mid st en) : Srt lt (rotF f st m en) mid en ∧ Srt lt (rotF f st m en) en b ∧ (∀ i j, mid ≤ i → i < en → en ≤ j → j < b → rotF f st m en i < rotF f st m en j) ∧ mid ≤ en := by
  obtain ⟨p1, p2, p3⟩ := c.parts
  have h1 := c.lo; have h2 := c.sm; have h3 := c.me; have h4 := c.eb; have h5 := c.sum
  refine ⟨fun i j i1 i2 i3 => ?_, fun i j i1 i2 i3 => ?_, fun i j i1 i2 i3 i4 => ?_, by omega⟩
  · rw [p3 i i1 (by omega), p3 j (by omega) i3]; exact c.x _ _ (by omega) (by omega) (by omega)
  · rw [p1 i (by omega), p1 j (by omega)]; exact c.y _ _ (by omega) (by omega) (by omega)
  · rw [p3 i i1 i2, p1 j (by omega)]; exact c.early _ j (by omega) (by omega) (by omega) i4
theorem SymC.done (hlt : Swo lt) {f f2 f3 : Nat → Int} {a m b mid st en : Nat} (c : SymC lt f a m b mid st en) (r1 : MrgR lt (rotF f st m en) f2 a mid) (r2 : MrgR lt f2 f3 mid b) : MrgR lt f f3 a b := by
  obtain ⟨p1, p2, p3⟩ := c.parts
  have h1 := c.lo; have h2 := c.sm; have h3 := c.me; have h4 := c.eb; have h5 := c.sum
  obtain ⟨f1, hf1⟩ : ∃ f1, f1 = rotF f st m en := ⟨_, rfl⟩
  rw [← hf1] at p1 p2 p3 r1
  have x1 : seg f1 a st = seg f a st := seg_congr fun k k1 k2 => p1 k (by omega)
  have y1 : seg f1 st mid = seg f m en := by
    have := seg_shift (f := f1) (h := f) (a := st) (b := mid) (d := m - st) (fun k k1 k2 => (p2 k k1 k2).symm)
    rw [show st + (m - st) = m by omega, show mid + (m - st) = en by omega] at this
    exact this.symm
  have x2 : seg f1 mid en = seg f st m := by
    have := seg_shift (f := f) (h := f1) (a := st) (b := m) (d := en - m) (fun k k1 k2 => by rw [p3 _ (by omega) (by omega)]; congr 1; omega)
    rw [show st + (en - m) = mid by omega, show m + (en - m) = en by omega] at this
    exact this
  have y2 : seg f1 en b = seg f en b := seg_congr fun k k1 k2 => p1 k (by omega)
  have l1 : seg f1 a mid = seg f a st ++ seg f m en := by rw [seg_split f1 h1 (show st ≤ mid by omega), x1, y1]
  have l2 : seg f1 mid b = seg f st m ++ seg f en b := by rw [seg_split f1 (show mid ≤ en by omega) h4, x2, y2]
  have e2 : seg f2 mid b = seg f1 mid b := seg_congr fun k k1 k2 => r1.far k (by omega)
  have e3 : seg f3 a mid = seg f2 a mid := seg_congr fun k k1 k2 => r2.far k (by omega)
  have sx : seg f a m = seg f a st ++ seg f st m := seg_split f h1 h2
  have sy : seg f m b = seg f m en ++ seg f en b := seg_split f h3 h4
  have hx := c.x.seg
  have hy := c.y.seg
  rw [sx] at hx
  rw [sy] at hy
  have q1 : ∀ x ∈ seg f a st, ∀ y ∈ seg f en b, Tt lt x y := by
    refine part_one hlt (sorted_app.1 hx).1 (sorted_app.1 hy).2.1 ?_
    by_cases e1 : st = a
    · exact .inl (seg_empty f (by omega))
    · by_cases e2 : en = b
      · exact .inr (.inl (seg_empty f (by omega)))
      · refine .inr (.inr ⟨f (st - 1), seg f a (st - 1), f en, seg f (en + 1) b, ?_, seg_cons f (by omega), ?_⟩)
        · have := seg_snoc f (show a ≤ st - 1 by omega)
          rwa [show st - 1 + 1 = st by omega] at this
        · rcases c.one with e | e | e
          · exact absurd e e1
          · exact absurd e e2
          · exact e
  have q2 : ∀ y ∈ seg f m en, ∀ x ∈ seg f st m, Tt lt y x := by
    refine part_one hlt (sorted_app.1 hy).1 (sorted_app.1 hx).2.1 ?_
    by_cases e1 : en = m
    · exact .inl (seg_empty f (by omega))
    · by_cases e2 : st = m
      · exact .inr (.inl (seg_empty f (by omega)))
      · refine .inr (.inr ⟨f (en - 1), seg f m (en - 1), f st, seg f (st + 1) m, ?_, seg_cons f (by omega), ?_⟩)
        · have := seg_snoc f (show m ≤ en - 1 by omega)
          rwa [show en - 1 + 1 = en by omega] at this
        · rcases c.two with e | e | e
          · exact absurd e e1
          · exact absurd e e2
          · exact e
  have z1 : seg f3 a b = seg f2 a mid ++ seg f3 mid b := by rw [seg_split f3 (show a ≤ mid by omega) (show mid ≤ b by omega), e3]
  obtain ⟨m1, m2⟩ := merge_halves hlt hx hy q1 q2 r1.srt.seg (by rw [← l1]; exact r1.perm) r2.srt.seg (by rw [← l2, ← e2]; exact r2.perm)
  refine ⟨fun k hk => ?_, ?_, srt_of ?_⟩
  · rw [r2.far k (by omega), r1.far k (by omega), p1 k (by omega)]
  · rw [z1, seg_split f (show a ≤ m by omega) (show m ≤ b by omega), sx, sy]
    exact m2
  · rw [z1]; exact m1
end
end Go.Proofs.YtepldjidkomclaaGreat.Ca
namespace Go.Proofs.YtepldjidkomclaaGreat.Ca
set_option linter.unusedSimpArgs false
set_option linter.unusedVariables false
open Go.RowKit
section
variable {lt : Int → Int → Bool}
structure Good (lt : Int → Int → Bool) (f0 f : Nat → Int) (x y : Nat) : Prop where
  srt : Srt lt f x y
  perm : (seg f x y).Perm (seg f0 x y)
theorem Good.far {f0 f f' : Nat → Int} {x y : Nat} (h : Good lt f0 f x y) (he : ∀ k, x ≤ k → k < y → f' k = f k) : Good lt f0 f' x y :=
  ⟨fun i j i1 i2 i3 => by rw [he i i1 (by omega), he j (by omega) i3]; exact h.srt i j i1 i2 i3, by rw [seg_congr he]; exact h.perm⟩
theorem Good.early {f0 f : Nat → Int} {x m y : Nat} (hinc : ∀ i j, i < j → j < y → f0 i < f0 j) (h1 : Good lt f0 f x m) (h2 : Good lt f0 f m y) : ∀ i j, x ≤ i → i < m → m ≤ j → j < y → f i < f j := fun i j i1 i2 i3 i4 => by
  obtain ⟨i', a1, a2, e1⟩ := mem_seg.1 (h1.perm.mem_iff.1 (mem_seg.2 ⟨i, i1, i2, rfl⟩))
  obtain ⟨j', b1, b2, e2⟩ := mem_seg.1 (h2.perm.mem_iff.1 (mem_seg.2 ⟨j, i3, i4, rfl⟩))
  rw [e1, e2]; exact hinc i' j' (by omega) b2
theorem Good.merge {f0 f f' : Nat → Int} {x m y : Nat} (hx : x ≤ m) (hy : m ≤ y) (h1 : Good lt f0 f x m) (h2 : Good lt f0 f m y) (r : MrgR lt f f' x y) : Good lt f0 f' x y :=
  ⟨r.srt, r.perm.trans (by rw [seg_split f hx hy, seg_split f0 hx hy]; exact h1.perm.append h2.perm)⟩
theorem Good.nil (f0 f : Nat → Int) {x y : Nat} (h : y ≤ x) : Good lt f0 f x y := ⟨fun i j i1 i2 i3 => by omega, by rw [seg_empty f h, seg_empty f0 h]⟩
def Blk (lt : Int → Int → Bool) (f0 f : Nat → Int) (L S : Nat) : Prop := ∀ x, S ∣ x → x ≤ L → Good lt f0 f x (min (x + S) L)
structure Pass (lt : Int → Int → Bool) (f0 f : Nat → Int) (L S a : Nat) : Prop where
  dv : 2 * S ∣ a
  le : a ≤ L
  done : ∀ x, 2 * S ∣ x → x + 2 * S ≤ a → Good lt f0 f x (x + 2 * S)
  rest : ∀ x, S ∣ x → a ≤ x → x ≤ L → Good lt f0 f x (min (x + S) L)
theorem dvd_eq {S x a : Nat} (h1 : S ∣ x) (h2 : S ∣ a) (h3 : x < a + S) (h4 : a < x + S) : x = a := by
  obtain ⟨p, rfl⟩ := h1
  obtain ⟨q, rfl⟩ := h2
  have e1 : p < q + 1 := Nat.lt_of_mul_lt_mul_left (a := S) (by rw [Nat.mul_add]; omega)
  have e2 : q < p + 1 := Nat.lt_of_mul_lt_mul_left (a := S) (by rw [Nat.mul_add]; omega)
  rw [show p = q by omega]
theorem Pass.start {f0 f : Nat → Int} {L S : Nat} (hS : 0 < S) (h : Blk lt f0 f L S) : Pass lt f0 f L S 0 :=
  ⟨Nat.dvd_zero _, Nat.zero_le _, fun x _ h2 => by omega, fun x h1 _ h3 => h x h1 h3⟩
theorem Pass.parts {f0 f : Nat → Int} {L S a : Nat} (h : Pass lt f0 f L S a) (hb : a + S ≤ L) : Good lt f0 f a (a + S) ∧ Good lt f0 f (a + S) (min (a + S + S) L) := by
  have d1 : S ∣ a := Nat.dvd_trans ⟨2, Nat.mul_comm _ _⟩ h.dv
  have h1 := h.rest a d1 (Nat.le_refl _) h.le
  rw [Nat.min_eq_left hb] at h1
  exact ⟨h1, h.rest (a + S) (Nat.dvd_add d1 (Nat.dvd_refl _)) (by omega) hb⟩
theorem Pass.step {f0 f f' : Nat → Int} {L S a : Nat} (hS : 0 < S) (h : Pass lt f0 f L S a) (hb : a + 2 * S ≤ L) (r : MrgR lt f f' a (a + 2 * S)) : Pass lt f0 f' L S (a + 2 * S) := by
  obtain ⟨p1, p2⟩ := h.parts (by omega)
  rw [Nat.min_eq_left (by omega), show a + S + S = a + 2 * S by omega] at p2
  have G := Good.merge (by omega) (by omega) p1 p2 r
  refine ⟨Nat.dvd_add h.dv (Nat.dvd_refl _), hb, fun x h1 h2 => ?_, fun x h1 h2 h3 => (h.rest x h1 (by omega) h3).far fun k k1 k2 => r.far k (.inr (by omega))⟩
  by_cases e : x + 2 * S ≤ a
  · exact (h.done x h1 e).far fun k k1 k2 => r.far k (.inl (by omega))
  · obtain rfl : x = a := dvd_eq h1 h.dv (by omega) (by omega)
    exact G
theorem Pass.last {f0 f f' : Nat → Int} {L S a : Nat} (hS : 0 < S) (h : Pass lt f0 f L S a) (hb : L < a + 2 * S) (hf : ∀ k, k < a → f' k = f k) (G : Good lt f0 f' a L) : Blk lt f0 f' L (2 * S) := fun x h1 h2 => by
  have hl := h.le
  by_cases e : x + 2 * S ≤ a
  · rw [Nat.min_eq_left (by omega)]
    exact (h.done x h1 e).far fun k k1 k2 => hf k (by omega)
  · obtain rfl : x = a := dvd_eq h1 h.dv (by omega) (by omega)
    rw [Nat.min_eq_right (by omega)]
    exact G
structure Ins (lt : Int → Int → Bool) (f0 f : Nat → Int) (L a : Nat) : Prop where
  dv : 20 ∣ a
  le : a ≤ L
  done : ∀ x, 20 ∣ x → x + 20 ≤ a → Good lt f0 f x (x + 20)
  rest : ∀ k, a ≤ k → f k = f0 k
theorem Ins.start (f0 : Nat → Int) (L : Nat) : Ins lt f0 f0 L 0 := ⟨Nat.dvd_zero _, Nat.zero_le _, fun x _ h2 => by omega, fun _ _ => rfl⟩
theorem Ins.good {f0 f f' : Nat → Int} {L a b : Nat} (h : Ins lt f0 f L a) (hp : (seg f' a b).Perm (seg f a b)) (hs : Srt lt f' a b) : Good lt f0 f' a b := ⟨hs, by rw [← seg_congr (f := f) (fun k k1 k2 => h.rest k k1)]; exact hp⟩
theorem Ins.step {f0 f f' : Nat → Int} {L a : Nat} (h : Ins lt f0 f L a) (hb : a + 20 ≤ L) (hf : ∀ k, k < a ∨ a + 20 ≤ k → f' k = f k) (hp : (seg f' a (a + 20)).Perm (seg f a (a + 20))) (hs : Srt lt f' a (a + 20)) : Ins lt f0 f' L (a + 20) := by
  have G := h.good hp hs
  have hd := h.dv
  refine ⟨by omega, hb, fun x h1 h2 => ?_, fun k k1 => by rw [hf k (.inr k1)]; exact h.rest k (by omega)⟩
  by_cases e : x + 20 ≤ a
  · exact (h.done x h1 e).far fun k k1 k2 => hf k (.inl (by omega))
  · obtain rfl : x = a := by omega
    exact G
theorem Ins.last {f0 f f' : Nat → Int} {L a : Nat} (h : Ins lt f0 f L a) (hb : L < a + 20) (hf : ∀ k, k < a ∨ L ≤ k → f' k = f k) (hp : (seg f' a L).Perm (seg f a L)) (hs : Srt lt f' a L) : Blk lt f0 f' L 20 := fun x h1 h2 => by
  have G := h.good hp hs
  have hd := h.dv
  have hl := h.le
  by_cases e : x + 20 ≤ a
  · rw [Nat.min_eq_left (by omega)]
    exact (h.done x h1 e).far fun k k1 k2 => hf k (.inl (by omega))
  · obtain rfl : x = a := by omega
    rw [Nat.min_eq_right (by omega)]
    exact G
theorem Blk.all {f0 f : Nat → Int} {L S : Nat} (h : Blk lt f0 f L S) (hS : L ≤ S) : Good lt f0 f 0 L := by
  have := h 0 (Nat.dvd_zero _) (Nat.zero_le _)
  rwa [Nat.min_eq_right (by omega)] at this
end
end Go.Proofs.YtepldjidkomclaaGreat.Ca
