/- Blocks known whole; what a call leaves alone; own rows of encoded elements. No function of the program in sight. Sets of lots as numbers: uint32's operations on bits. No program in sight. The hall in plain Lean, as the program computes it. No program in sight. The hall in plain Lean: step by step. No program in sight. A package auction in plain Lean: offers, the greatest totals, the best award. No program in sight. The reference's tables: by the lots that are taken. No program in sight. The reference's best award: by the lots that are taken. No program in sight. The best award is the greatest, and the first of the greatest. No program in sight. The hall in plain Lean: what a crowd is made of. No program in sight. The hall in plain Lean: what balanced looks at. No program in sight. Matching in plain Lean: what give finds, and what its failure shows. No program in sight. Matching in plain Lean: all can be given one, or some are too many for what they want. No program in sight. -/
import Derived.Test.YtojednnciknhpaaDoorRows
import Derived.WalkKit
import Derived.WalkSpells
import Derived.WalkLawsBesides
import Derived.Deep.RegionHeld3
import Derived.Deep.DrawnRows
import Derived.Deep.QuietTactic
import Derived.BigQuiet
import Derived.Lib.Hide
import Derived.OwnWalk
import Derived.Deep.AppendLies
import Derived.Deep.Onto
import Derived.Laws.OwnMore
import Derived.Deep.DeepCutAuto
import Derived.Deep.CutBlock
import Derived.Deep.LoopGhost
namespace Go.Proofs.YtojednnciknhpaaDoor
set_option linter.unusedSimpArgs false
set_option linter.unusedVariables false
open Go.RowKit

/-- A fact that the walk shall not see. -/
theorem hid {p : Prop} (h : p) : Hid p := h
theorem cells_of_block {w : World} {b : Nat} {vs : Array Value} {ty : TypeId} (h : w.heap[b]? = some (Obj.cells vs ty)) (j : Nat) : w.cell? ⟨b, j, none⟩ = vs[j]? := by
  simp [World.cell?, World.cells?, h]
theorem heap_alloc_new (w : World) (o : Obj) : (w.alloc o).heap[w.heap.size]? = some o := (MapKept.heap_alloc w o).1
def Cells (w : World) (B : Nat) (cs : Array Value) (ty : TypeId) : Prop := w.heap[B]? = some (.cells cs ty)
theorem Cells.lt {w : World} {B : Nat} {cs : Array Value} {ty : TypeId} (h : Cells w B cs ty) : B < w.heap.size := (Array.getElem?_eq_some_iff.1 h).1
theorem Cells.cell {w : World} {B : Nat} {cs : Array Value} {ty : TypeId} (h : Cells w B cs ty) (j : Nat) : w.cell? ⟨B, j, none⟩ = cs[j]? := cells_of_block h j
theorem Cells.frozen {w : World} {B : Nat} {cs : Array Value} {ty : TypeId} (h : Cells w B cs ty) (j : Nat) : w.frozen? ⟨B, j, none⟩ = false := by
  simp [World.frozen?, show w.heap[B]? = _ from h]
theorem Cells.below {w w' : World} {B C : Nat} {cs : Array Value} {ty : TypeId} (h : Cells w B cs ty) (hb : Below C w w') (hC : B < C) : Cells w' B cs ty := (hb.block B hC).trans h
theorem Cells.new (w : World) (cs : Array Value) (ty : TypeId) : Cells (w.alloc (.cells cs ty)) w.heap.size cs ty := heap_alloc_new w _
theorem Cells.drew {w : World} {B : Nat} {cs : Array Value} {ty : TypeId} (h : Cells w B cs ty) : Cells w.drew B cs ty := h
theorem Cells.drewN {w : World} {B : Nat} {cs : Array Value} {ty : TypeId} (h : Cells w B cs ty) (k : Nat) : Cells (w.drewN k) B cs ty := h
theorem Cells.alloc {w : World} {B : Nat} {cs : Array Value} {ty : TypeId} (h : Cells w B cs ty) (o : Obj) : Cells (w.alloc o) B cs ty := (Below.heap_alloc w o B h.lt).trans h
theorem Cells.set {w : World} {B : Nat} {cs : Array Value} {ty : TypeId} (h : Cells w B cs ty) (j : Nat) (v : Value) : Cells (w.setCell ⟨B, j, none⟩ v) B (cs.setIfInBounds j v) ty := by
  obtain ⟨hlt, hk⟩ := Array.getElem?_eq_some_iff.1 h
  show (w.heap.modify B _)[B]? = _
  rw [Array.getElem?_eq_getElem (by rw [Array.size_modify]; exact hlt), Array.getElem_modify_self, hk]
  rfl
theorem Cells.set_far {w : World} {B C : Nat} {cs : Array Value} {ty : TypeId} (h : Cells w B cs ty) (j : Nat) (v : Value) (hne : B ≠ C) : Cells (w.setCell ⟨C, j, none⟩ v) B cs ty :=
  (Below.heap_setCell w ⟨C, j, none⟩ v B hne).trans h
theorem cells_type {w : World} {b : Nat} {cs cs' : Array Value} {t t' : TypeId} (h : Cells w b cs t) (h' : w.heap[b]? = some (Obj.cells cs' t')) : t = t' := by
  have := (show w.heap[b]? = _ from h).symm.trans h'
  simp at this
  exact this.2
/-- Blocks of different types are different. -/
theorem Cells.ne {w : World} {b c : Nat} {cs cs' : Array Value} {t t' : TypeId} (h : Cells w b cs t) (h' : Cells w c cs' t') (ht : t ≠ t') : b ≠ c := fun e => by subst e; exact ht (cells_type h h')
theorem cell_one {w : World} {B : Nat} {v : Value} {ty : TypeId} (h : Cells w B #[v] ty) : w.cell? ⟨B, 0, none⟩ = some v := by simp [h.cell]
theorem drewN_below {B : Nat} {a w : World} (h : Below B a w) (k : Nat) : Below B a (w.drewN k) := ⟨h.os, h.tape, h.output, h.size, h.block⟩
theorem size_setCell (w : World) (p : Addr) (v : Value) : (w.setCell p v).heap.size = w.heap.size := by
  unfold World.setCell
  split <;> simp

/-- Only blocks of a set are changed. -/
structure Kept (X : Nat → Prop) (w w' : World) : Prop where
  os : w'.os = w.os
  tape : w'.tape = w.tape
  output : w'.output = w.output
  size : w.heap.size ≤ w'.heap.size
  block : ∀ k, k < w.heap.size → ¬ X k → w'.heap[k]? = w.heap[k]?
theorem Kept.refl (X : Nat → Prop) (w : World) : Kept X w w := ⟨rfl, rfl, rfl, Nat.le_refl _, fun _ _ _ => rfl⟩
theorem Kept.trans {X Y : Nat → Prop} {w w' w'' : World} (h : Kept X w w') (g : Kept Y w' w'') (hY : ∀ k, k < w.heap.size → Y k → X k) : Kept X w w'' :=
  ⟨g.os.trans h.os, g.tape.trans h.tape, g.output.trans h.output, Nat.le_trans h.size g.size, fun k hk hx => (g.block k (Nat.lt_of_lt_of_le hk h.size) (fun hy => hx (hY k hk hy))).trans (h.block k hk hx)⟩
theorem Kept.of_below {X : Nat → Prop} {w w' : World} (h : Below w.heap.size w w') : Kept X w w' := ⟨h.os, h.tape, h.output, h.size, fun k hk _ => h.block k hk⟩
theorem Kept.below {X : Nat → Prop} {w w' : World} {B : Nat} (h : Kept X w w') (hB : B ≤ w.heap.size) (hX : ∀ k, X k → B ≤ k) : Below B w w' :=
  ⟨h.os, h.tape, h.output, h.size, fun k hk => h.block k (Nat.lt_of_lt_of_le hk hB) (fun hx => by have := hX k hx; omega)⟩
theorem Kept.mono {X Y : Nat → Prop} {w w' : World} (h : Kept X w w') (hX : ∀ k, X k → Y k) : Kept Y w w' := ⟨h.os, h.tape, h.output, h.size, fun k hk hy => h.block k hk (fun hx => hy (hX k hx))⟩
theorem Kept.set {X : Nat → Prop} {w w' : World} (h : Kept X w w') {C : Nat} (hC : X C) (j : Nat) (v : Value) : Kept X w (w'.setCell ⟨C, j, none⟩ v) :=
  ⟨by rw [← h.os]; unfold World.setCell; split <;> rfl, by rw [← h.tape]; unfold World.setCell; split <;> rfl, by rw [← h.output]; unfold World.setCell; split <;> rfl, by rw [size_setCell]; exact h.size,
    fun k hk hx => (Below.heap_setCell w' ⟨C, j, none⟩ v k (fun e => hx (by rw [show k = C from e]; exact hC))).trans (h.block k hk hx)⟩
theorem Kept.alloc {X : Nat → Prop} {w w' : World} (h : Kept X w w') (o : Obj) : Kept X w (w'.alloc o) :=
  h.trans (Kept.of_below (X := X) ((Below.refl _ _).alloc (Nat.le_refl _) _)) (fun _ _ h => h)
theorem Kept.drewN {X : Nat → Prop} {w w' : World} (h : Kept X w w') (k : Nat) : Kept X w (w'.drewN k) := ⟨h.os, h.tape, h.output, h.size, h.block⟩
theorem Kept.drew {X : Nat → Prop} {w w' : World} (h : Kept X w w') : Kept X w w'.drew := ⟨h.os, h.tape, h.output, h.size, h.block⟩
theorem Cells.kept {X : Nat → Prop} {w w' : World} {b : Nat} {cs : Array Value} {ty : TypeId} (h : Cells w b cs ty) (hk : Kept X w w') (hx : ¬ X b) : Cells w' b cs ty := (hk.block b h.lt hx).trans h

section
variable {α : Type} {enc : α → List Value} {sz : Nat}
/-- The cells of a list, one element behind the other. -/
def flatE (enc : α → List Value) (l : List α) : List Value := l.flatMap enc
theorem flatE_nil : flatE enc [] = [] := rfl
theorem flatE_append (l m : List α) : flatE enc (l ++ m) = flatE enc l ++ flatE enc m := by simp [flatE]
theorem flatE_snoc (l : List α) (a : α) : flatE enc (l ++ [a]) = flatE enc l ++ enc a := by simp [flatE]
theorem flatE_cons (l : List α) (a : α) : flatE enc (a :: l) = enc a ++ flatE enc l := by simp [flatE]
theorem flatE_length (h : ∀ a, (enc a).length = sz) (l : List α) : (flatE enc l).length = l.length * sz := by
  induction l with
  | nil => simp [flatE]
  | cons a l ih => rw [flatE_cons, List.length_append, h, ih, List.length_cons, Nat.succ_mul, Nat.add_comm]
theorem flatE_get (h : ∀ a, (enc a).length = sz) : ∀ (l : List α) (k : Nat) (hk : k < l.length) (j : Nat), j < sz → (flatE enc l)[k * sz + j]? = (enc l[k])[j]?
  | [], k, hk, _, _ => absurd hk (by simp)
  | a :: l, 0, _, j, hj => by rw [flatE_cons, Nat.zero_mul, Nat.zero_add, List.getElem?_append_left (by rw [h]; exact hj)]; rfl
  | a :: l, k + 1, hk, j, hj => by
    rw [flatE_cons, List.getElem?_append_right (by rw [h, Nat.succ_mul]; omega), h, show (k + 1) * sz + j - sz = k * sz + j by rw [Nat.succ_mul]; omega, flatE_get h l k (by simpa using hk) j hj]
    rfl
/-- A slice value that reads as a list of elements. -/
def ReadsE (enc : α → List Value) (sz : Nat) (w : World) (v : Value) (l : List α) : Prop :=
  l.length ≤ 9223372036854775807 ∧ ∃ p cap b off, v = .slice p l.length cap ∧ (0 < l.length → p = some ⟨b, off, none⟩ ∧ b < w.heap.size) ∧
    ∀ (k : Nat) (hk : k < l.length) (j : Nat), j < sz → w.cell? ⟨b, off + k * sz + j, none⟩ = (enc l[k])[j]?
theorem ReadsE.below {w w' : World} {v : Value} {l : List α} (h : ReadsE enc sz w v l) (hb : Below w.heap.size w w') : ReadsE enc sz w' v l := by
  obtain ⟨hm, p, cap, b, off, hv, hp, hc⟩ := h
  exact ⟨hm, p, cap, b, off, hv, fun h0 => ⟨(hp h0).1, Nat.lt_of_lt_of_le (hp h0).2 hb.size⟩, fun k hk j hj => (hb.cell (p := ⟨b, off + k * sz + j, none⟩) (hp (by omega)).2).trans (hc k hk j hj)⟩
theorem ReadsE.drewN {w : World} {v : Value} {l : List α} (h : ReadsE enc sz w v l) (n : Nat) : ReadsE enc sz (w.drewN n) v l := h
theorem ReadsE.alloc {w : World} {v : Value} {l : List α} (h : ReadsE enc sz w v l) (o : Obj) : ReadsE enc sz (w.alloc o) v l := h.below ((Below.refl _ _).alloc (Nat.le_refl _) _)
theorem ReadsE.nil (w : World) (p : Option Addr) (cap : Nat) : ReadsE enc sz w (.slice p 0 cap) ([] : List α) := ⟨by simp, p, cap, 0, 0, rfl, fun h => absurd h (by simp), fun k hk => absurd hk (by simp)⟩
/-- A slice in an own row from block B on. -/
def OwnE (enc : α → List Value) (sz : Nat) (e : TypeId) (B : Nat) (w : World) (v : Value) (l : List α) : Prop := w.ownsRow B e sz v l.length (flatE enc l)
variable {e : TypeId}
theorem OwnE.nil (B : Nat) (w : World) : OwnE enc sz e B w (.slice none 0 0) ([] : List α) := ⟨by simp [flatE], .inl ⟨rfl, rfl⟩⟩
theorem ownsRow_moved {w w' : World} {B : Nat} {e : TypeId} {size : Nat} {v : Value} {n : Nat} {xs : List Value} (h : w.ownsRow B e size v n xs) (hb : ∀ (b : Nat) (cs : Array Value), B ≤ b → v.ownBlock = some b → w.heap[b]? = some (Obj.cells cs e) → w'.heap[b]? = w.heap[b]?) : w'.ownsRow B e size v n xs := by
  refine ⟨h.1, h.2.imp id ?_⟩
  rintro ⟨g, c, cur, h1, h2, h3, h4⟩
  exact ⟨g, c, cur, h1, h2, (hb g cur h2 (by rw [h1]; rfl) h3).trans h3, h4⟩
theorem OwnE.moved {B : Nat} {w w' : World} {v : Value} {l : List α} (h : OwnE enc sz e B w v l) (hb : ∀ (b : Nat) (cs : Array Value), B ≤ b → v.ownBlock = some b → w.heap[b]? = some (Obj.cells cs e) → w'.heap[b]? = w.heap[b]?) : OwnE enc sz e B w' v l := ownsRow_moved h hb
theorem OwnE.below {B : Nat} {W W' : World} {v : Value} {l : List α} (h : OwnE enc sz e B W v l) (hb : Below W.heap.size W W') : OwnE enc sz e B W' v l :=
  ownsRow_moved h fun b cs _ _ hb' => hb.block b (Array.getElem?_eq_some_iff.1 hb').1
theorem OwnE.kept {X : Nat → Prop} {B : Nat} {W W' : World} {v : Value} {l : List α} (h : OwnE enc sz e B W v l) (hk : Kept X W W') (hx : ∀ b, v.ownBlock = some b → ¬ X b) : OwnE enc sz e B W' v l :=
  ownsRow_moved h fun b cs _ ho hb' => hk.block b (Array.getElem?_eq_some_iff.1 hb').1 (hx b ho)
theorem OwnE.alloc {B : Nat} {W : World} {v : Value} {l : List α} (h : OwnE enc sz e B W v l) (o : Obj) : OwnE enc sz e B (W.alloc o) v l := h.below ((Below.refl _ _).alloc (Nat.le_refl _) _)
theorem OwnE.drewN {B : Nat} {W : World} {v : Value} {l : List α} (h : OwnE enc sz e B W v l) (n : Nat) : OwnE enc sz e B (W.drewN n) v l := ownsRow_moved h fun _ _ _ _ _ => rfl
theorem OwnE.drew {B : Nat} {W : World} {v : Value} {l : List α} (h : OwnE enc sz e B W v l) : OwnE enc sz e B W.drew v l := ownsRow_moved h fun _ _ _ _ _ => rfl
theorem OwnE.mono {B B' : Nat} {W : World} {v : Value} {l : List α} (h : OwnE enc sz e B W v l) (hb : B' ≤ B) : OwnE enc sz e B' W v l := World.ownsRow.mono h hb
theorem OwnE.set {B : Nat} {W : World} {v : Value} {l : List α} (h : OwnE enc sz e B W v l) {C : Nat} {cs : Array Value} {ty : TypeId} (hc : Cells W C cs ty) (ht : ty ≠ e) (j : Nat) (u : Value) : OwnE enc sz e B (W.setCell ⟨C, j, none⟩ u) v l :=
  ownsRow_moved h fun b cs' _ _ hb' => Below.heap_setCell W ⟨C, j, none⟩ u b (fun h => by have h' : b = C := h; subst h'; exact ht (cells_type hc hb'))
/-- What a value looks like that owns a row, nil or not. -/
theorem OwnE.form {B : Nat} {W : World} {v : Value} {l : List α} (h : OwnE enc sz e B W v l) : ∃ p cap, v = .slice p l.length cap ∧ (p = none ∧ l = [] ∨ ∃ g, p = some ⟨g, 0, none⟩ ∧ B ≤ g ∧ g < W.heap.size) := by
  rcases h.2 with ⟨h1, h2⟩ | ⟨g, cap, cur, hv, hb, hg, _⟩
  · exact ⟨none, 0, by rw [h1, h2], .inl ⟨rfl, List.length_eq_zero_iff.1 h2⟩⟩
  · exact ⟨_, cap, hv, .inr ⟨g, rfl, hb, (Array.getElem?_eq_some_iff.1 hg).1⟩⟩
/-- The cells of an own row. -/
theorem OwnE.cells (hlen : ∀ a, (enc a).length = sz) {B : Nat} {w : World} {v : Value} {l : List α} (h : OwnE enc sz e B w v l) : ∃ p cap b, v = .slice p l.length cap ∧ (0 < l.length → p = some ⟨b, 0, none⟩ ∧ B ≤ b ∧ b < w.heap.size) ∧
    ∀ (k : Nat) (hk : k < l.length) (j : Nat), j < sz → w.cell? ⟨b, k * sz + j, none⟩ = (enc l[k])[j]? := by
  rcases h.2 with ⟨h1, h2⟩ | ⟨g, cap, cur, hv, hb, hg, h3⟩
  · exact ⟨none, 0, 0, by rw [h1, h2], fun h0 => by omega, fun k hk => by omega⟩
  · subst hv
    refine ⟨_, cap, g, rfl, fun _ => ⟨rfl, hb, (Array.getElem?_eq_some_iff.1 hg).1⟩, fun k hk j hj => ?_⟩
    rw [World.ownsRow.cellAt h _ (by have : k * sz + sz ≤ l.length * sz := by { rw [← Nat.succ_mul]; exact Nat.mul_le_mul_right _ hk }; omega), flatE_get hlen l k hk j hj]
end
/-- The new cells of an append, read out of their block. -/
theorem news_of {w : World} {B : Nat} {cs : Array Value} {t : TypeId} (h : Cells w B cs t) : ∀ j u, cs.toList[j]? = some u → w.cell? ((⟨B, 0, none⟩ : Addr).add j) = some u := World.news_of_block h
theorem news_at {w : World} {B : Nat} {cs : Array Value} {t : TypeId} (h : Cells w B cs t) : ∀ j u, cs.toList[j]? = some u → w.cell? ⟨B, j, none⟩ = some u := fun j u hu => by
  rw [h.cell]; simpa using hu
end Go.Proofs.YtojednnciknhpaaDoor
namespace Go.Proofs.YtojednnciknhpaaDoor
set_option linter.unusedSimpArgs false
set_option linter.unusedVariables false
open Go.RowKit
/-- The elements of a that are not in b. -/
def diffN (a b : Nat) : Nat := (BitVec.ofNat 32 a &&& ~~~ BitVec.ofNat 32 b).toNat
theorem ofInt_nat {a : Nat} : BitVec.ofInt 32 (a : Int) = BitVec.ofNat 32 a := BitVec.ofInt_natCast ..
theorem wrap_u32_nat {n : Nat} (h : n < 4294967296) : IntKind.u32.wrap (n : Int) = (n : Int) := IntWalk.u32_in _ (by omega)
theorem bits_andNot_u32 (a b : Nat) : bits .andNot .u32 (a : Int) (b : Int) = ((diffN a b : Nat) : Int) := by
  show IntKind.u32.wrap ((BitVec.ofInt 32 (a : Int) &&& ~~~ BitVec.ofInt 32 (b : Int)).toNat : Int) = _
  rw [ofInt_nat, ofInt_nat]
  exact wrap_u32_nat (BitVec.isLt _)
theorem toNat_small {a : Nat} (h : a < 4294967296) : (BitVec.ofNat 32 a).toNat = a := by rw [BitVec.toNat_ofNat]; exact Nat.mod_eq_of_lt h
theorem bits_and_u32 {a b : Nat} (ha : a < 4294967296) (hb : b < 4294967296) : bits .and .u32 (a : Int) (b : Int) = ((a &&& b : Nat) : Int) := by
  show IntKind.u32.wrap ((BitVec.ofInt 32 (a : Int) &&& BitVec.ofInt 32 (b : Int)).toNat : Int) = _
  rw [ofInt_nat, ofInt_nat, BitVec.toNat_and, toNat_small ha, toNat_small hb]
  exact wrap_u32_nat (Nat.and_lt_two_pow (n := 32) _ hb)
theorem bits_or_u32 {a b : Nat} (ha : a < 4294967296) (hb : b < 4294967296) : bits .or .u32 (a : Int) (b : Int) = ((a ||| b : Nat) : Int) := by
  show IntKind.u32.wrap ((BitVec.ofInt 32 (a : Int) ||| BitVec.ofInt 32 (b : Int)).toNat : Int) = _
  rw [ofInt_nat, ofInt_nat, BitVec.toNat_or, toNat_small ha, toNat_small hb]
  exact wrap_u32_nat (Nat.or_lt_two_pow (n := 32) ha hb)
theorem diffN_lt (a b : Nat) : diffN a b < 4294967296 := BitVec.isLt _
theorem diffN_bit {a b : Nat} (ha : a < 4294967296) (hb : b < 4294967296) (i : Nat) : (diffN a b).testBit i = (a.testBit i && !b.testBit i) := by
  unfold diffN
  rw [BitVec.toNat_and, Nat.testBit_and, toNat_small ha]
  by_cases hi : i < 32
  · have : (~~~ BitVec.ofNat 32 b).toNat.testBit i = !b.testBit i := by
      rw [BitVec.testBit_toNat, BitVec.getLsbD_not, BitVec.getLsbD_ofNat]
      simp [hi]
    rw [this]
  · have : a.testBit i = false := Nat.testBit_lt_two_pow (Nat.lt_of_lt_of_le ha (by
      have : (4294967296 : Nat) = 2 ^ 32 := rfl
      rw [this]; exact Nat.pow_le_pow_right (by omega) (by omega)))
    rw [this]; rfl
/-- One set is a part of another. -/
theorem diffN_zero {a b : Nat} (ha : a < 4294967296) (hb : b < 4294967296) : diffN a b = 0 ↔ ∀ i, a.testBit i = true → b.testBit i = true := by
  constructor
  · intro h i hi
    have := diffN_bit ha hb i
    rw [h, hi] at this
    simpa using this
  · intro h
    apply Nat.eq_of_testBit_eq
    intro i
    rw [diffN_bit ha hb, Nat.zero_testBit]
    cases ha' : a.testBit i with
    | false => rfl
    | true => rw [h i ha']; rfl
theorem diffN_le {a b : Nat} (ha : a < 4294967296) (hb : b < 4294967296) : diffN a b ≤ a := by
  unfold diffN
  rw [BitVec.toNat_and, toNat_small ha]
  exact Nat.and_le_left
end Go.Proofs.YtojednnciknhpaaDoor
namespace Go.Proofs.YtojednnciknhpaaDoor
set_option linter.unusedSimpArgs false
set_option linter.unusedVariables false
open Go.RowKit
/-- The most that a buyer gains. -/
def gainH : List Int → List Int → Int → Int
  | x :: r, p :: ps, m => gainH r ps (max m (x - p))
  | _, _, m => m
def gainF (row prices : List Int) : Int := gainH row prices 0
def wantsH (b : Int) : List Int → List Int → Nat → List Nat
  | x :: r, p :: ps, j => (if x - p = b then [j] else []) ++ wantsH b r ps (j + 1)
  | _, _, _ => []
def wantsF (row prices : List Int) : List Nat := wantsH (gainF row prices) row prices 0
/-- A matching with the lots that were tried: lots by buyers, buyers by lots. -/
structure Mg where
  lo : List Int
  bu : List Int
  seen : List Bool
deriving DecidableEq
def Mg.pair (m : Mg) (i j : Nat) : Mg := { m with lo := m.lo.set i j, bu := m.bu.set j i }
def giveL (rec : Nat → Mg → Bool × Mg) (bar : List Bool) (i : Nat) : List Nat → Mg → Bool × Mg
  | [], m => (false, m)
  | j :: js, m =>
    if m.seen.getD j false = true ∨ bar.getD j false = true then giveL rec bar i js m
    else if m.bu.getD j (-1) < 0 then (true, ({ m with seen := m.seen.set j true } : Mg).pair i j)
    else if (rec (m.bu.getD j (-1)).toNat { m with seen := m.seen.set j true }).1 = true then (true, (rec (m.bu.getD j (-1)).toNat { m with seen := m.seen.set j true }).2.pair i j)
    else giveL rec bar i js (rec (m.bu.getD j (-1)).toNat { m with seen := m.seen.set j true }).2
/-- give; the first number: how deep at most. -/
def giveF (wants : List (List Nat)) (bar : List Bool) : Nat → Nat → Mg → Bool × Mg
  | 0, _, m => (false, m)
  | f + 1, i, m => giveL (giveF wants bar f) bar i (wants.getD i []) m
def eagerF (worth : List (List Int)) (prices : List Int) : List (List Nat) := worth.map fun row => if 0 < gainF row prices then wantsF row prices else []
def insN (x : Int) : List Int → List Int
  | [] => [x]
  | y :: l => if x ≤ y then x :: y :: l else y :: insN x l
def sortN (l : List Int) : List Int := l.foldr insN []
def noB (n : Nat) : List Bool := List.replicate n false
def crowdL (wants : List (List Nat)) (n : Nat) : List Nat → Mg → Option (List Int × List Nat)
  | [], _ => none
  | i :: is, m =>
    if wants.getD i [] = [] then crowdL wants n is m
    else if (giveF wants (noB n) (n + 1) i { m with seen := noB n }).1 = true then crowdL wants n is (giveF wants (noB n) (n + 1) i { m with seen := noB n }).2
    else some (sortN ((i : Int) :: ((List.range n).filter fun j => (giveF wants (noB n) (n + 1) i { m with seen := noB n }).2.seen.getD j false).map fun j => (giveF wants (noB n) (n + 1) i { m with seen := noB n }).2.bu.getD j (-1)), (List.range n).filter fun j => (giveF wants (noB n) (n + 1) i { m with seen := noB n }).2.seen.getD j false)
def crowdF (worth : List (List Int)) (prices : List Int) : Option (List Int × List Nat) :=
  crowdL (eagerF worth prices) prices.length (List.range worth.length) ⟨List.replicate worth.length (-1), List.replicate prices.length (-1), []⟩
/-- The buyers but one, the others' worths struck. -/
def partF (worth : List (List Int)) (n : Nat) (buyers : List Int) (out : Int) : List (List Int) :=
  (List.range worth.length).map fun (i : Nat) => if buyers.contains (i : Int) = true ∧ (i : Int) ≠ out then worth.getD i [] else List.replicate n 0
def shrinkF (worth : List (List Int)) (prices : List Int) (buyers : List Int) : List Int → Option (List Int × List Nat)
  | [] => none
  | out :: r => match crowdF (partF worth prices.length buyers out) prices with
    | some x => some x
    | none => shrinkF worth prices buyers r
/-- Crowds are made smaller; the first number: how often at most (none: that was not enough). -/
def smallF (worth : List (List Int)) (prices : List Int) : Nat → Option (List Int × List Nat) → Option (Option (List Int × List Nat))
  | _, none => some none
  | 0, some _ => none
  | f + 1, some (b, l) => match shrinkF worth prices b b with
    | some x => smallF worth prices f (some x)
    | none => some (some (b, l))
def smallestF (worth : List (List Int)) (prices : List Int) : Option (Option (List Int × List Nat)) := smallF worth prices (worth.length + 1) (crowdF worth prices)
def riseH (b : Int) (lots : List Nat) : List Int → List Int → Nat → Int → Int
  | x :: r, p :: ps, j, s => riseH b lots r ps (j + 1) (if lots.contains j = true then s else min s (b - (x - p)))
  | _, _, _, s => s
def riseF (worth : List (List Int)) (prices : List Int) (lots : List Nat) : List Int → Int → Int
  | [], s => s
  | i :: r, s => riseF worth prices lots r (riseH (gainF (worth.getD i.toNat []) prices) lots (worth.getD i.toNat []) prices 0 (min s (gainF (worth.getD i.toNat []) prices)))
def raiseF (prices : List Int) (step : Int) : List Nat → List Int
  | [] => prices
  | j :: r => raiseF (prices.set j (prices.getD j 0 + step)) step r
def climbF (worth : List (List Int)) (prices : List Int) : Option (Option (List Int)) :=
  match smallestF worth prices with
  | none => none
  | some none => some none
  | some (some (b, l)) => some (some (raiseF prices (riseF worth prices l b 1152921504606846976) l))
/-- The least prices; the first number: how many times they rise at most (none: that was not enough). -/
def leastF (worth : List (List Int)) : Nat → List Int → Option (List Int)
  | 0, _ => none
  | f + 1, p => match climbF worth p with
    | none => none
    | some none => some p
    | some (some q) => if q.all (fun x => decide (0 ≤ x) && decide (x ≤ 1000000000)) = true then leastF worth f q else none
/-- Those of a list are matched one after the other. -/
def allF (wants : List (List Nat)) (bar : List Bool) (n : Nat) (skip : Nat → Bool) : List Nat → Mg → Bool
  | [], _ => true
  | i :: is, m =>
    if skip i = true then allF wants bar n skip is m
    else if (giveF wants bar (n + 1) i { m with seen := noB n }).1 = true then allF wants bar n skip is (giveF wants bar (n + 1) i { m with seen := noB n }).2
    else false
def takenF (n : Nat) (lots : List Int) : List Bool := (List.range n).map fun (j : Nat) => lots.contains (j : Int)
def restF (worth : List (List Int)) (prices : List Int) (k : Nat) : List (List Nat) := (List.range worth.length).map fun (i : Nat) => if i < k then [] else wantsF (worth.getD i []) prices
def mustF (worth : List (List Int)) (prices : List Int) (k : Nat) : List (List Nat) := (List.range worth.length).map fun (i : Nat) => if i < k then [] else if 0 < gainF (worth.getD i []) prices then wantsF (worth.getD i []) prices else []
def byLotF (worth : List (List Int)) (prices : List Int) (lots : List Int) : List (List Nat) :=
  (List.range prices.length).map fun (j : Nat) => if (takenF prices.length lots).getD j false = true then [] else (List.range worth.length).filter fun (i : Nat) => ((restF worth prices lots.length).getD i []).contains j
def balancedF (worth : List (List Int)) (prices : List Int) (lots : List Int) : Bool :=
  allF (mustF worth prices lots.length) (takenF prices.length lots) prices.length (fun i => decide ((mustF worth prices lots.length).getD i [] = [])) (List.range worth.length) ⟨List.replicate worth.length (-1), List.replicate prices.length (-1), []⟩ &&
  allF (byLotF worth prices lots) (noB worth.length) worth.length (fun j => (takenF prices.length lots).getD j false || decide (prices.getD j 0 ≤ 0)) (List.range prices.length) ⟨List.replicate prices.length (-1), List.replicate worth.length (-1), []⟩
def hallF (worth : List (List Int)) (prices : List Int) : List (List Int) → List Int → List Int
  | [], lots => lots
  | row :: r, lots =>
    match ((if gainF row prices = 0 then [-1] else []) ++ (wantsF row prices).map fun (j : Nat) => (j : Int)).find? fun j => !(decide (0 ≤ j) && lots.contains j) && balancedF worth prices (lots ++ [j]) with
    | none => hallF worth prices r lots
    | some j => hallF worth prices r (lots ++ [j])
theorem hall_awake3 : hallF [[5, 3], [4, 0]] [2, 0] [[5, 3], [4, 0]] [] = [1, 0] := by decide
/-- The program's example. -/
theorem hall_awake1 : leastF [[5, 3], [4, 0]] 3 [0, 0] = some [2, 0] := by decide
end Go.Proofs.YtojednnciknhpaaDoor
namespace Go.Proofs.YtojednnciknhpaaDoor
set_option linter.unusedSimpArgs false
set_option linter.unusedVariables false
open Go.RowKit
theorem gainH_snoc : ∀ {row prices : List Int} {i : Nat} (m : Int) (hi : i < row.length) (hp : i < prices.length), gainH (row.take (i + 1)) prices m = max (gainH (row.take i) prices m) (row[i] - prices[i])
  | [], _, i, _, hi, _ => absurd hi (by simp)
  | _ :: _, [], i, _, _, hp => absurd hp (by simp)
  | x :: r, p :: ps, 0, m, _, _ => by simp [gainH]
  | x :: r, p :: ps, i + 1, m, hi, hp => by
    simp only [List.take_succ_cons, gainH, List.getElem_cons_succ]
    exact gainH_snoc _ (by simpa using hi) (by simpa using hp)
theorem gainH_ge : ∀ (row prices : List Int) (m : Int), m ≤ gainH row prices m
  | [], _, _ => by simp [gainH]
  | _ :: _, [], _ => by simp [gainH]
  | x :: r, p :: ps, m => by
    have := gainH_ge r ps (max m (x - p))
    simp only [gainH]; omega
theorem gainH_le {M : Int} : ∀ (row prices : List Int) (m : Int), m ≤ M → (∀ x ∈ row, x ≤ M) → (∀ p ∈ prices, 0 ≤ p) → gainH row prices m ≤ M
  | [], _, _, h, _, _ => by simpa [gainH] using h
  | _ :: _, [], _, h, _, _ => by simpa [gainH] using h
  | x :: r, p :: ps, m, h, hx, hp => by
    have h1 := hx x List.mem_cons_self
    have h2 := hp p List.mem_cons_self
    exact gainH_le r ps _ (by omega) (fun y hy => hx y (List.mem_cons_of_mem _ hy)) fun y hy => hp y (List.mem_cons_of_mem _ hy)
/-- Amounts as they may be. -/
def okW (l : List Int) : Prop := ∀ x ∈ l, 0 ≤ x ∧ x ≤ 1000000000
theorem okW.take {l : List Int} (h : okW l) (n : Nat) : okW (l.take n) := fun x hx => h x (List.mem_of_mem_take hx)
theorem gainF_bound {row prices : List Int} (h : okW row) (hp : okW prices) : 0 ≤ gainF row prices ∧ gainF row prices ≤ 1000000000 :=
  ⟨gainH_ge _ _ _, gainH_le _ _ _ (by omega) (fun x hx => (h x hx).2) fun x hx => (hp x hx).1⟩
theorem gain_take_bound {row prices : List Int} (h : okW row) (hp : okW prices) (i : Nat) : 0 ≤ gainH (row.take i) prices 0 ∧ gainH (row.take i) prices 0 ≤ 1000000000 := gainF_bound (h.take i) hp
theorem wantsH_snoc {b : Int} : ∀ {row prices : List Int} {i : Nat} (j : Nat) (hi : i < row.length) (hp : i < prices.length), wantsH b (row.take (i + 1)) prices j = wantsH b (row.take i) prices j ++ (if row[i] - prices[i] = b then [j + i] else [])
  | [], _, i, _, hi, _ => absurd hi (by simp)
  | _ :: _, [], i, _, _, hp => absurd hp (by simp)
  | x :: r, p :: ps, 0, j, _, _ => by simp [wantsH]
  | x :: r, p :: ps, i + 1, j, hi, hp => by
    simp only [List.take_succ_cons, wantsH, List.getElem_cons_succ, List.append_assoc]
    rw [wantsH_snoc (j + 1) (by simpa using hi) (by simpa using hp), show j + 1 + i = j + (i + 1) by omega]
theorem wantsH_len {b : Int} : ∀ (row prices : List Int) (j : Nat), (wantsH b row prices j).length ≤ row.length
  | [], _, _ => by simp [wantsH]
  | _ :: _, [], _ => by simp [wantsH]
  | x :: r, p :: ps, j => by
    have := wantsH_len (b := b) r ps (j + 1)
    simp only [wantsH, List.length_append, List.length_cons]
    split
    · simp only [List.length_cons, List.length_nil]; omega
    · simp only [List.length_nil]; omega
theorem wantsH_lt {b : Int} : ∀ (row prices : List Int) (j : Nat), ∀ k ∈ wantsH b row prices j, j ≤ k ∧ k < j + row.length
  | [], _, _ => by simp [wantsH]
  | _ :: _, [], _ => by simp [wantsH]
  | x :: r, p :: ps, j => fun k hk => by
    simp only [wantsH, List.mem_append] at hk
    rcases hk with hk | hk
    · split at hk
      · simp at hk; subst hk; simp
      · simp at hk
    · have := wantsH_lt r ps (j + 1) k hk
      simp only [List.length_cons]; omega
theorem wantsF_lt {row prices : List Int} {k : Nat} (h : k ∈ wantsF row prices) : k < row.length := by
  have := wantsH_lt row prices 0 k h
  omega
/-! ### matchings -/
structure MgOk (nw n : Nat) (m : Mg) : Prop where
  lo : m.lo.length = nw
  bu : m.bu.length = n
  sn : m.seen.length = n
  rb : ∀ x ∈ m.bu, -1 ≤ x ∧ x < (nw : Int)
theorem MgOk.see {nw n : Nat} {m : Mg} (h : MgOk nw n m) (j : Nat) : MgOk nw n { m with seen := m.seen.set j true } := ⟨h.lo, h.bu, by simp [h.sn], h.rb⟩
theorem MgOk.fresh {nw n : Nat} {m : Mg} (h : MgOk nw n m) : MgOk nw n { m with seen := noB n } := ⟨h.lo, h.bu, by simp [noB], h.rb⟩
theorem MgOk.pair {nw n : Nat} {m : Mg} (h : MgOk nw n m) {i : Nat} (hi : i < nw) (j : Nat) : MgOk nw n (m.pair i j) := by
  refine ⟨by simp [Mg.pair, h.lo], by simp [Mg.pair, h.bu], h.sn, fun x hx => ?_⟩
  rcases List.mem_or_eq_of_mem_set hx with hx | rfl
  · exact h.rb x hx
  · omega
/-- How many lots were not tried yet. -/
def Mg.left (m : Mg) : Nat := m.seen.count false
theorem count_set_le : ∀ (l : List Bool) (j : Nat), (l.set j true).count false ≤ l.count false
  | [], _ => by simp
  | b :: l, 0 => by cases b <;> simp
  | b :: l, j + 1 => by
    have := count_set_le l j
    cases b <;> simp [List.count_cons] <;> omega
theorem count_set_lt : ∀ (l : List Bool) (j : Nat), j < l.length → l.getD j false = false → (l.set j true).count false < l.count false
  | [], _, h, _ => by simp at h
  | b :: l, 0, _, h => by
    simp at h; subst h; simp
  | b :: l, j + 1, h, h2 => by
    have := count_set_lt l j (by simpa using h) (by simpa using h2)
    cases b <;> simp [List.count_cons] <;> omega
theorem giveL_ok {nw n : Nat} {rec : Nat → Mg → Bool × Mg} (hrec : ∀ k m, k < nw → MgOk nw n m → MgOk nw n (rec k m).2 ∧ (rec k m).2.left ≤ m.left) {bar : List Bool} {i : Nat} (hi : i < nw) : ∀ (js : List Nat) (m : Mg), (∀ j ∈ js, j < n) → MgOk nw n m → MgOk nw n (giveL rec bar i js m).2 ∧ (giveL rec bar i js m).2.left ≤ m.left
  | [], m, _, h => ⟨h, Nat.le_refl _⟩
  | j :: js, m, hj, h => by
    have ih := fun m => giveL_ok hrec (bar := bar) hi js m fun j hj' => hj j (List.mem_cons_of_mem _ hj')
    have hjn := hj j List.mem_cons_self
    unfold giveL
    split
    · exact ih m h
    · have hs : ({ m with seen := m.seen.set j true } : Mg).left ≤ m.left := count_set_le _ _
      split
      · exact ⟨(h.see j).pair hi j, hs⟩
      · rename_i hb
        have hk : (m.bu.getD j (-1)).toNat < nw := by
          have : j < m.bu.length := by rw [h.bu]; exact hjn
          have e : m.bu.getD j (-1) = m.bu[j] := by simp [this]
          rw [e] at hb ⊢
          have := h.rb _ (List.getElem_mem this)
          omega
        obtain ⟨r1, r2⟩ := hrec _ _ hk (h.see j)
        split
        · exact ⟨r1.pair hi j, Nat.le_trans r2 hs⟩
        · obtain ⟨r3, r4⟩ := ih _ r1
          exact ⟨r3, Nat.le_trans r4 (Nat.le_trans r2 hs)⟩
/-- All lots are lots. -/
def wOk (wants : List (List Nat)) (n : Nat) : Prop := ∀ l ∈ wants, ∀ j ∈ l, j < n
theorem giveF_ok {wants : List (List Nat)} {bar : List Bool} {n : Nat} (hw : wOk wants n) : ∀ (f i : Nat) (m : Mg), i < wants.length → MgOk wants.length n m → MgOk wants.length n (giveF wants bar f i m).2 ∧ (giveF wants bar f i m).2.left ≤ m.left
  | 0, _, m, _, h => ⟨h, Nat.le_refl _⟩
  | f + 1, i, m, hi, h => by
    refine giveL_ok (fun k m hk hm => giveF_ok hw f k m hk hm) hi _ m (fun j hj => ?_) h
    have e : wants.getD i [] = wants[i] := by simp [hi]
    rw [e] at hj
    exact hw _ (List.getElem_mem hi) j hj
/-! ### sorting -/
theorem insN_perm (x : Int) : ∀ l, (insN x l).Perm (x :: l)
  | [] => List.Perm.refl _
  | y :: l => by
    unfold insN
    split
    · exact List.Perm.refl _
    · exact ((insN_perm x l).cons y).trans (List.Perm.swap x y l)
theorem insN_sorted {x : Int} : ∀ {l : List Int}, l.Pairwise (· ≤ ·) → (insN x l).Pairwise (· ≤ ·)
  | [], _ => by simp [insN]
  | y :: l, h => by
    obtain ⟨h1, h2⟩ := List.pairwise_cons.1 h
    unfold insN
    split
    · rename_i hx
      exact List.pairwise_cons.2 ⟨fun z hz => by
        rcases List.mem_cons.1 hz with rfl | hz
        · exact hx
        · exact Int.le_trans hx (h1 z hz), h⟩
    · rename_i hx
      refine List.pairwise_cons.2 ⟨fun z hz => ?_, insN_sorted h2⟩
      rcases List.mem_cons.1 ((insN_perm x l).mem_iff.1 hz) with rfl | hz
      · omega
      · exact h1 z hz
theorem sortN_perm : ∀ l : List Int, (sortN l).Perm l
  | [] => List.Perm.refl _
  | x :: l => (insN_perm x _).trans ((sortN_perm l).cons x)
theorem sortN_sorted : ∀ l : List Int, (sortN l).Pairwise (· ≤ ·)
  | [] => List.Pairwise.nil
  | x :: l => insN_sorted (sortN_sorted l)
theorem sort_sortN (l : List Int) : (l.mergeSort fun x y => decide (x ≤ y)) = sortN l := by
  have h1 : (l.mergeSort fun x y => decide (x ≤ y)).Pairwise fun a b => decide (a ≤ b) = true := List.pairwise_mergeSort (fun a b c h1 h2 => by simp at h1 h2 ⊢; omega) (fun a b => by simp; omega) l
  have h2 : (sortN l).Pairwise fun a b => decide (a ≤ b) = true := (sortN_sorted l).imp fun h => by simpa using h
  exact ((List.mergeSort_perm l _).trans (sortN_perm l).symm).eq_of_pairwise (le := fun a b => decide (a ≤ b) = true) (fun a b _ _ h3 h4 => by simp at h3 h4; omega) h1 h2
theorem sortN_len (l : List Int) : (sortN l).length = l.length := (sortN_perm l).length_eq
/-! ### rises -/
theorem riseH_snoc {b : Int} {lots : List Nat} : ∀ {row prices : List Int} {i : Nat} (j : Nat) (s : Int) (hi : i < row.length) (hp : i < prices.length), riseH b lots (row.take (i + 1)) prices j s = if lots.contains (j + i) = true then riseH b lots (row.take i) prices j s else min (riseH b lots (row.take i) prices j s) (b - (row[i] - prices[i]))
  | [], _, i, _, _, hi, _ => absurd hi (by simp)
  | _ :: _, [], i, _, _, _, hp => absurd hp (by simp)
  | x :: r, p :: ps, 0, j, s, _, _ => by simp [riseH]
  | x :: r, p :: ps, i + 1, j, s, hi, hp => by
    simp only [List.take_succ_cons, riseH, List.getElem_cons_succ]
    rw [riseH_snoc (j + 1) _ (by simpa using hi) (by simpa using hp), show j + 1 + i = j + (i + 1) by omega]
theorem riseH_le {b : Int} {lots : List Nat} : ∀ (row prices : List Int) (j : Nat) (s : Int), riseH b lots row prices j s ≤ s
  | [], _, _, _ => by simp [riseH]
  | _ :: _, [], _, _ => by simp [riseH]
  | x :: r, p :: ps, j, s => by
    have := riseH_le (b := b) (lots := lots) r ps (j + 1) (if lots.contains j = true then s else min s (b - (x - p)))
    simp only [riseH]
    split at this
    · rename_i h; rw [if_pos h]; exact this
    · rename_i h; rw [if_neg h]; omega
theorem riseH_ge {b : Int} {lots : List Nat} (M : Int) : ∀ (row prices : List Int) (j : Nat) (s : Int), M ≤ s → (∀ x ∈ row, M ≤ b - x) → (∀ p ∈ prices, 0 ≤ p) → M ≤ riseH b lots row prices j s
  | [], _, _, _, h, _, _ => by simpa [riseH] using h
  | _ :: _, [], _, _, h, _, _ => by simpa [riseH] using h
  | x :: r, p :: ps, j, s, h, hx, hp => by
    have h1 := hx x List.mem_cons_self
    have h2 := hp p List.mem_cons_self
    simp only [riseH]
    refine riseH_ge M r ps (j + 1) _ ?_ (fun y hy => hx y (List.mem_cons_of_mem _ hy)) fun y hy => hp y (List.mem_cons_of_mem _ hy)
    split <;> omega
theorem riseF_snoc {worth : List (List Int)} {prices : List Int} {lots : List Nat} : ∀ (l : List Int) (x s : Int), riseF worth prices lots (l ++ [x]) s = riseH (gainF (worth.getD x.toNat []) prices) lots (worth.getD x.toNat []) prices 0 (min (riseF worth prices lots l s) (gainF (worth.getD x.toNat []) prices))
  | [], _, _ => rfl
  | y :: l, x, s => by
    simp only [List.cons_append, riseF]
    exact riseF_snoc l x _
theorem eagerF_get {worth : List (List Int)} {prices : List Int} {i : Nat} (h : i < (eagerF worth prices).length) : (eagerF worth prices)[i] = if 0 < gainF (worth[i]'(by simpa [eagerF] using h)) prices then wantsF (worth[i]'(by simpa [eagerF] using h)) prices else [] := by simp [eagerF]
theorem eagerF_len (worth : List (List Int)) (prices : List Int) : (eagerF worth prices).length = worth.length := by simp [eagerF]
/-- A hall as it may be. -/
structure OkH (worth : List (List Int)) (n : Nat) : Prop where
  rows : worth.length ≤ 64
  cols : n ≤ 64
  len : ∀ r ∈ worth, r.length = n
  ok : ∀ r ∈ worth, okW r
theorem eagerF_ok {worth : List (List Int)} {prices : List Int} {n : Nat} (h : OkH worth n) : ∀ l ∈ eagerF worth prices, l.length ≤ 64 ∧ ∀ j ∈ l, j < n := fun l hl => by
  unfold eagerF at hl
  obtain ⟨r, hr, rfl⟩ := List.mem_map.1 hl
  have hn := h.len r hr
  have hc := h.cols
  split
  · refine ⟨?_, fun j hj => by rw [← hn]; exact wantsF_lt hj⟩
    have := wantsH_len (b := gainF r prices) r prices 0
    unfold wantsF
    omega
  · exact ⟨by simp, fun j hj => by cases hj⟩
end Go.Proofs.YtojednnciknhpaaDoor
namespace Go.Proofs.YtojednnciknhpaaDoor
set_option linter.unusedSimpArgs false
set_option linter.unusedVariables false
open Go.RowKit
/-- An offer: a set of lots and its worth. -/
structure Of where
  lots : Nat
  w : Int
deriving DecidableEq
def encOf (o : Of) : List Value := [.int .u32 o.lots, .int .i64 o.w]
theorem encOf_len (o : Of) : (encOf o).length = 2 := rfl
structure Au where
  g : Int
  res : List Int
  bid : List (List Of)
def isW (x : Int) : Bool := decide (0 ≤ x) && decide (x ≤ 1000000000)
def Of.ok (g : Nat) (o : Of) : Prop := o.lots ≠ 0 ∧ o.lots < 2 ^ g ∧ isW o.w = true
instance (g : Nat) (o : Of) : Decidable (o.ok g) := by unfold Of.ok; infer_instance
/-- The reserves of a set of lots together. -/
def rsvF : List Int → Nat → Int
  | [], _ => 0
  | r :: l, s => (if s % 2 = 1 then r else 0) + rsvF l (s / 2)
/-- The greatest total of bidders (none: out) when a set of lots is free. -/
def tabF (res : List Int) : List (Option (List Of)) → Nat → Int
  | [], s => rsvF res s
  | none :: r, s => tabF res r s
  | some l :: r, s => l.foldl (fun m o => if diffN o.lots s = 0 then max m (o.w + tabF res r (diffN s o.lots)) else m) (tabF res r s)
/-- Some bidders are out. -/
def outB (out : List Int) : Nat → List (List Of) → List (Option (List Of))
  | _, [] => []
  | i, l :: r => (if out.contains (i : Int) then none else some l) :: outB out (i + 1) r
theorem outB_len (out : List Int) : ∀ (i : Nat) (l : List (List Of)), (outB out i l).length = l.length
  | _, [] => rfl
  | i, _ :: r => by simp [outB, outB_len out (i + 1) r]
theorem outB_drop (out : List Int) : ∀ (i k : Nat) (l : List (List Of)), (outB out i l).drop k = outB out (i + k) (l.drop k)
  | i, 0, l => rfl
  | i, k + 1, [] => rfl
  | i, k + 1, _ :: r => by
    simp only [outB, List.drop_succ_cons]
    rw [outB_drop out (i + 1) k r, show i + 1 + k = i + (k + 1) by omega]
/-- The first offer that gives the greatest total, and the set that is free behind it. -/
def pickF (T1 : Nat → Int) (t0 : Int) (s : Nat) : List Of → Nat → Option (Nat × Of)
  | [], _ => none
  | o :: l, k => if diffN o.lots s = 0 ∧ o.w + T1 (diffN s o.lots) = t0 then some (k, o) else pickF T1 t0 s l (k + 1)
/-- The best award's choices. -/
def bestF (res : List Int) : List (List Of) → Nat → List Int
  | [], _ => []
  | l :: r, s =>
    if tabF res (r.map some) s = tabF res (some l :: r.map some) s then -1 :: bestF res r s
    else match pickF (tabF res (r.map some)) (tabF res (some l :: r.map some) s) s l 0 with
      | none => -1 :: bestF res r s
      | some (k, o) => (k : Int) :: bestF res r (diffN s o.lots)
theorem bestF_len (res : List Int) : ∀ (l : List (List Of)) (s : Nat), (bestF res l s).length = l.length
  | [], _ => rfl
  | l :: r, s => by
    unfold bestF
    split
    · simp [bestF_len res r s]
    · split
      · simp [bestF_len res r s]
      · simp [bestF_len res r _]
/-! ### bounds -/
theorem rsvF_bound : ∀ {l : List Int} (s : Nat), (∀ x ∈ l, 0 ≤ x ∧ x ≤ 1000000000) → 0 ≤ rsvF l s ∧ rsvF l s ≤ 1000000000 * (l.length : Int)
  | [], s, _ => by simp [rsvF]
  | r :: l, s, h => by
    obtain ⟨h1, h2⟩ := rsvF_bound (l := l) (s / 2) fun x hx => h x (List.mem_cons_of_mem _ hx)
    obtain ⟨h3, h4⟩ := h r List.mem_cons_self
    simp only [rsvF, List.length_cons]
    push_cast
    split <;> omega
theorem fold_bound {P : Int → Prop} (f : Int → Of → Int) : ∀ (l : List Of) (m : Int), P m → (∀ m o, o ∈ l → P m → P (f m o)) → P (l.foldl f m)
  | [], m, hm, _ => hm
  | o :: l, m, hm, h => by
    rw [List.foldl_cons]
    exact fold_bound f l _ (h m o List.mem_cons_self hm) fun m x hx => h m x (List.mem_cons_of_mem _ hx)
theorem tabF_bound {res : List Int} (hr : ∀ x ∈ res, 0 ≤ x ∧ x ≤ 1000000000) : ∀ (l : List (Option (List Of))) (s : Nat), (∀ b ∈ l, ∀ os, b = some os → ∀ o ∈ os, 0 ≤ o.w ∧ o.w ≤ 1000000000) → 0 ≤ tabF res l s ∧ tabF res l s ≤ 1000000000 * (res.length : Int) + 1000000000 * (l.length : Int)
  | [], s, _ => by have := rsvF_bound s hr; simp only [tabF, List.length_nil]; omega
  | none :: r, s, h => by
    have := tabF_bound hr r s fun b hb => h b (List.mem_cons_of_mem _ hb)
    simp only [tabF, List.length_cons]
    push_cast
    omega
  | some os :: r, s, h => by
    have hr' : ∀ b ∈ r, ∀ os, b = some os → ∀ o ∈ os, 0 ≤ o.w ∧ o.w ≤ 1000000000 := fun b hb => h b (List.mem_cons_of_mem _ hb)
    have ih := fun s => tabF_bound hr r s hr'
    simp only [tabF, List.length_cons]
    push_cast
    refine fold_bound (P := fun m => 0 ≤ m ∧ m ≤ 1000000000 * (res.length : Int) + 1000000000 * ((r.length : Int) + 1)) _ os _ (by have := ih s; omega) fun m o ho hm => ?_
    have hw := h (some os) List.mem_cons_self os rfl o ho
    have := ih (diffN s o.lots)
    split <;> omega
end Go.Proofs.YtojednnciknhpaaDoor
namespace Go.Proofs.YtojednnciknhpaaDoor
set_option linter.unusedSimpArgs false
set_option linter.unusedVariables false
open Go.RowKit
def allN (g : Nat) : Nat := 2 ^ g - 1
theorem allN_lt {g : Nat} (hg : g ≤ 12) : allN g < 4294967296 := by
  unfold allN
  have : 2 ^ g ≤ 2 ^ 12 := Nat.pow_le_pow_right (by omega) hg
  omega
theorem allN_bit (g i : Nat) : (allN g).testBit i = decide (i < g) := by unfold allN; exact Nat.testBit_two_pow_sub_one g i
theorem bit_of_lt {a g i : Nat} (h : a < 2 ^ g) (hb : a.testBit i = true) : i < g := by
  by_cases c : i < g
  · exact c
  · have := Nat.testBit_lt_two_pow (Nat.lt_of_lt_of_le h (Nat.pow_le_pow_right (by omega) (show g ≤ i by omega)))
    rw [this] at hb; cases hb
theorem small_of {a g : Nat} (hg : g ≤ 12) (h : a < 2 ^ g) : a < 4294967296 := by
  have : 2 ^ g ≤ 2 ^ 12 := Nat.pow_le_pow_right (by omega) hg
  omega
/-- An offer fits beside what is taken if it fits into what is free. -/
theorem fits_iff {g o t : Nat} (hg : g ≤ 12) (ho : o < 2 ^ g) (ht : t < 2 ^ g) : o &&& t = 0 ↔ diffN o (diffN (allN g) t) = 0 := by
  have so := small_of hg ho
  have st := small_of hg ht
  have sa := allN_lt hg
  rw [diffN_zero so (diffN_lt _ _)]
  constructor
  · intro h i hi
    rw [diffN_bit sa st, allN_bit]
    have h1 := bit_of_lt ho hi
    have h2 : (o &&& t).testBit i = false := by rw [h]; exact Nat.zero_testBit i
    rw [Nat.testBit_and, hi] at h2
    simp at h2
    simp [h1, h2]
  · intro h
    apply Nat.eq_of_testBit_eq
    intro i
    rw [Nat.testBit_and, Nat.zero_testBit]
    cases ho' : o.testBit i with
    | false => rfl
    | true =>
      have := h i ho'
      rw [diffN_bit sa st] at this
      simp at this
      simp [this.2]
/-- What is free behind an offer. -/
theorem free_or {g o t : Nat} (hg : g ≤ 12) (ho : o < 2 ^ g) (ht : t < 2 ^ g) : diffN (diffN (allN g) t) o = diffN (allN g) (t ||| o) := by
  have so := small_of hg ho
  have st := small_of hg ht
  have sa := allN_lt hg
  have sto : t ||| o < 4294967296 := small_of hg (Nat.or_lt_two_pow ht ho)
  apply Nat.eq_of_testBit_eq
  intro i
  rw [diffN_bit (diffN_lt _ _) so, diffN_bit sa st, diffN_bit sa sto, Nat.testBit_or]
  cases (allN g).testBit i <;> cases t.testBit i <;> cases o.testBit i <;> rfl
theorem or_lt {g o t : Nat} (ho : o < 2 ^ g) (ht : t < 2 ^ g) : t ||| o < 2 ^ g := Nat.or_lt_two_pow ht ho
theorem diff_lt {g s o : Nat} (hg : g ≤ 12) (hs : s < 2 ^ g) (ho : o < 2 ^ g) : diffN s o < 2 ^ g := Nat.lt_of_le_of_lt (diffN_le (small_of hg hs) (small_of hg ho)) hs
/-- The reserves that are left, lot by lot. -/
def freeF (res : List Int) (k : Nat) (t : Nat) : Int := match res with
  | [] => 0
  | r :: l => (if t.testBit k = false then r else 0) + freeF l (k + 1) t
theorem rsv_bits : ∀ (res : List Int) (s k t : Nat), (∀ i, i < res.length → s.testBit i = !t.testBit (k + i)) → rsvF res s = freeF res k t
  | [], _, _, _, _ => rfl
  | r :: l, s, k, t, h => by
    have h0 := h 0 (by simp)
    rw [Nat.add_zero] at h0
    have hm : s % 2 = 1 ↔ s.testBit 0 = true := by rw [Nat.testBit_zero]; simp
    have ih := rsv_bits l (s / 2) (k + 1) t fun i hi => by
      have := h (i + 1) (by simp; omega)
      rw [Nat.testBit_succ] at this
      rw [this, show k + (i + 1) = k + 1 + i by omega]
    simp only [rsvF, freeF]
    rw [ih]
    congr 1
    cases hb : t.testBit k with
    | false => rw [if_pos (hm.2 (by rw [h0, hb]; rfl)), if_pos rfl]
    | true => rw [if_neg (fun q => by have := hm.1 q; rw [h0, hb] at this; cases this), if_neg (by decide)]
theorem free_rsv {res : List Int} {g t : Nat} (hg : g ≤ 12) (hr : res.length = g) (ht : t < 2 ^ g) : freeF res 0 t = rsvF res (diffN (allN g) t) := by
  refine (rsv_bits res _ 0 t fun i hi => ?_).symm
  rw [diffN_bit (allN_lt hg) (small_of hg ht), allN_bit, Nat.zero_add]
  simp [show i < g by omega]
/-- The reference's table by what is taken. -/
def refF (res : List Int) : List (Option (List Of)) → Nat → Int
  | [], t => freeF res 0 t
  | none :: r, t => refF res r t
  | some l :: r, t => l.foldl (fun m o => if o.lots &&& t = 0 then max m (o.w + refF res r (t ||| o.lots)) else m) (refF res r t)
theorem ref_tab {res : List Int} {g : Nat} (hg : g ≤ 12) (hr : res.length = g) : ∀ (l : List (Option (List Of))) (t : Nat), t < 2 ^ g → (∀ b ∈ l, ∀ os, b = some os → ∀ o ∈ os, o.lots < 2 ^ g) → refF res l t = tabF res l (diffN (allN g) t)
  | [], t, ht, _ => free_rsv hg hr ht
  | none :: r, t, ht, h => ref_tab hg hr r t ht fun b hb => h b (List.mem_cons_of_mem _ hb)
  | some os :: r, t, ht, h => by
    have ih := fun t ht => ref_tab hg hr r t ht fun b hb => h b (List.mem_cons_of_mem _ hb)
    simp only [refF, tabF]
    rw [ih t ht]
    have key : ∀ (l : List Of) (m : Int), (∀ o ∈ l, o.lots < 2 ^ g) → l.foldl (fun m o => if o.lots &&& t = 0 then max m (o.w + refF res r (t ||| o.lots)) else m) m = l.foldl (fun m o => if diffN o.lots (diffN (allN g) t) = 0 then max m (o.w + tabF res r (diffN (diffN (allN g) t) o.lots)) else m) m := by
      intro l
      induction l with
      | nil => intro m _; rfl
      | cons o l ihl =>
        intro m hl
        have ho := hl o List.mem_cons_self
        rw [List.foldl_cons, List.foldl_cons, ihl _ fun x hx => hl x (List.mem_cons_of_mem _ hx)]
        congr 1
        by_cases c : o.lots &&& t = 0
        · rw [if_pos c, if_pos ((fits_iff hg ho ht).1 c), ih _ (or_lt ho ht), free_or hg ho ht]
        · rw [if_neg c, if_neg fun q => c ((fits_iff hg ho ht).2 q)]
    exact key os _ fun o ho => h (some os) List.mem_cons_self os rfl o ho
end Go.Proofs.YtojednnciknhpaaDoor
namespace Go.Proofs.YtojednnciknhpaaDoor
set_option linter.unusedSimpArgs false
set_option linter.unusedVariables false
open Go.RowKit
/-- The reference's choice. -/
def pickR (T1 : Nat → Int) (t0 : Int) (t : Nat) : List Of → Nat → Option (Nat × Of)
  | [], _ => none
  | o :: l, k => if o.lots &&& t = 0 ∧ o.w + T1 (t ||| o.lots) = t0 then some (k, o) else pickR T1 t0 t l (k + 1)
def bestR (res : List Int) : List (List Of) → Nat → List Int
  | [], _ => []
  | l :: r, t =>
    if refF res (r.map some) t = refF res (some l :: r.map some) t then -1 :: bestR res r t
    else match pickR (refF res (r.map some)) (refF res (some l :: r.map some) t) t l 0 with
      | none => -1 :: bestR res r t
      | some (k, o) => (k : Int) :: bestR res r (t ||| o.lots)
def lotsOk (g : Nat) (l : List (List Of)) : Prop := ∀ os ∈ l, ∀ o ∈ os, o.lots < 2 ^ g
theorem lotsOk.some {g : Nat} {l : List (List Of)} (h : lotsOk g l) : ∀ b ∈ l.map Option.some, ∀ os, b = Option.some os → ∀ o ∈ os, o.lots < 2 ^ g := fun b hb os e o ho => by
  obtain ⟨x, hx, rfl⟩ := List.mem_map.1 hb
  injection e with e
  subst e
  exact h x hx o ho
theorem pick_same {res : List Int} {g : Nat} (hg : g ≤ 12) {T1 T2 : Nat → Int} {t0 : Int} {t : Nat} (ht : t < 2 ^ g) (hT : ∀ s, s < 2 ^ g → T1 s = T2 (diffN (allN g) s)) : ∀ (l : List Of) (k : Nat), (∀ o ∈ l, o.lots < 2 ^ g) → pickR T1 t0 t l k = pickF T2 t0 (diffN (allN g) t) l k
  | [], _, _ => rfl
  | o :: l, k, h => by
    have ho := h o List.mem_cons_self
    have ih := pick_same (res := res) hg ht hT (t0 := t0) l (k + 1) fun x hx => h x (List.mem_cons_of_mem _ hx)
    simp only [pickR, pickF]
    rw [ih]
    by_cases c : o.lots &&& t = 0
    · have c' := (fits_iff hg ho ht).1 c
      rw [hT _ (or_lt ho ht), ← free_or hg ho ht]
      simp only [c, c', true_and]
    · have c' : ¬ diffN o.lots (diffN (allN g) t) = 0 := fun q => c ((fits_iff hg ho ht).2 q)
      simp only [c, c', false_and, if_false]
theorem pickR_mem {T1 : Nat → Int} {t0 : Int} {t : Nat} : ∀ {l : List Of} {k : Nat} {x : Nat × Of}, pickR T1 t0 t l k = some x → x.2 ∈ l
  | [], _, _, h => by simp [pickR] at h
  | o :: l, k, x, h => by
    simp only [pickR] at h
    split at h
    · injection h with h; subst h; exact List.mem_cons_self
    · exact List.mem_cons_of_mem _ (pickR_mem h)
theorem best_same {res : List Int} {g : Nat} (hg : g ≤ 12) (hr : res.length = g) : ∀ (l : List (List Of)) (t : Nat), t < 2 ^ g → lotsOk g l → bestR res l t = bestF res l (diffN (allN g) t)
  | [], _, _, _ => rfl
  | l :: r, t, ht, h => by
    have hr' : lotsOk g r := fun os hos => h os (List.mem_cons_of_mem _ hos)
    have hl : lotsOk g (l :: r) := h
    have e1 := fun s hs => ref_tab hg hr (r.map some) s hs hr'.some
    have e2 := ref_tab hg hr ((l :: r).map some) t ht hl.some
    rw [List.map_cons] at e2
    simp only [bestR, bestF]
    rw [e1 t ht, e2, best_same hg hr r t ht hr', pick_same (res := res) hg ht e1 l 0 (h l List.mem_cons_self)]
    split
    · rfl
    · cases hp : pickF (tabF res (r.map some)) (tabF res (some l :: r.map some) (diffN (allN g) t)) (diffN (allN g) t) l 0 with
      | none => rfl
      | some x =>
        obtain ⟨k, o⟩ := x
        have ho : o.lots < 2 ^ g := by
          rw [← pick_same (res := res) hg ht e1 l 0 (h l List.mem_cons_self)] at hp
          exact h l List.mem_cons_self _ (pickR_mem hp)
        simp only
        rw [best_same hg hr r _ (or_lt ho ht) hr', free_or hg ho ht]
end Go.Proofs.YtojednnciknhpaaDoor
namespace Go.Proofs.YtojednnciknhpaaDoor
set_option linter.unusedSimpArgs false
set_option linter.unusedVariables false
open Go.RowKit
/-- The total of choices; none: they do not fit. -/
def totF (res : List Int) : List (List Of) → List Int → Nat → Option Int
  | [], _, s => some (rsvF res s)
  | _ :: _, [], _ => none
  | os :: r, k :: c, s =>
    if k < 0 then totF res r c s
    else match os[k.toNat]? with
      | none => none
      | some o => if diffN o.lots s = 0 then (totF res r c (diffN s o.lots)).map fun v => o.w + v else none
section
variable {T : Nat → Int} {s : Nat}
theorem fold_ge : ∀ (l : List Of) (m : Int), m ≤ l.foldl (fun m o => if diffN o.lots s = 0 then max m (o.w + T (diffN s o.lots)) else m) m
  | [], m => Int.le_refl m
  | o :: l, m => by
    rw [List.foldl_cons]
    refine Int.le_trans ?_ (fold_ge l _)
    split <;> omega
theorem fold_mem : ∀ {l : List Of} (m : Int) {o : Of}, o ∈ l → diffN o.lots s = 0 → o.w + T (diffN s o.lots) ≤ l.foldl (fun m o => if diffN o.lots s = 0 then max m (o.w + T (diffN s o.lots)) else m) m
  | x :: l, m, o, h, hd => by
    rw [List.foldl_cons]
    rcases List.mem_cons.1 h with rfl | h
    · refine Int.le_trans ?_ (fold_ge l _)
      rw [if_pos hd]; omega
    · exact fold_mem _ h hd
theorem fold_one : ∀ (l : List Of) (m : Int), l.foldl (fun m o => if diffN o.lots s = 0 then max m (o.w + T (diffN s o.lots)) else m) m = m ∨ ∃ o ∈ l, diffN o.lots s = 0 ∧ l.foldl (fun m o => if diffN o.lots s = 0 then max m (o.w + T (diffN s o.lots)) else m) m = o.w + T (diffN s o.lots)
  | [], m => .inl rfl
  | o :: l, m => by
    rw [List.foldl_cons]
    rcases fold_one l (if diffN o.lots s = 0 then max m (o.w + T (diffN s o.lots)) else m) with h | ⟨x, hx, h1, h2⟩
    · rw [h]
      by_cases c : diffN o.lots s = 0
      · rw [if_pos c]
        rcases Int.le_total m (o.w + T (diffN s o.lots)) with q | q
        · exact .inr ⟨o, List.mem_cons_self, c, by rw [Int.max_eq_right q]⟩
        · exact .inl (Int.max_eq_left q)
      · rw [if_neg c]; exact .inl rfl
    · exact .inr ⟨x, List.mem_cons_of_mem _ hx, h1, h2⟩
/-- The first offer that reaches the greatest total. -/
theorem pick_some {t0 : Int} : ∀ {l : List Of} {k : Nat}, (∃ o ∈ l, diffN o.lots s = 0 ∧ o.w + T (diffN s o.lots) = t0) → ∃ j o, pickF T t0 s l k = some (k + j, o) ∧ l[j]? = some o ∧ diffN o.lots s = 0 ∧ o.w + T (diffN s o.lots) = t0 ∧ ∀ i x, i < j → l[i]? = some x → ¬ (diffN x.lots s = 0 ∧ x.w + T (diffN s x.lots) = t0)
  | [], _, ⟨_, h, _⟩ => absurd h (by simp)
  | x :: l, k, ⟨o, ho, h1, h2⟩ => by
    by_cases c : diffN x.lots s = 0 ∧ x.w + T (diffN s x.lots) = t0
    · exact ⟨0, x, by simp only [pickF]; rw [if_pos c]; rfl, rfl, c.1, c.2, fun i y hi => absurd hi (Nat.not_lt_zero i)⟩
    · have ho' : o ∈ l := by
        rcases List.mem_cons.1 ho with rfl | q
        · exact absurd ⟨h1, h2⟩ c
        · exact q
      obtain ⟨j, y, g1, g2, g3, g4, g5⟩ := pick_some (k := k + 1) ⟨o, ho', h1, h2⟩
      refine ⟨j + 1, y, by simp only [pickF]; rw [if_neg c, g1]; congr 2; omega, by simpa using g2, g3, g4, fun i z hi hz => ?_⟩
      cases i with
      | zero => simp at hz; subst hz; exact c
      | succ i => exact g5 i z (by omega) (by simpa using hz)
end
theorem tab_max (res : List Int) : ∀ (l : List (List Of)) (c : List Int) (s : Nat) (v : Int), totF res l c s = some v → v ≤ tabF res (l.map some) s
  | [], c, s, v, h => by simp only [totF] at h; injection h with h; subst h; exact Int.le_refl _
  | os :: r, [], s, v, h => by simp [totF] at h
  | os :: r, k :: c, s, v, h => by
    simp only [totF] at h
    simp only [List.map_cons, tabF]
    split at h
    · exact Int.le_trans (tab_max res r c s v h) (fold_ge os _)
    · cases ho : os[k.toNat]? with
      | none => rw [ho] at h; cases h
      | some o =>
        rw [ho] at h
        simp only at h
        split at h
        · rename_i hd
          cases ht : totF res r c (diffN s o.lots) with
          | none => rw [ht] at h; cases h
          | some u =>
            rw [ht] at h
            simp only [Option.map_some, Option.some.injEq] at h
            have := tab_max res r c _ u ht
            have h2 := fold_mem (T := tabF res (r.map some)) (tabF res (r.map some) s) (List.mem_of_getElem? ho) hd
            omega
        · cases h
theorem best_tot (res : List Int) : ∀ (l : List (List Of)) (s : Nat), totF res l (bestF res l s) s = some (tabF res (l.map some) s)
  | [], s => rfl
  | os :: r, s => by
    have ih := fun s => best_tot res r s
    simp only [List.map_cons, bestF]
    split
    · rename_i e
      simp only [totF]
      rw [if_pos (by omega), ih, e]
    · rename_i e
      rcases fold_one (T := tabF res (r.map some)) (s := s) os (tabF res (r.map some) s) with q | ⟨o, ho, h1, h2⟩
      · exact absurd q.symm e
      · obtain ⟨j, y, g1, g2, g3, g4, _⟩ := pick_some (T := tabF res (r.map some)) (s := s) (t0 := tabF res (some os :: r.map some) s) (k := 0) ⟨o, ho, h1, h2.symm⟩
        rw [g1]
        simp only [totF]
        rw [if_neg (by omega), show ((0 + j : Nat) : Int).toNat = j by omega, g2]
        simp only
        rw [if_pos g3, ih, Option.map_some, g4]
/-- Lists of choices in order. -/
def lexLe : List Int → List Int → Prop
  | [], _ => True
  | _ :: _, [] => False
  | a :: l, b :: m => a < b ∨ (a = b ∧ lexLe l m)
/-- No other choices of the greatest total come ahead of the best award. -/
theorem best_first (res : List Int) : ∀ (l : List (List Of)) (c : List Int) (s : Nat), (∀ k ∈ c, -1 ≤ k) → totF res l c s = some (tabF res (l.map some) s) → lexLe (bestF res l s) c
  | [], c, s, _, _ => trivial
  | os :: r, [], s, _, h => by simp [totF] at h
  | os :: r, k :: c, s, hc, h => by
    have hk := hc k List.mem_cons_self
    have hc' : ∀ k ∈ c, -1 ≤ k := fun x hx => hc x (List.mem_cons_of_mem _ hx)
    simp only [totF, List.map_cons] at h
    simp only [bestF]
    split
    · rename_i e
      by_cases q : k < 0
      · rw [if_pos q, ← e] at h
        exact .inr ⟨by omega, best_first res r c s hc' h⟩
      · exact .inl (by omega)
    · rename_i e
      by_cases q : k < 0
      · rw [if_pos q] at h
        have h1 := tab_max res r c s _ h
        have h2 : tabF res (r.map some) s ≤ tabF res (some os :: r.map some) s := fold_ge os _
        exact absurd (Int.le_antisymm h2 h1) e
      · rw [if_neg q] at h
        cases ho : os[k.toNat]? with
        | none => rw [ho] at h; cases h
        | some o =>
          rw [ho] at h
          simp only at h
          split at h
          · rename_i hd
            cases ht : totF res r c (diffN s o.lots) with
            | none => rw [ht] at h; cases h
            | some u =>
              rw [ht] at h
              simp only [Option.map_some, Option.some.injEq] at h
              have h1 := tab_max res r c _ u ht
              have h2 := fold_mem (T := tabF res (r.map some)) (tabF res (r.map some) s) (List.mem_of_getElem? ho) hd
              have h3 : tabF res (some os :: r.map some) s = os.foldl (fun m o => if diffN o.lots s = 0 then max m (o.w + tabF res (r.map some) (diffN s o.lots)) else m) (tabF res (r.map some) s) := rfl
              have eu : u = tabF res (r.map some) (diffN s o.lots) := by omega
              obtain ⟨j, y, g1, g2, g3, g4, g5⟩ := pick_some (T := tabF res (r.map some)) (s := s) (t0 := tabF res (some os :: r.map some) s) (k := 0) ⟨o, List.mem_of_getElem? ho, hd, by omega⟩
              rw [g1]
              simp only
              rcases Nat.lt_trichotomy j k.toNat with x | x | x
              · exact .inl (by omega)
              · rw [x, ho] at g2
                injection g2 with g2
                subst g2
                refine .inr ⟨by omega, best_first res r c _ hc' ?_⟩
                rw [ht, eu]
              · exact absurd ⟨hd, by omega⟩ (g5 k.toNat o x ho)
          · cases h
end Go.Proofs.YtojednnciknhpaaDoor
namespace Go.Proofs.YtojednnciknhpaaDoor
set_option linter.unusedSimpArgs false
set_option linter.unusedVariables false
open Go.RowKit
/-- All lots that were tried are taken. -/
def TriedP (m : Mg) : Prop := ∀ j, m.seen.getD j false = true → 0 ≤ m.bu.getD j (-1)
theorem getD_set_true {l : List Bool} {j k : Nat} (h : (l.set j true).getD k false = true) : k = j ∨ l.getD k false = true := by
  by_cases e : k = j
  · exact .inl e
  · refine .inr ?_
    rw [List.getD_eq_getElem?_getD, List.getElem?_set_ne (fun q => e q.symm)] at h
    rw [List.getD_eq_getElem?_getD]
    exact h
theorem giveL_fail {rec : Nat → Mg → Bool × Mg} (hrec : ∀ k m, (rec k m).1 = false → (rec k m).2.bu = m.bu ∧ (rec k m).2.lo = m.lo ∧ (TriedP m → TriedP (rec k m).2)) {bar : List Bool} {i : Nat} : ∀ (js : List Nat) (m : Mg), (giveL rec bar i js m).1 = false → (giveL rec bar i js m).2.bu = m.bu ∧ (giveL rec bar i js m).2.lo = m.lo ∧ (TriedP m → TriedP (giveL rec bar i js m).2)
  | [], m, _ => ⟨rfl, rfl, fun h => h⟩
  | j :: js, m, h => by
    have ih := fun m => giveL_fail hrec (bar := bar) (i := i) js m
    unfold giveL at h ⊢
    split
    · rename_i hs
      rw [if_pos hs] at h
      exact ih m h
    · rename_i hs
      rw [if_neg hs] at h
      split
      · rename_i hb
        rw [if_pos hb] at h
        cases h
      · rename_i hb
        rw [if_neg hb] at h
        split
        · rename_i hr
          rw [if_pos hr] at h
          cases h
        · rename_i hr
          rw [if_neg hr] at h
          obtain ⟨a1, a2, a3⟩ := hrec _ _ (by simpa using hr)
          obtain ⟨b1, b2, b3⟩ := ih _ h
          refine ⟨b1.trans a1, b2.trans a2, fun hp => b3 (a3 fun k hk => ?_)⟩
          rcases getD_set_true hk with rfl | hk
          · simp only; omega
          · exact hp k hk
theorem giveF_fail {wants : List (List Nat)} {bar : List Bool} : ∀ (f i : Nat) (m : Mg), (giveF wants bar f i m).1 = false → (giveF wants bar f i m).2.bu = m.bu ∧ (giveF wants bar f i m).2.lo = m.lo ∧ (TriedP m → TriedP (giveF wants bar f i m).2)
  | 0, _, m, _ => ⟨rfl, rfl, fun h => h⟩
  | f + 1, i, m, h => giveL_fail (fun k m hm => giveF_fail f k m hm) _ m h
theorem tried_none (n : Nat) (lo bu : List Int) : TriedP ⟨lo, bu, noB n⟩ := fun j h => by
  simp only [noB, List.getD_eq_getElem?_getD, List.getElem?_replicate] at h
  split at h <;> simp at h
/-- What a crowd is made of. -/
structure CrOk (nw n : Nat) (b : List Int) (l : List Nat) : Prop where
  ne : b ≠ []
  len : b.length ≤ n + 1
  rb : ∀ i ∈ b, 0 ≤ i ∧ i < (nw : Int)
  rl : ∀ j ∈ l, j < n
  ll : l.length ≤ n
  nd : l.Nodup
theorem crowdL_ok {E : List (List Nat)} {n : Nat} (hw : wOk E n) : ∀ (is : List Nat) (m : Mg) {b : List Int} {l : List Nat}, (∀ i ∈ is, i < E.length) → MgOk E.length n { m with seen := noB n } → crowdL E n is m = some (b, l) → CrOk E.length n b l
  | [], m, b, l, _, _, h => by cases h
  | i :: is, m, b, l, hi, hm, h => by
    have hii := hi i List.mem_cons_self
    have ih := fun m hm h => crowdL_ok hw is m (b := b) (l := l) (fun k hk => hi k (List.mem_cons_of_mem _ hk)) hm h
    have hg := (giveF_ok (bar := noB n) hw (n + 1) i _ hii hm).1
    unfold crowdL at h
    split at h
    · exact ih m hm h
    · split at h
      · exact ih _ hg.fresh h
      · rename_i hr
        obtain ⟨f1, f2, f3⟩ := giveF_fail (n + 1) i _ (by simpa using hr)
        have tr := f3 (tried_none n _ _)
        injection h with h
        injection h with h1 h2
        subst h1 h2
        obtain ⟨M, hM⟩ : ∃ M, M = (giveF E (noB n) (n + 1) i { m with seen := noB n }).2 := ⟨_, rfl⟩
        rw [← hM] at hg tr
        rw [← hM]
        have hfl : ((List.range n).filter fun j => M.seen.getD j false).length ≤ n := Nat.le_trans (List.length_filter_le _ _) (by simp)
        refine ⟨fun e => ?_, ?_, fun x hx => ?_, fun j hj => ?_, hfl, List.Pairwise.sublist List.filter_sublist (List.nodup_range)⟩
        · have := sortN_len ((i : Int) :: ((List.range n).filter fun j => M.seen.getD j false).map fun j => M.bu.getD j (-1))
          rw [e] at this; simp at this
        · rw [sortN_len]; simp; exact hfl
        · have := (sortN_perm _).mem_iff.1 hx
          rcases List.mem_cons.1 this with rfl | hx
          · omega
          · obtain ⟨j, hj, rfl⟩ := List.mem_map.1 hx
            obtain ⟨j1, j2⟩ := List.mem_filter.1 hj
            have hjn : j < M.bu.length := by rw [hg.bu]; simpa using j1
            have e : M.bu.getD j (-1) = M.bu[j] := by simp [hjn]
            refine ⟨tr j j2, ?_⟩
            rw [e]
            exact (hg.rb _ (List.getElem_mem hjn)).2
        · simpa using (List.mem_filter.1 hj).1
theorem crowdF_ok {worth : List (List Int)} {prices : List Int} (h : OkH worth prices.length) {b : List Int} {l : List Nat} (hc : crowdF worth prices = some (b, l)) : CrOk worth.length prices.length b l := by
  have := crowdL_ok (E := eagerF worth prices) (n := prices.length) (fun r hr j hj => (eagerF_ok h r hr).2 j hj) (List.range worth.length) _ (b := b) (l := l) (fun i hi => by rw [eagerF_len]; simpa using hi)
    ⟨by simp [eagerF_len], by simp, by simp [noB], fun x hx => by rw [(List.mem_replicate.1 hx).2]; omega⟩ hc
  rwa [eagerF_len] at this
theorem crowdL_len {E : List (List Nat)} {n : Nat} : ∀ (is : List Nat) (m : Mg) {b : List Int} {l : List Nat}, crowdL E n is m = some (b, l) → b.length ≤ n + 1
  | [], m, b, l, h => by cases h
  | i :: is, m, b, l, h => by
    unfold crowdL at h
    split at h
    · exact crowdL_len is m h
    · split at h
      · exact crowdL_len is _ h
      · injection h with h
        injection h with h1 h2
        subst h1
        rw [sortN_len]
        simp
        exact Nat.le_trans (List.length_filter_le _ _) (by simp)
end Go.Proofs.YtojednnciknhpaaDoor
namespace Go.Proofs.YtojednnciknhpaaDoor
set_option linter.unusedSimpArgs false
set_option linter.unusedVariables false
open Go.RowKit
theorem takenF_len (n : Nat) (l : List Int) : (takenF n l).length = n := by simp [takenF]
theorem takenF_nil (n : Nat) : takenF n [] = noB n := by
  unfold takenF noB
  apply List.ext_getElem
  · simp
  · intro i h1 h2; simp
theorem takenF_get {n : Nat} {l : List Int} {j : Nat} (h : j < n) : (takenF n l).getD j false = l.contains (j : Int) := by simp [takenF, h]
theorem takenF_snoc {n : Nat} {l : List Int} {x : Int} : takenF n (l ++ [x]) = if 0 ≤ x then (takenF n l).set x.toNat true else takenF n l := by
  have e : ∀ j : Nat, (l ++ [x]).contains (j : Int) = (l.contains (j : Int) || decide ((j : Int) = x)) := fun j => by
    rw [Bool.eq_iff_iff]
    simp
  split
  · rename_i h
    unfold takenF
    apply List.ext_getElem
    · simp
    · intro i h1 h2
      rw [List.getElem_set]
      simp only [List.getElem_map, List.getElem_range, e]
      by_cases hi : x.toNat = i
      · rw [if_pos hi]
        have : (i : Int) = x := by omega
        simp [this]
      · rw [if_neg hi]
        have : ¬ (i : Int) = x := by omega
        simp [this]
  · rename_i h
    unfold takenF
    refine List.map_congr_left fun j _ => ?_
    rw [e]
    have : ¬ (j : Int) = x := by omega
    simp [this]
theorem restF_len (worth : List (List Int)) (prices : List Int) (k : Nat) : (restF worth prices k).length = worth.length := by simp [restF]
theorem mustF_len (worth : List (List Int)) (prices : List Int) (k : Nat) : (mustF worth prices k).length = worth.length := by simp [mustF]
theorem restF_get {worth : List (List Int)} {prices : List Int} {k i : Nat} (h : i < worth.length) (h' : i < (restF worth prices k).length) : (restF worth prices k)[i] = if i < k then [] else wantsF worth[i] prices := by simp [restF, h]
theorem mustF_get {worth : List (List Int)} {prices : List Int} {k i : Nat} (h : i < worth.length) (h' : i < (mustF worth prices k).length) : (mustF worth prices k)[i] = if i < k then [] else if 0 < gainF worth[i] prices then wantsF worth[i] prices else [] := by simp [mustF, h]
theorem wantsF_ok {row prices : List Int} {n : Nat} (hn : row.length = n) (h64 : n ≤ 64) : (wantsF row prices).length ≤ 64 ∧ ∀ j ∈ wantsF row prices, j < n := by
  refine ⟨?_, fun j hj => by rw [← hn]; exact wantsF_lt hj⟩
  have := wantsH_len (b := gainF row prices) row prices 0
  unfold wantsF
  omega
theorem restF_ok {worth : List (List Int)} {prices : List Int} {n : Nat} (h : OkH worth n) (k : Nat) : ∀ l ∈ restF worth prices k, l.length ≤ 64 ∧ ∀ j ∈ l, j < n := fun l hl => by
  obtain ⟨i, hi, rfl⟩ := List.getElem_of_mem hl
  have hi' : i < worth.length := by rwa [restF_len] at hi
  rw [restF_get hi' hi]
  split
  · exact ⟨by simp, fun j hj => by cases hj⟩
  · exact wantsF_ok (h.len _ (List.getElem_mem hi')) h.cols
theorem mustF_ok {worth : List (List Int)} {prices : List Int} {n : Nat} (h : OkH worth n) (k : Nat) : ∀ l ∈ mustF worth prices k, l.length ≤ 64 ∧ ∀ j ∈ l, j < n := fun l hl => by
  obtain ⟨i, hi, rfl⟩ := List.getElem_of_mem hl
  have hi' : i < worth.length := by rwa [mustF_len] at hi
  rw [mustF_get hi' hi]
  split
  · exact ⟨by simp, fun j hj => by cases hj⟩
  · split
    · exact wantsF_ok (h.len _ (List.getElem_mem hi')) h.cols
    · exact ⟨by simp, fun j hj => by cases hj⟩
theorem wantsH_nodup {b : Int} : ∀ (row prices : List Int) (j : Nat), (wantsH b row prices j).Nodup
  | [], _, _ => by simp [wantsH]
  | _ :: _, [], _ => by simp [wantsH]
  | x :: r, p :: ps, j => by
    have ih := wantsH_nodup (b := b) r ps (j + 1)
    simp only [wantsH]
    split
    · rw [List.singleton_append, List.nodup_cons]
      exact ⟨fun h => by have := (wantsH_lt r ps (j + 1) j h).1; omega, ih⟩
    · simpa using ih
theorem restF_nodup {worth : List (List Int)} {prices : List Int} (k : Nat) : ∀ l ∈ restF worth prices k, l.Nodup := fun l hl => by
  obtain ⟨i, hi, rfl⟩ := List.getElem_of_mem hl
  have hi' : i < worth.length := by rwa [restF_len] at hi
  rw [restF_get hi' hi]
  split
  · exact List.nodup_nil
  · exact wantsH_nodup _ _ _
/-- One buyer comes into the lists of the lots that it wants. -/
def addB (tk : List Bool) (i : Nat) : List Nat → List (List Nat) → List (List Nat)
  | [], L => L
  | j :: js, L => addB tk i js (if tk.getD j false = true then L else L.set j (L.getD j [] ++ [i]))
def addAll (tk : List Bool) : List (List Nat) → Nat → List (List Nat) → List (List Nat)
  | [], _, L => L
  | r :: rs, i, L => addAll tk rs (i + 1) (addB tk i r L)
theorem addB_len (tk : List Bool) (i : Nat) : ∀ (r : List Nat) (L : List (List Nat)), (addB tk i r L).length = L.length
  | [], _ => rfl
  | j :: r, L => by
    rw [addB, addB_len tk i r]
    split <;> simp
theorem addAll_len (tk : List Bool) : ∀ (rs : List (List Nat)) (i : Nat) (L : List (List Nat)), (addAll tk rs i L).length = L.length
  | [], _, _ => rfl
  | r :: rs, i, L => by rw [addAll, addAll_len tk rs, addB_len]
theorem getD_set_eq {α : Type} {L : List α} {j : Nat} {x d : α} (h : j < L.length) : (L.set j x).getD j d = x := by simp [h]
theorem getD_set_other {α : Type} {L : List α} {j k : Nat} {x d : α} (h : k ≠ j) : (L.set j x).getD k d = L.getD k d := by
  rw [List.getD_eq_getElem?_getD, List.getElem?_set_ne (fun q => h q.symm), List.getD_eq_getElem?_getD]
theorem addB_get (tk : List Bool) (i : Nat) {k : Nat} : ∀ (r : List Nat) (L : List (List Nat)), r.Nodup → k < L.length → (addB tk i r L).getD k [] = if tk.getD k false = false ∧ k ∈ r then L.getD k [] ++ [i] else L.getD k []
  | [], L, _, _ => by simp [addB]
  | j :: r, L, hn, hk => by
    obtain ⟨h1, h2⟩ := List.nodup_cons.1 hn
    rw [addB, addB_get tk i r _ h2 (by split <;> simpa using hk)]
    by_cases e : k = j
    · subst e
      cases ht : tk.getD k false with
      | true => simp
      | false =>
        have hs : (if (false : Bool) = true then L else L.set k (L.getD k [] ++ [i])) = L.set k (L.getD k [] ++ [i]) := if_neg (by simp)
        rw [hs, if_neg (fun h : false = false ∧ k ∈ r => h1 h.2), if_pos ⟨rfl, List.mem_cons_self⟩, getD_set_eq hk]
    · have hm : k ∈ j :: r ↔ k ∈ r := by simp [e]
      have hs : (if tk.getD j false = true then L else L.set j (L.getD j [] ++ [i])).getD k [] = L.getD k [] := by
        split
        · rfl
        · exact getD_set_other e
      rw [hs]
      simp only [hm]
theorem addAll_get (tk : List Bool) {k : Nat} : ∀ (rs : List (List Nat)) (i : Nat) (L : List (List Nat)), (∀ r ∈ rs, r.Nodup) → k < L.length → (addAll tk rs i L).getD k [] = L.getD k [] ++ if tk.getD k false = true then [] else (List.range' i rs.length).filter fun m => (rs.getD (m - i) []).contains k
  | [], i, L, _, _ => by simp [addAll]
  | r :: rs, i, L, hn, hk => by
    rw [addAll, addAll_get tk rs (i + 1) _ (fun r hr => hn r (List.mem_cons_of_mem _ hr)) (by rw [addB_len]; exact hk), addB_get tk i r L (hn r List.mem_cons_self) hk]
    cases ht : tk.getD k false with
    | true => simp
    | false =>
      rw [List.length_cons, List.range'_succ, List.filter_cons]
      have e0 : (((r :: rs).getD (i - i) []).contains k = true) = (k ∈ r) := by
        rw [Nat.sub_self]
        simp
      have e1 : (List.range' (i + 1) rs.length).filter (fun m => ((r :: rs).getD (m - i) []).contains k) = (List.range' (i + 1) rs.length).filter fun m => (rs.getD (m - (i + 1)) []).contains k := by
        refine List.filter_congr fun m hm => ?_
        have := (List.mem_range'_1.1 hm).1
        rw [show m - i = (m - (i + 1)) + 1 by omega]
        simp
      simp only [e0, e1]
      by_cases hm : k ∈ r
      · simp [hm]
      · simp [hm]
theorem byLot_fold {worth : List (List Int)} {prices lots : List Int} : addAll (takenF prices.length lots) (restF worth prices lots.length) 0 (List.replicate prices.length []) = byLotF worth prices lots := by
  have hl : (addAll (takenF prices.length lots) (restF worth prices lots.length) 0 (List.replicate prices.length [])).length = prices.length := by rw [addAll_len]; simp
  apply List.ext_getElem
  · rw [hl]; simp [byLotF]
  · intro j h1 h2
    have hj : j < prices.length := by rwa [hl] at h1
    have e : ∀ (L : List (List Nat)) (h : j < L.length), L[j] = L.getD j [] := fun L h => by simp [h]
    rw [e _ h1, addAll_get _ _ _ _ (restF_nodup _) (by simpa using hj), restF_len]
    simp [byLotF, hj, List.range_eq_range']
theorem byLotF_len (worth : List (List Int)) (prices lots : List Int) : (byLotF worth prices lots).length = prices.length := by simp [byLotF]
theorem byLotF_ok {worth : List (List Int)} {prices lots : List Int} {n : Nat} (h : OkH worth n) : ∀ l ∈ byLotF worth prices lots, l.length ≤ 64 ∧ ∀ j ∈ l, j < worth.length := fun l hl => by
  unfold byLotF at hl
  obtain ⟨j, hj, rfl⟩ := List.mem_map.1 hl
  split
  · exact ⟨by simp, fun j hj => by cases hj⟩
  · refine ⟨Nat.le_trans (List.length_filter_le _ _) (by simp; exact h.rows), fun i hi => by simpa using (List.mem_filter.1 hi).1⟩
theorem allF_cons (wants : List (List Nat)) (bar : List Bool) (n : Nat) (skip : Nat → Bool) (i : Nat) (is : List Nat) (m : Mg) : allF wants bar n skip (i :: is) m = if skip i = true then allF wants bar n skip is m
    else if (giveF wants bar (n + 1) i { m with seen := noB n }).1 = true then allF wants bar n skip is (giveF wants bar (n + 1) i { m with seen := noB n }).2 else false := by rw [allF]
end Go.Proofs.YtojednnciknhpaaDoor
namespace Go.Proofs.YtojednnciknhpaaDoor
set_option linter.unusedSimpArgs false
set_option linter.unusedVariables false
open Go.RowKit
/-- A lot was tried; who holds a lot (-1: nobody). -/
def Mg.tr (m : Mg) (j : Nat) : Prop := m.seen.getD j false = true
def Mg.ho (m : Mg) (j : Nat) : Int := m.bu.getD j (-1)
def InjM (m : Mg) : Prop := ∀ j k, m.ho j = m.ho k → 0 ≤ m.ho j → j = k
def EdgeM (wants : List (List Nat)) (bar : List Bool) (m : Mg) : Prop := ∀ j x : Nat, m.ho j = (x : Int) → j ∈ wants.getD x [] ∧ bar.getD j false = false
/-- Nothing but tried lots are held by one. -/
def FreshM (i : Nat) (m : Mg) : Prop := ∀ j, ¬ m.tr j → m.ho j ≠ (i : Int)
theorem Mg.ho_nolot {m : Mg} {j : Nat} (h : m.bu.length ≤ j) : m.ho j = -1 := by simp [Mg.ho, h]
theorem Mg.ho_pair (m : Mg) {i j : Nat} (h : j < m.bu.length) (k : Nat) : (m.pair i j).ho k = if k = j then (i : Int) else m.ho k := by
  unfold Mg.ho Mg.pair
  by_cases e : k = j
  · subst e; rw [if_pos rfl]; simp [h]
  · rw [if_neg e]
    show (m.bu.set j (i : Int)).getD k (-1) = _
    rw [List.getD_eq_getElem?_getD, List.getElem?_set_ne (fun q => e q.symm), List.getD_eq_getElem?_getD]
theorem Mg.tr_see (m : Mg) {j : Nat} (h : j < m.seen.length) (k : Nat) : ({ m with seen := m.seen.set j true } : Mg).tr k ↔ k = j ∨ m.tr k := by
  unfold Mg.tr
  by_cases e : k = j
  · subst e; simp [h]
  · show (m.seen.set j true).getD k false = true ↔ _
    rw [List.getD_eq_getElem?_getD, List.getElem?_set_ne (fun q => e q.symm), List.getD_eq_getElem?_getD]
    simp [e]
/-- What a finding leaves: m' out of m. -/
structure Gave (i : Nat) (m m' : Mg) : Prop where
  keep : ∀ j, m.tr j → m'.ho j = m.ho j
  got : ∃ j, ¬ m.tr j ∧ m'.ho j = (i : Int)
  lots : ∀ j, 0 ≤ m.ho j → 0 ≤ m'.ho j
  old : ∀ j, ¬ m.tr j → m'.ho j ≠ (i : Int) → 0 ≤ m'.ho j → ∃ k, ¬ m.tr k ∧ m.ho k = m'.ho j
  held : ∀ j, 0 ≤ m.ho j → ∃ k, m'.ho k = m.ho j
  inj : ∀ j k, ¬ m.tr j → ¬ m.tr k → m'.ho j = m'.ho k → 0 ≤ m'.ho j → j = k
  cross : ∀ j k, m.tr j → ¬ m.tr k → m'.ho j = m'.ho k → 0 ≤ m'.ho j → m'.ho j = (i : Int)
theorem Gave.weaken {i : Nat} {m m2 m' : Mg} (hb : ∀ j, m2.ho j = m.ho j) (ht : ∀ j, m.tr j → m2.tr j) (hi : InjM m) (hf : FreshM i m) (g : Gave i m2 m') : Gave i m m' := by
  refine ⟨fun j hj => (g.keep j (ht j hj)).trans (hb j), ?_, fun j hj => g.lots j (by rw [hb]; exact hj), ?_, ?_, ?_, ?_⟩
  · obtain ⟨j, h1, h2⟩ := g.got
    exact ⟨j, fun h => h1 (ht j h), h2⟩
  · intro j hj hne h0
    by_cases h2 : m2.tr j
    · exact ⟨j, hj, by rw [g.keep j h2, hb]⟩
    · obtain ⟨k, k1, k2⟩ := g.old j h2 hne h0
      exact ⟨k, fun h => k1 (ht k h), by rw [← hb]; exact k2⟩
  · intro j hj
    obtain ⟨k, hk⟩ := g.held j (by rw [hb]; exact hj)
    exact ⟨k, by rw [hk, hb]⟩
  · intro j k hj hk he h0
    by_cases h2 : m2.tr j
    · by_cases h3 : m2.tr k
      · rw [g.keep j h2, g.keep k h3, hb, hb] at he
        rw [g.keep j h2, hb] at h0
        exact hi j k he h0
      · have := g.cross j k h2 h3 he h0
        rw [g.keep j h2, hb] at this
        exact absurd this (hf j hj)
    · by_cases h3 : m2.tr k
      · have := g.cross k j h3 h2 he.symm (by rw [← he]; exact h0)
        rw [g.keep k h3, hb] at this
        exact absurd this (hf k hk)
      · exact g.inj j k h2 h3 he h0
  · intro j k hj hk he h0
    by_cases h3 : m2.tr k
    · rw [g.keep j (ht j hj), g.keep k h3, hb, hb] at he
      rw [g.keep j (ht j hj), hb] at h0
      have := hi j k he h0
      subst this
      exact absurd hj hk
    · exact g.cross j k (ht j hj) h3 he h0
/-- A free lot is taken. -/
theorem Gave.free {i j : Nat} {m m1 : Mg} (h1 : ∀ k, m1.ho k = m.ho k) (hl : j < m1.bu.length) (hj : ¬ m.tr j) (hn : m.ho j < 0) (hi : InjM m) (hf : FreshM i m) : Gave i m (m1.pair i j) := by
  have e : ∀ k, (m1.pair i j).ho k = if k = j then (i : Int) else m.ho k := fun k => by rw [Mg.ho_pair m1 hl, h1]
  refine ⟨?_, ⟨j, hj, by rw [e, if_pos rfl]⟩, ?_, ?_, ?_, ?_, ?_⟩
  · intro k hk
    have q0 : k ≠ j := fun q => hj (q ▸ hk)
    rw [e, if_neg q0]
  · intro k hk
    rw [e]
    split
    · omega
    · exact hk
  · intro k hk hne h0
    rw [e] at hne h0 ⊢
    split at hne
    · exact absurd rfl hne
    · rename_i q
      rw [if_neg q]
      exact ⟨k, hk, rfl⟩
  · intro k hk
    refine ⟨k, ?_⟩
    rw [e, if_neg (fun q => by subst q; omega)]
  · intro a b ha hb' he h0
    rw [e] at h0 he
    rw [e] at he
    by_cases q1 : a = j
    · by_cases q2 : b = j
      · rw [q1, q2]
      · rw [if_pos q1, if_neg q2] at he
        exact absurd he.symm (hf b hb')
    · by_cases q2 : b = j
      · rw [if_neg q1, if_pos q2] at he
        exact absurd he (hf a ha)
      · rw [if_neg q1, if_neg q2] at he
        rw [if_neg q1] at h0
        exact hi a b he h0
  · intro a b ha hb' he h0
    have q1 : a ≠ j := fun q => hj (q ▸ ha)
    rw [e] at h0 he ⊢
    rw [e] at he
    rw [if_neg q1] at h0 he ⊢
    by_cases q2 : b = j
    · rw [if_pos q2] at he
      exact he
    · rw [if_neg q2] at he
      have := hi a b he h0
      subst this
      exact absurd ha hb'
/-- A lot is taken from one that was given another one. -/
theorem Gave.moved {i j k : Nat} {m m1 m2 : Mg} (h1 : ∀ x, m1.ho x = m.ho x) (ht : ∀ x, m1.tr x ↔ x = j ∨ m.tr x) (hl : j < m2.bu.length) (hj : ¬ m.tr j) (hk : m.ho j = (k : Int)) (hi : InjM m) (hf : FreshM i m) (g : Gave k m1 m2) : Gave i m (m2.pair i j) := by
  have e : ∀ x, (m2.pair i j).ho x = if x = j then (i : Int) else m2.ho x := fun x => Mg.ho_pair m2 hl x
  have hki : (k : Int) ≠ (i : Int) := fun q => hf j hj (by rw [hk, q])
  have kj : m2.ho j = (k : Int) := by rw [g.keep j ((ht j).2 (.inl rfl)), h1, hk]
  have km : ∀ x, m.tr x → m2.ho x = m.ho x := fun x hx => by rw [g.keep x ((ht x).2 (.inr hx)), h1]
  have nt : ∀ x, ¬ m.tr x → x ≠ j → ¬ m1.tr x := fun x hx hxj h => ((ht x).1 h).elim hxj hx
  have nt' : ∀ x, ¬ m1.tr x → ¬ m.tr x ∧ x ≠ j := fun x hx => ⟨fun h => hx ((ht x).2 (.inr h)), fun h => hx ((ht x).2 (.inl h))⟩
  have noi : ∀ x, ¬ m1.tr x → m2.ho x ≠ (i : Int) := fun x hx q => by
    obtain ⟨y, y1, y2⟩ := g.old x hx (by rw [q]; exact fun q => hki q.symm) (by rw [q]; omega)
    rw [h1, q] at y2
    exact hf y (nt' y y1).1 y2
  refine ⟨?_, ⟨j, hj, by rw [e, if_pos rfl]⟩, ?_, ?_, ?_, ?_, ?_⟩
  · intro x hx
    have q0 : x ≠ j := fun q => hj (q ▸ hx)
    rw [e, if_neg q0, km x hx]
  · intro x hx
    rw [e]
    split
    · omega
    · exact g.lots x (by rw [h1]; exact hx)
  · intro x hx hne h0
    rw [e] at hne h0 ⊢
    split at hne
    · exact absurd rfl hne
    · rename_i q
      rw [if_neg q] at h0 ⊢
      by_cases hxk : m2.ho x = (k : Int)
      · exact ⟨j, hj, by rw [hk, hxk]⟩
      · obtain ⟨y, y1, y2⟩ := g.old x (nt x hx q) hxk h0
        rw [h1] at y2
        exact ⟨y, (nt' y y1).1, y2⟩
  · intro x hx
    by_cases hxk : m.ho x = (k : Int)
    · obtain ⟨y, y1, y2⟩ := g.got
      exact ⟨y, by rw [e, if_neg (nt' y y1).2, y2, hxk]⟩
    · obtain ⟨y, hy⟩ := g.held x (by rw [h1]; exact hx)
      rw [h1] at hy
      refine ⟨y, ?_⟩
      rw [e, if_neg (fun q => ?_), hy]
      subst q
      rw [kj] at hy
      exact hxk hy.symm
  · intro a b ha hb' he h0
    rw [e] at h0 he
    rw [e] at he
    by_cases q1 : a = j
    · by_cases q2 : b = j
      · rw [q1, q2]
      · rw [if_pos q1, if_neg q2] at he
        exact absurd he.symm (noi b (nt b hb' q2))
    · by_cases q2 : b = j
      · rw [if_neg q1, if_pos q2] at he
        exact absurd he (noi a (nt a ha q1))
      · rw [if_neg q1, if_neg q2] at he
        rw [if_neg q1] at h0
        exact g.inj a b (nt a ha q1) (nt b hb' q2) he h0
  · intro a b ha hb' he h0
    have q1 : a ≠ j := fun q => hj (q ▸ ha)
    rw [e] at h0 he ⊢
    rw [e] at he
    rw [if_neg q1] at h0 he ⊢
    by_cases q2 : b = j
    · rw [if_pos q2] at he
      exact he
    · rw [if_neg q2] at he
      have hc := g.cross a b ((ht a).2 (.inr ha)) (nt b hb' q2) he h0
      rw [km a ha] at hc
      have := hi a j (by rw [hc, hk]) (by rw [hc]; omega)
      exact absurd this q1
/-- What a failure shows. -/
structure Lost (wants : List (List Nat)) (bar : List Bool) (js : List Nat) (m m' : Mg) : Prop where
  bu : m'.bu = m.bu
  more : ∀ j, m.tr j → m'.tr j
  all : ∀ j ∈ js, m'.tr j ∨ bar.getD j false = true
  new : ∀ j, m'.tr j → m.tr j ∨ bar.getD j false = false ∧ ∃ x : Nat, m.ho j = (x : Int) ∧ ∀ k ∈ wants.getD x [], m'.tr k ∨ bar.getD k false = true
theorem ho_of_bu {m m' : Mg} (h : m'.bu = m.bu) (j : Nat) : m'.ho j = m.ho j := by unfold Mg.ho; rw [h]
theorem giveL_lost {wants : List (List Nat)} {bar : List Bool} {n f : Nat} {rec : Nat → Mg → Bool × Mg} (hok : ∀ k m, k < wants.length → MgOk wants.length n m → MgOk wants.length n (rec k m).2 ∧ (rec k m).2.left ≤ m.left)
    (hrec : ∀ k m, k < wants.length → MgOk wants.length n m → m.left < f → (rec k m).1 = false → Lost wants bar (wants.getD k []) m (rec k m).2) {i : Nat} : ∀ (js : List Nat) (m : Mg), (∀ j ∈ js, j < n) → MgOk wants.length n m → m.left ≤ f → (giveL rec bar i js m).1 = false → Lost wants bar js m (giveL rec bar i js m).2
  | [], m, _, _, _, _ => ⟨rfl, fun _ h => h, fun _ h => (by cases h), fun _ h => .inl h⟩
  | j :: js, m, hj, hm, hl, h => by
    have ih := fun m => giveL_lost hok hrec (i := i) js m fun j hj' => hj j (List.mem_cons_of_mem _ hj')
    have hjn := hj j List.mem_cons_self
    unfold giveL at h ⊢
    split
    · rename_i hs
      rw [if_pos hs] at h
      obtain ⟨a1, a2, a3, a4⟩ := ih m hm hl h
      refine ⟨a1, a2, fun k hk => ?_, a4⟩
      rcases List.mem_cons.1 hk with rfl | hk
      · exact hs.imp (a2 k) id
      · exact a3 k hk
    · rename_i hs
      rw [if_neg hs] at h
      split
      · rename_i hb
        rw [if_pos hb] at h
        cases h
      · rename_i hb
        rw [if_neg hb] at h
        split
        · rename_i hr
          rw [if_pos hr] at h
          cases h
        · rename_i hr
          rw [if_neg hr] at h
          obtain ⟨m1, hm1⟩ : ∃ m1, m1 = ({ m with seen := m.seen.set j true } : Mg) := ⟨_, rfl⟩
          rw [← hm1] at h hr ⊢
          have ok1 : MgOk wants.length n m1 := by rw [hm1]; exact hm.see j
          have hts : ∀ x, m1.tr x ↔ x = j ∨ m.tr x := fun x => by rw [hm1]; exact Mg.tr_see m (by rw [hm.sn]; exact hjn) x
          have hho : ∀ x, m1.ho x = m.ho x := fun x => by rw [hm1]; rfl
          have hlt : m1.left < m.left := by
            rw [hm1]
            refine count_set_lt m.seen j (by rw [hm.sn]; exact hjn) ?_
            cases hq : m.seen.getD j false with
            | false => rfl
            | true => exact absurd (.inl hq) hs
          have hbj : j < m.bu.length := by rw [hm.bu]; exact hjn
          have e : m.bu.getD j (-1) = m.bu[j] := by simp [hbj]
          have hrb := hm.rb _ (List.getElem_mem hbj)
          obtain ⟨x, hx⟩ : ∃ x : Nat, m.ho j = (x : Int) := ⟨m.bu[j].toNat, by unfold Mg.ho; rw [e] at hb ⊢; omega⟩
          have hxe : (m1.bu.getD j (-1)).toNat = x := by
            have : m1.bu.getD j (-1) = m1.ho j := rfl
            rw [this, hho, hx]
            simp
          have hxe' : (m.bu.getD j (-1)).toNat = x := by
            have : m.bu.getD j (-1) = m.ho j := rfl
            rw [this, hx]
            simp
          rw [hxe'] at h hr ⊢
          have hxw : x < wants.length := by
            have : m.ho j = m.bu[j] := e
            omega
          obtain ⟨a1, a2, a3, a4⟩ := hrec x m1 hxw ok1 (by omega) (by simpa using hr)
          obtain ⟨o1, o2⟩ := hok x m1 hxw ok1
          obtain ⟨b1, b2, b3, b4⟩ := ih _ o1 (by omega) h
          have hb1 : m1.bu = m.bu := by rw [hm1]
          refine ⟨b1.trans (a1.trans hb1), fun y hy => b2 y (a2 y ((hts y).2 (.inr hy))), fun y hy => ?_, fun y hy => ?_⟩
          · rcases List.mem_cons.1 hy with rfl | hy
            · exact .inl (b2 _ (a2 _ ((hts _).2 (.inl rfl))))
            · exact b3 y hy
          · rcases b4 y hy with h1 | ⟨h1, z, h2, h3⟩
            · rcases a4 y h1 with h2 | ⟨h2, z, h3, h4⟩
              · rcases (hts y).1 h2 with rfl | h2
                · refine .inr ⟨?_, x, hx, fun k hk => (a3 k hk).imp (b2 k) id⟩
                  cases hq : bar.getD y false with
                  | false => rfl
                  | true => exact absurd (.inr hq) hs
                · exact .inl h2
              · exact .inr ⟨h2, z, by rw [← hho]; exact h3, fun k hk => (h4 k hk).imp (b2 k) id⟩
            · exact .inr ⟨h1, z, by rw [← hho, ← ho_of_bu a1]; exact h2, h3⟩
theorem giveF_lost {wants : List (List Nat)} {bar : List Bool} {n : Nat} (hw : wOk wants n) : ∀ (f i : Nat) (m : Mg), i < wants.length → MgOk wants.length n m → m.left < f → (giveF wants bar f i m).1 = false → Lost wants bar (wants.getD i []) m (giveF wants bar f i m).2
  | 0, _, _, _, _, h, _ => absurd h (by omega)
  | f + 1, i, m, hi, hm, hl, h => by
    refine giveL_lost (f := f) (fun k m hk hm => giveF_ok hw f k m hk hm) (fun k m hk hm hl h => giveF_lost hw f k m hk hm hl h) _ m (fun j hj => ?_) hm (by omega) h
    have e : wants.getD i [] = wants[i] := by simp [hi]
    rw [e] at hj
    exact hw _ (List.getElem_mem hi) j hj
/-- A finding. -/
theorem giveL_gave {wants : List (List Nat)} {bar : List Bool} {n f : Nat} {rec : Nat → Mg → Bool × Mg} (hok : ∀ k m, k < wants.length → MgOk wants.length n m → MgOk wants.length n (rec k m).2 ∧ (rec k m).2.left ≤ m.left)
    (hlo : ∀ k m, k < wants.length → MgOk wants.length n m → m.left < f → (rec k m).1 = false → Lost wants bar (wants.getD k []) m (rec k m).2)
    (hrec : ∀ k m, k < wants.length → MgOk wants.length n m → m.left < f → InjM m → FreshM k m → EdgeM wants bar m → (rec k m).1 = true → Gave k m (rec k m).2 ∧ EdgeM wants bar (rec k m).2) {i : Nat} (hi : i < wants.length) : ∀ (js : List Nat) (m : Mg), (∀ j ∈ js, j < n) → (∀ j ∈ js, j ∈ wants.getD i []) → MgOk wants.length n m → m.left ≤ f → InjM m → FreshM i m → EdgeM wants bar m → (giveL rec bar i js m).1 = true → Gave i m (giveL rec bar i js m).2 ∧ EdgeM wants bar (giveL rec bar i js m).2
  | [], m, _, _, _, _, _, _, _, h => by cases h
  | j :: js, m, hj, hji, hm, hl, hin, hf, he, h => by
    have ih := fun m => giveL_gave hok hlo hrec hi js m (fun j hj' => hj j (List.mem_cons_of_mem _ hj')) fun j hj' => hji j (List.mem_cons_of_mem _ hj')
    have hjn := hj j List.mem_cons_self
    have hjw := hji j List.mem_cons_self
    unfold giveL at h ⊢
    split
    · rename_i hs
      rw [if_pos hs] at h
      exact ih m hm hl hin hf he h
    · rename_i hs
      rw [if_neg hs] at h
      have hnt : ¬ m.tr j := fun q => hs (.inl q)
      have hbar : bar.getD j false = false := by
        cases hq : bar.getD j false with
        | false => rfl
        | true => exact absurd (.inr hq) hs
      obtain ⟨m1, hm1⟩ : ∃ m1, m1 = ({ m with seen := m.seen.set j true } : Mg) := ⟨_, rfl⟩
      rw [← hm1] at h ⊢
      have ok1 : MgOk wants.length n m1 := by rw [hm1]; exact hm.see j
      have hts : ∀ x, m1.tr x ↔ x = j ∨ m.tr x := fun x => by rw [hm1]; exact Mg.tr_see m (by rw [hm.sn]; exact hjn) x
      have hho : ∀ x, m1.ho x = m.ho x := fun x => by rw [hm1]; rfl
      have hbj : j < m.bu.length := by rw [hm.bu]; exact hjn
      have hbj1 : j < m1.bu.length := by rw [ok1.bu]; exact hjn
      have edge2 : ∀ m2 : Mg, j < m2.bu.length → EdgeM wants bar m2 → EdgeM wants bar (m2.pair i j) := fun m2 h2 e2 a x ha => by
        rw [Mg.ho_pair m2 h2] at ha
        split at ha
        · rename_i q
          have : x = i := by omega
          rw [q, this]
          exact ⟨hjw, hbar⟩
        · exact e2 a x ha
      have he1 : EdgeM wants bar m1 := fun a x ha => he a x (by rw [← hho]; exact ha)
      split
      · rename_i hb
        exact ⟨Gave.free hho hbj1 hnt hb hin hf, edge2 m1 hbj1 he1⟩
      · rename_i hb
        rw [if_neg hb] at h
        have hlt : m1.left < m.left := by
          rw [hm1]
          refine count_set_lt m.seen j (by rw [hm.sn]; exact hjn) ?_
          cases hq : m.seen.getD j false with
          | false => rfl
          | true => exact absurd hq hnt
        have e : m.bu.getD j (-1) = m.bu[j] := by simp [hbj]
        have hrb := hm.rb _ (List.getElem_mem hbj)
        obtain ⟨x, hx⟩ : ∃ x : Nat, m.ho j = (x : Int) := ⟨m.bu[j].toNat, by unfold Mg.ho; rw [e] at hb ⊢; omega⟩
        have hxe' : (m.bu.getD j (-1)).toNat = x := by
          have : m.bu.getD j (-1) = m.ho j := rfl
          rw [this, hx]
          simp
        rw [hxe'] at h ⊢
        have hxw : x < wants.length := by
          have : m.ho j = m.bu[j] := e
          omega
        obtain ⟨o1, o2⟩ := hok x m1 hxw ok1
        have hin1 : InjM m1 := fun a b h1 h2 => hin a b (by rw [← hho a, ← hho b]; exact h1) (by rw [← hho a]; exact h2)
        have hf1 : FreshM x m1 := fun a ha h1 => by
          rw [hho] at h1
          have := hin a j (by rw [h1, hx]) (by omega)
          exact ha ((hts a).2 (.inl this))
        split
        · rename_i hr
          obtain ⟨g1, g2⟩ := hrec x m1 hxw ok1 (by omega) hin1 hf1 he1 hr
          exact ⟨Gave.moved hho hts (by rw [o1.bu]; exact hjn) hnt hx hin hf g1, edge2 _ (by rw [o1.bu]; exact hjn) g2⟩
        · rename_i hr
          rw [if_neg hr] at h
          obtain ⟨a1, a2, a3, a4⟩ := hlo x m1 hxw ok1 (by omega) (by simpa using hr)
          obtain ⟨m2, hm2⟩ : ∃ m2, m2 = (rec x m1).2 := ⟨_, rfl⟩
          rw [← hm2] at a1 a2 o1 o2 h ⊢
          have hho2 : ∀ y, m2.ho y = m.ho y := fun y => by rw [ho_of_bu a1, hho]
          have htr2 : ∀ y, m.tr y → m2.tr y := fun y hy => a2 y ((hts y).2 (.inr hy))
          obtain ⟨g1, g2⟩ := ih m2 o1 (by omega) (fun a b h1 h2 => hin a b (by rw [← hho2 a, ← hho2 b]; exact h1) (by rw [← hho2 a]; exact h2)) (fun a ha h1 => hf a (fun q => ha (htr2 a q)) (by rw [← hho2]; exact h1)) (fun a y ha => he a y (by rw [← hho2]; exact ha)) h
          exact ⟨Gave.weaken hho2 htr2 hin hf g1, g2⟩
theorem giveF_gave {wants : List (List Nat)} {bar : List Bool} {n : Nat} (hw : wOk wants n) : ∀ (f i : Nat) (m : Mg), i < wants.length → MgOk wants.length n m → m.left < f → InjM m → FreshM i m → EdgeM wants bar m → (giveF wants bar f i m).1 = true → Gave i m (giveF wants bar f i m).2 ∧ EdgeM wants bar (giveF wants bar f i m).2
  | 0, _, _, _, _, h, _, _, _, _ => absurd h (by omega)
  | f + 1, i, m, hi, hm, hl, hin, hf, he, h => by
    refine giveL_gave (f := f) (fun k m hk hm => giveF_ok hw f k m hk hm) (fun k m hk hm hl h => giveF_lost hw f k m hk hm hl h) (fun k m hk hm hl h1 h2 h3 h4 => giveF_gave hw f k m hk hm hl h1 h2 h3 h4) hi _ m (fun j hj => ?_) (fun j hj => hj) hm (by omega) hin hf he h
    have e : wants.getD i [] = wants[i] := by simp [hi]
    rw [e] at hj
    exact hw _ (List.getElem_mem hi) j hj
end Go.Proofs.YtojednnciknhpaaDoor
namespace Go.Proofs.YtojednnciknhpaaDoor
set_option linter.unusedSimpArgs false
set_option linter.unusedVariables false
open Go.RowKit
theorem nodup_len {α : Type} [DecidableEq α] : ∀ {A B : List α}, A.Nodup → (∀ x ∈ A, x ∈ B) → A.length ≤ B.length
  | [], _, _, _ => by simp
  | a :: A, B, h, hs => by
    obtain ⟨h1, h2⟩ := List.nodup_cons.1 h
    have ha := hs a List.mem_cons_self
    have := nodup_len (B := B.erase a) h2 fun x hx => (List.mem_erase_of_ne (show x ≠ a from fun q => h1 (q ▸ hx))).2 (hs x (List.mem_cons_of_mem _ hx))
    rw [List.length_erase_of_mem ha] at this
    have hp := List.length_pos_of_mem ha
    simp only [List.length_cons]
    omega
theorem nodup_map {α β : Type} {f : α → β} : ∀ {l : List α}, l.Nodup → (∀ x ∈ l, ∀ y ∈ l, f x = f y → x = y) → (l.map f).Nodup
  | [], _, _ => by simp
  | a :: l, h, hf => by
    obtain ⟨h1, h2⟩ := List.nodup_cons.1 h
    rw [List.map_cons, List.nodup_cons]
    refine ⟨fun q => ?_, nodup_map h2 fun x hx y hy => hf x (List.mem_cons_of_mem _ hx) y (List.mem_cons_of_mem _ hy)⟩
    obtain ⟨y, hy, e⟩ := List.mem_map.1 q
    have := hf y (List.mem_cons_of_mem _ hy) a List.mem_cons_self e
    exact h1 (this ▸ hy)
/-- Each of some can have one of its own. -/
def Sat (R : Nat → Nat → Prop) (P : Nat → Prop) : Prop := ∃ f : Nat → Nat, (∀ x, P x → R x (f x)) ∧ ∀ x y, P x → P y → f x = f y → x = y
/-- Some are one more than what they want: x0 and those that hold the T. -/
def Short (R : Nat → Nat → Prop) (P : Nat → Prop) (n : Nat) : Prop := ∃ (x0 : Nat) (T : List Nat) (h : Nat → Nat), P x0 ∧ T.Nodup ∧ (∀ t ∈ T, t < n) ∧ (∀ t ∈ T, P (h t) ∧ h t ≠ x0 ∧ R (h t) t) ∧ (∀ s ∈ T, ∀ t ∈ T, h s = h t → s = t) ∧ (∀ j, R x0 j → j ∈ T) ∧ ∀ t ∈ T, ∀ j, R (h t) j → j ∈ T
theorem Short.not_sat {R : Nat → Nat → Prop} {P : Nat → Prop} {n : Nat} (s : Short R P n) : ¬ Sat R P := by
  rintro ⟨f, f1, f2⟩
  obtain ⟨x0, T, h, p0, nd, _, hT, hi, c0, cT⟩ := s
  have nd2 : (x0 :: T.map h).Nodup := List.nodup_cons.2 ⟨fun q => by
    obtain ⟨t, ht, e⟩ := List.mem_map.1 q
    exact (hT t ht).2.1 e, nodup_map nd hi⟩
  have hP : ∀ x ∈ x0 :: T.map h, P x := fun x hx => by
    rcases List.mem_cons.1 hx with rfl | hx
    · exact p0
    · obtain ⟨t, ht, rfl⟩ := List.mem_map.1 hx
      exact (hT t ht).1
  have := nodup_len (nodup_map (f := f) nd2 fun x hx y hy => f2 x y (hP x hx) (hP y hy)) (B := T) fun y hy => by
    obtain ⟨x, hx, rfl⟩ := List.mem_map.1 hy
    rcases List.mem_cons.1 hx with rfl | hx
    · exact c0 _ (f1 _ p0)
    · obtain ⟨t, ht, rfl⟩ := List.mem_map.1 hx
      exact cT t ht _ (f1 _ (hT t ht).1)
  simp at this
  omega
/-- What a row of wants allows. -/
def WR (wants : List (List Nat)) (bar : List Bool) (x j : Nat) : Prop := j ∈ wants.getD x [] ∧ bar.getD j false = false
/-- A matching that is under way: those of D are given one. -/
structure MInv (wants : List (List Nat)) (bar : List Bool) (n : Nat) (D : Nat → Prop) (m : Mg) : Prop where
  ok : MgOk wants.length n { m with seen := noB n }
  inj : InjM m
  edge : EdgeM wants bar m
  held : ∀ x : Nat, D x ↔ ∃ j, m.ho j = (x : Int)
theorem not_tr_fresh (m : Mg) (n j : Nat) : ¬ ({ m with seen := noB n } : Mg).tr j := fun h => by
  unfold Mg.tr noB at h
  simp only [List.getD_eq_getElem?_getD, List.getElem?_replicate] at h
  split at h <;> simp at h
theorem left_fresh (m : Mg) (n : Nat) : ({ m with seen := noB n } : Mg).left = n := by simp [Mg.left, noB]
theorem MInv.start (wants : List (List Nat)) (bar : List Bool) (n : Nat) (sn : List Bool) : MInv wants bar n (fun _ => False) ⟨List.replicate wants.length (-1), List.replicate n (-1), sn⟩ := by
  have hh : ∀ j, (⟨List.replicate wants.length (-1), List.replicate n (-1), sn⟩ : Mg).ho j = -1 := fun j => by
    simp only [Mg.ho, List.getD_eq_getElem?_getD, List.getElem?_replicate]
    split <;> rfl
  refine ⟨⟨by simp, by simp, by simp [noB], fun x hx => by rw [(List.mem_replicate.1 hx).2]; omega⟩, fun j k _ h => ?_, fun j x h => ?_, fun x => ⟨fun h => h.elim, fun ⟨j, hj⟩ => ?_⟩⟩
  · rw [hh] at h; omega
  · rw [hh] at h; omega
  · rw [hh] at hj; omega
theorem MInv.step {wants : List (List Nat)} {bar : List Bool} {n : Nat} {D : Nat → Prop} {m : Mg} {i : Nat} (hw : wOk wants n) (h : MInv wants bar n D m) (hi : i < wants.length) (hn : ¬ D i) (hg : (giveF wants bar (n + 1) i { m with seen := noB n }).1 = true) :
    MInv wants bar n (fun x => x = i ∨ D x) (giveF wants bar (n + 1) i { m with seen := noB n }).2 := by
  obtain ⟨m1, hm1⟩ : ∃ m1, m1 = ({ m with seen := noB n } : Mg) := ⟨_, rfl⟩
  have ok1 : MgOk wants.length n m1 := by rw [hm1]; exact h.ok
  have nt : ∀ j, ¬ m1.tr j := fun j => by rw [hm1]; exact not_tr_fresh m n j
  have ho1 : ∀ j, m1.ho j = m.ho j := fun j => by rw [hm1]; rfl
  rw [← hm1] at hg ⊢
  obtain ⟨g, e⟩ := giveF_gave hw (n + 1) i m1 hi ok1 (by rw [hm1, left_fresh]; omega) (fun a b h1 h2 => h.inj a b (by rw [← ho1 a, ← ho1 b]; exact h1) (by rw [← ho1 a]; exact h2)) (fun a _ h1 => hn ((h.held i).2 ⟨a, by rw [← ho1]; exact h1⟩)) (fun a x h1 => h.edge a x (by rw [← ho1]; exact h1)) hg
  have o1 := (giveF_ok (bar := bar) hw (n + 1) i m1 hi ok1).1
  refine ⟨o1.fresh, fun a b h1 h2 => g.inj a b (nt a) (nt b) h1 h2, e, fun x => ⟨?_, ?_⟩⟩
  · rintro (rfl | hd)
    · obtain ⟨j, _, hj⟩ := g.got
      exact ⟨j, hj⟩
    · obtain ⟨j, hj⟩ := (h.held x).1 hd
      obtain ⟨k, hk⟩ := g.held j (by rw [ho1, hj]; omega)
      exact ⟨k, by rw [hk, ho1, hj]⟩
  · rintro ⟨j, hj⟩
    by_cases hx : x = i
    · exact .inl hx
    · obtain ⟨k, _, hk⟩ := g.old j (nt j) (by rw [hj]; omega) (by rw [hj]; omega)
      exact .inr ((h.held x).2 ⟨k, by rw [← ho1, hk, hj]⟩)
/-- What a failure shows: the lots that were tried, all held, and wanted only. -/
theorem MInv.fail {wants : List (List Nat)} {bar : List Bool} {n : Nat} {D : Nat → Prop} {m m' : Mg} {i : Nat} (hw : wOk wants n) (h : MInv wants bar n D m) (hi : i < wants.length) (hg : (giveF wants bar (n + 1) i { m with seen := noB n }).1 = false) (hm' : m' = (giveF wants bar (n + 1) i { m with seen := noB n }).2) :
    (∀ j, m'.ho j = m.ho j) ∧ (∀ j, WR wants bar i j → m'.tr j) ∧ ∀ j, m'.tr j → j < n ∧ ∃ x : Nat, m.ho j = (x : Int) ∧ D x ∧ WR wants bar x j ∧ ∀ k, WR wants bar x k → m'.tr k := by
  have l := giveF_lost hw (n + 1) i _ hi h.ok (by rw [left_fresh]; omega) hg
  rw [← hm'] at l
  have hm2 : MgOk wants.length n m' := by rw [hm']; exact (giveF_ok (bar := bar) hw (n + 1) i _ hi h.ok).1
  refine ⟨fun j => ho_of_bu l.bu j, fun j hj => (l.all j hj.1).elim id fun q => absurd (q.symm.trans hj.2) (by simp), fun j hj => ?_⟩
  have hjn : j < n := by
    refine Decidable.byContradiction fun q => ?_
    have : m'.seen.length ≤ j := by rw [hm2.sn]; omega
    unfold Mg.tr at hj
    rw [List.getD_eq_getElem?_getD, List.getElem?_eq_none this] at hj
    cases hj
  rcases l.new j hj with q | ⟨_, x, hx, hall⟩
  · exact absurd q (not_tr_fresh m n j)
  · have hx' : m.ho j = (x : Int) := hx
    exact ⟨hjn, x, hx', (h.held x).2 ⟨j, hx'⟩, h.edge j x hx', fun k hk => (hall k hk.1).elim id fun q => absurd (q.symm.trans hk.2) (by simp)⟩
theorem MInv.short {wants : List (List Nat)} {bar : List Bool} {n : Nat} {D P : Nat → Prop} {m : Mg} {i : Nat} (hw : wOk wants n) (h : MInv wants bar n D m) (hi : i < wants.length) (hn : ¬ D i) (hP : P i) (hDP : ∀ x, D x → P x) (hg : (giveF wants bar (n + 1) i { m with seen := noB n }).1 = false) : Short (WR wants bar) P n := by
  obtain ⟨f1, f2, f3⟩ := h.fail hw hi hg rfl
  obtain ⟨m', hm'⟩ : ∃ m', m' = (giveF wants bar (n + 1) i { m with seen := noB n }).2 := ⟨_, rfl⟩
  rw [← hm'] at f1 f2 f3
  have mt : ∀ j, j ∈ ((List.range n).filter fun j => m'.seen.getD j false) ↔ m'.tr j := fun j => by
    rw [List.mem_filter, List.mem_range]
    exact ⟨fun q => q.2, fun q => ⟨(f3 j q).1, q⟩⟩
  have hx : ∀ t, m'.tr t → ∃ x : Nat, (m.ho t).toNat = x ∧ m.ho t = (x : Int) ∧ D x ∧ WR wants bar x t ∧ ∀ k, WR wants bar x k → m'.tr k := fun t ht => by
    obtain ⟨_, x, h1, h2, h3, h4⟩ := f3 t ht
    exact ⟨x, by rw [h1]; simp, h1, h2, h3, h4⟩
  refine ⟨i, (List.range n).filter fun j => m'.seen.getD j false, fun t => (m.ho t).toNat, hP, List.Pairwise.sublist List.filter_sublist List.nodup_range, fun t ht => (f3 t ((mt t).1 ht)).1, fun t ht => ?_, fun s hs t ht he => ?_, fun j hj => (mt j).2 (f2 j hj), fun t ht j hj => ?_⟩
  · obtain ⟨x, e, _, h2, h3, _⟩ := hx t ((mt t).1 ht)
    simp only [e]
    exact ⟨hDP x h2, fun q => hn (q ▸ h2), h3⟩
  · obtain ⟨x, e, h1, _⟩ := hx t ((mt t).1 ht)
    obtain ⟨y, e2, h2, _⟩ := hx s ((mt s).1 hs)
    simp only [e, e2] at he
    exact h.inj s t (by rw [h1, h2, he]) (by rw [h2]; omega)
  · obtain ⟨x, e, _, _, _, h4⟩ := hx t ((mt t).1 ht)
    simp only [e] at hj
    exact (mt j).2 (h4 j hj)
theorem MInv.sat {wants : List (List Nat)} {bar : List Bool} {n : Nat} {D P : Nat → Prop} {m : Mg} (h : MInv wants bar n D m) (hP : ∀ x, P x → D x) : Sat (WR wants bar) P := by
  refine ⟨fun x => Classical.epsilon fun j => m.ho j = (x : Int), ?_, ?_⟩
  · intro x hx
    have := Classical.epsilon_spec ((h.held x).1 (hP x hx))
    exact h.edge _ x this
  · intro x y hx hy he
    have h1 := Classical.epsilon_spec ((h.held x).1 (hP x hx))
    have h2 := Classical.epsilon_spec ((h.held y).1 (hP y hy))
    simp only at he
    rw [he, h2] at h1
    omega
theorem allF_inv {wants : List (List Nat)} {bar : List Bool} {n : Nat} {skip : Nat → Bool} (hw : wOk wants n) : ∀ (is : List Nat) (m : Mg) (D : Nat → Prop), is.Nodup → (∀ i ∈ is, i < wants.length) → (∀ i ∈ is, ¬ D i) → MInv wants bar n D m →
    if allF wants bar n skip is m = true then ∃ m', MInv wants bar n (fun x => D x ∨ (x ∈ is ∧ skip x = false)) m' else ∀ P : Nat → Prop, (∀ x, D x → P x) → (∀ x ∈ is, skip x = false → P x) → Short (WR wants bar) P n
  | [], m, D, _, _, _, h => by
    rw [allF, if_pos rfl]
    exact ⟨m, h.ok, h.inj, h.edge, fun x => by rw [← h.held x]; simp⟩
  | i :: is, m, D, hn, hr, hd, h => by
    obtain ⟨n1, n2⟩ := List.nodup_cons.1 hn
    have hr2 := fun k hk => hr k (List.mem_cons_of_mem _ hk)
    have hi := hr i List.mem_cons_self
    have hdi := hd i List.mem_cons_self
    rw [allF_cons]
    by_cases hs : skip i = true
    · simp only [hs, if_true]
      have ih := allF_inv (skip := skip) hw is m D n2 hr2 (fun k hk => hd k (List.mem_cons_of_mem _ hk)) h
      split at ih
      · rename_i q
        rw [if_pos q]
        obtain ⟨m', k1⟩ := ih
        refine ⟨m', k1.ok, k1.inj, k1.edge, fun x => ?_⟩
        rw [← k1.held x]
        constructor
        · rintro (h1 | ⟨h1, h2⟩)
          · exact .inl h1
          · rcases List.mem_cons.1 h1 with rfl | h1
            · rw [hs] at h2; cases h2
            · exact .inr ⟨h1, h2⟩
        · rintro (h1 | ⟨h1, h2⟩)
          · exact .inl h1
          · exact .inr ⟨List.mem_cons_of_mem _ h1, h2⟩
      · rename_i q
        rw [if_neg q]
        exact fun P h1 h2 => ih P h1 fun x hx => h2 x (List.mem_cons_of_mem _ hx)
    · simp only [hs, Bool.false_eq_true, if_false]
      by_cases hg : (giveF wants bar (n + 1) i { m with seen := noB n }).1 = true
      · simp only [hg, if_true]
        have st := h.step hw hi hdi hg
        have ih := allF_inv (skip := skip) hw is _ _ n2 hr2 (fun k hk => by
          rintro (rfl | q)
          · exact n1 hk
          · exact hd k (List.mem_cons_of_mem _ hk) q) st
        split at ih
        · rename_i q
          rw [if_pos q]
          obtain ⟨m', k1⟩ := ih
          refine ⟨m', k1.ok, k1.inj, k1.edge, fun x => ?_⟩
          rw [← k1.held x]
          constructor
          · rintro (h1 | ⟨h1, h2⟩)
            · exact .inl (.inr h1)
            · rcases List.mem_cons.1 h1 with rfl | h1
              · exact .inl (.inl rfl)
              · exact .inr ⟨h1, h2⟩
          · rintro ((rfl | h1) | ⟨h1, h2⟩)
            · exact .inr ⟨List.mem_cons_self, by simpa using hs⟩
            · exact .inl h1
            · exact .inr ⟨List.mem_cons_of_mem _ h1, h2⟩
        · rename_i q
          rw [if_neg q]
          exact fun P h1 h2 => ih P (fun x hx => hx.elim (fun e => e ▸ h2 i List.mem_cons_self (by simpa using hs)) (h1 x)) fun x hx => h2 x (List.mem_cons_of_mem _ hx)
      · simp only [hg, Bool.false_eq_true, if_false]
        exact fun P h1 h2 => h.short hw hi hdi (h2 i List.mem_cons_self (by simpa using hs)) h1 (by simpa using hg)
theorem allF_sat {wants : List (List Nat)} {bar : List Bool} {n : Nat} {skip : Nat → Bool} (hw : wOk wants n) {is : List Nat} (h1 : is.Nodup) (h2 : ∀ i ∈ is, i < wants.length) {sn : List Bool} (h : allF wants bar n skip is ⟨List.replicate wants.length (-1), List.replicate n (-1), sn⟩ = true) : Sat (WR wants bar) fun x => x ∈ is ∧ skip x = false := by
  have := allF_inv (skip := skip) hw is _ _ h1 h2 (fun _ _ h => h) (MInv.start wants bar n sn)
  rw [if_pos h] at this
  obtain ⟨m', hm⟩ := this
  exact hm.sat fun x hx => .inr hx
theorem allF_short {wants : List (List Nat)} {bar : List Bool} {n : Nat} {skip : Nat → Bool} (hw : wOk wants n) {is : List Nat} (h1 : is.Nodup) (h2 : ∀ i ∈ is, i < wants.length) {sn : List Bool} (h : ¬ allF wants bar n skip is ⟨List.replicate wants.length (-1), List.replicate n (-1), sn⟩ = true) : Short (WR wants bar) (fun x => x ∈ is ∧ skip x = false) n := by
  have := allF_inv (skip := skip) hw is _ _ h1 h2 (fun _ _ h => h) (MInv.start wants bar n sn)
  rw [if_neg h] at this
  exact this _ (fun _ h => h.elim) fun x hx hs => ⟨hx, hs⟩
theorem allF_iff {wants : List (List Nat)} {bar : List Bool} {n : Nat} {skip : Nat → Bool} (hw : wOk wants n) {is : List Nat} (h1 : is.Nodup) (h2 : ∀ i ∈ is, i < wants.length) {sn : List Bool} : allF wants bar n skip is ⟨List.replicate wants.length (-1), List.replicate n (-1), sn⟩ = true ↔ Sat (WR wants bar) fun x => x ∈ is ∧ skip x = false :=
  ⟨allF_sat hw h1 h2, fun h => Decidable.byContradiction fun q => (allF_short hw h1 h2 q).not_sat h⟩
/-- A crowd of a table of wants. -/
structure CrowdW (wants : List (List Nat)) (b : List Int) (l : List Nat) : Prop where
  len : b.length = l.length + 1
  lt : b.Pairwise (· < ·)
  ll : l.Pairwise (· < ·)
  mem : ∀ x ∈ b, ∃ i : Nat, x = (i : Int) ∧ i < wants.length ∧ wants.getD i [] ≠ [] ∧ ∀ j ∈ wants.getD i [], j ∈ l
theorem crowdL_none {E : List (List Nat)} {n : Nat} : ∀ (is : List Nat) (m : Mg), crowdL E n is m = none ↔ allF E (noB n) n (fun i => decide (E.getD i [] = [])) is m = true
  | [], m => by simp [crowdL, allF]
  | i :: is, m => by
    have ih := fun m => crowdL_none (E := E) (n := n) is m
    rw [allF_cons, crowdL]
    by_cases h1 : E.getD i [] = []
    · rw [if_pos h1, if_pos (by rw [h1]; rfl)]
      exact ih m
    · have h2 : ¬ decide (E.getD i [] = []) = true := fun q => h1 (of_decide_eq_true q)
      rw [if_neg h1]
      simp only [h2, if_false]
      by_cases h3 : (giveF E (noB n) (n + 1) i { m with seen := noB n }).1 = true
      · rw [if_pos h3, if_pos h3]
        exact ih _
      · rw [if_neg h3, if_neg h3]
        simp
theorem noB_get (n j : Nat) : (noB n).getD j false = false := by
  unfold noB
  rw [List.getD_eq_getElem?_getD, List.getElem?_replicate]
  split <;> rfl
theorem sorted_lt : ∀ {l : List Int}, l.Pairwise (· ≤ ·) → l.Nodup → l.Pairwise (· < ·)
  | [], _, _ => by simp
  | a :: l, h, hn => by
    obtain ⟨h1, h2⟩ := List.pairwise_cons.1 h
    obtain ⟨n1, n2⟩ := List.nodup_cons.1 hn
    exact List.pairwise_cons.2 ⟨fun x hx => by
      have := h1 x hx
      have : a ≠ x := fun q => n1 (q ▸ hx)
      omega, sorted_lt h2 n2⟩
theorem crowdL_some {E : List (List Nat)} {n : Nat} (hw : wOk E n) : ∀ (is : List Nat) (m : Mg) (D : Nat → Prop) {b : List Int} {l : List Nat}, is.Nodup → (∀ i ∈ is, i < E.length) → (∀ i ∈ is, ¬ D i) → (∀ i, D i → i < E.length) → MInv E (noB n) n D m → crowdL E n is m = some (b, l) → CrowdW E b l
  | [], _, _, _, _, _, _, _, _, _, h => by cases h
  | i :: is, m, D, b, l, hn, hr, hd, hdr, h, hc => by
    obtain ⟨n1, n2⟩ := List.nodup_cons.1 hn
    have hr2 := fun k hk => hr k (List.mem_cons_of_mem _ hk)
    have hi := hr i List.mem_cons_self
    have hdi := hd i List.mem_cons_self
    have hd2 : ∀ k ∈ is, ¬ D k := fun k hk => hd k (List.mem_cons_of_mem _ hk)
    unfold crowdL at hc
    split at hc
    · exact crowdL_some hw is m D n2 hr2 hd2 hdr h hc
    · rename_i hne
      split at hc
      · rename_i hg
        exact crowdL_some hw is _ _ n2 hr2 (fun k hk => by
          rintro (rfl | q)
          · exact n1 hk
          · exact hd2 k hk q) (fun k => by
          rintro (rfl | q)
          · exact hi
          · exact hdr k q) (h.step hw hi hdi hg) hc
      · rename_i hg
        obtain ⟨m', hm'⟩ : ∃ m', m' = (giveF E (noB n) (n + 1) i { m with seen := noB n }).2 := ⟨_, rfl⟩
        obtain ⟨f1, f2, f3⟩ := h.fail hw hi (by simpa using hg) hm'
        rw [← hm'] at hc
        injection hc with hc
        injection hc with c1 c2
        subst c1 c2
        have mt : ∀ j, j ∈ ((List.range n).filter fun j => m'.seen.getD j false) ↔ m'.tr j := fun j => by
          rw [List.mem_filter, List.mem_range]
          exact ⟨fun q => q.2, fun q => ⟨(f3 j q).1, q⟩⟩
        have ndT : ((List.range n).filter fun j => m'.seen.getD j false).Nodup := List.Pairwise.sublist List.filter_sublist List.nodup_range
        have ndB : ((i : Int) :: ((List.range n).filter fun j => m'.seen.getD j false).map fun j => m'.bu.getD j (-1)).Nodup := by
          refine List.nodup_cons.2 ⟨fun q => ?_, nodup_map ndT fun s hs t ht he => ?_⟩
          · obtain ⟨t, ht, e⟩ := List.mem_map.1 q
            have e' : m'.ho t = (i : Int) := e
            exact hdi ((h.held i).2 ⟨t, by rw [← f1]; exact e'⟩)
          · have e' : m'.ho s = m'.ho t := he
            rw [f1, f1] at e'
            obtain ⟨_, x, hx, _⟩ := f3 s ((mt s).1 hs)
            exact h.inj s t e' (by rw [hx]; omega)
        have wr : ∀ x j, WR E (noB n) x j ↔ j ∈ E.getD x [] := fun x j => ⟨fun q => q.1, fun q => ⟨q, noB_get n j⟩⟩
        refine ⟨by rw [sortN_len]; simp, sorted_lt (sortN_sorted _) ((sortN_perm _).nodup_iff.2 ndB), List.Pairwise.sublist List.filter_sublist List.pairwise_lt_range, fun x hx => ?_⟩
        rcases List.mem_cons.1 ((sortN_perm _).mem_iff.1 hx) with rfl | hx
        · exact ⟨i, rfl, hi, hne, fun j hj => (mt j).2 (f2 j ((wr i j).2 hj))⟩
        · obtain ⟨t, ht, rfl⟩ := List.mem_map.1 hx
          obtain ⟨_, x, h1, h2, h3, h4⟩ := f3 t ((mt t).1 ht)
          have e : m'.bu.getD t (-1) = (x : Int) := (f1 t).trans h1
          exact ⟨x, e, hdr x h2, (fun q => by have := (wr x t).1 h3; rw [q] at this; cases this), fun j hj => (mt j).2 (h4 j ((wr x j).2 hj))⟩
end Go.Proofs.YtojednnciknhpaaDoor
