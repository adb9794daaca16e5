/- Slices that read as lists of encoded elements; own rows of such. No function of the program in sight. The generator: next, Draw, below, Below. below, Below: a number below m. -/
import Derived.OwnWalk
import Derived.Deep.AppendLies
import Derived.Deep.Onto
import Derived.Laws.OwnMore
import Derived.Laws.BitsAllLaws
import Derived.Test.YtepldjidkomclaaGreatJATree0
namespace Go.Proofs.YtepldjidkomclaaGreat.St
set_option linter.unusedSimpArgs false
set_option linter.unusedVariables false
open Go.RowKit
section
variable {α : Type} {enc : α → List Value} {sz : Nat}
def flatE (enc : α → List Value) (l : List α) : List Value := l.flatMap enc
theorem flatE_snoc (l : List α) (a : α) : flatE enc (l ++ [a]) = flatE enc l ++ enc a := by simp [flatE]
theorem flatE_cons (l : List α) (a : α) : flatE enc (a :: l) = enc a ++ flatE enc l := by simp [flatE]
theorem flatE_length (h : ∀ a, (enc a).length = sz) (l : List α) : (flatE enc l).length = l.length * sz := by
  induction l with
  | nil => simp [flatE]
  | cons a l ih => rw [flatE_cons, List.length_append, h, ih, List.length_cons, Nat.succ_mul, Nat.add_comm]
theorem flatE_get (h : ∀ a, (enc a).length = sz) : ∀ (l : List α) (k : Nat) (hk : k < l.length) (j : Nat), j < sz → (flatE enc l)[k * sz + j]? = (enc l[k])[j]?
  | [], k, hk, _, _ => absurd hk (by simp)
  | a :: l, 0, _, j, hj => by rw [flatE_cons, Nat.zero_mul, Nat.zero_add, List.getElem?_append_left (by rw [h]; exact hj)]; rfl
  | a :: l, k + 1, hk, j, hj => by
    rw [flatE_cons, List.getElem?_append_right (by rw [h, Nat.succ_mul]; omega), h, show (k + 1) * sz + j - sz = k * sz + j by rw [Nat.succ_mul]; omega, flatE_get h l k (by simpa using hk) j hj]
    rfl
theorem flatE_set_last (h : ∀ a, (enc a).length = sz) (L : List α) (q : α) (j : Nat) (u : Value) : (flatE enc (L ++ [q])).set (L.length * sz + j) u = flatE enc L ++ (enc q).set j u := by
  rw [flatE_snoc, List.set_append_right _ _ (by rw [flatE_length h]; omega), flatE_length h, Nat.add_sub_cancel_left]
def ReadsE (enc : α → List Value) (sz : Nat) (w : World) (v : Value) (l : List α) : Prop :=
  l.length ≤ 9223372036854775807 ∧ ∃ p cap b off, v = .slice p l.length cap ∧ (0 < l.length → p = some ⟨b, off, none⟩ ∧ b < w.heap.size) ∧
    ∀ (k : Nat) (hk : k < l.length) (j : Nat), j < sz → w.cell? ⟨b, off + k * sz + j, none⟩ = (enc l[k])[j]?
theorem ReadsE.below {w w' : World} {v : Value} {l : List α} (h : ReadsE enc sz w v l) (hb : Below w.heap.size w w') : ReadsE enc sz w' v l := by
  obtain ⟨hm, p, cap, b, off, hv, hp, hc⟩ := h
  exact ⟨hm, p, cap, b, off, hv, fun h0 => ⟨(hp h0).1, Nat.lt_of_lt_of_le (hp h0).2 hb.size⟩, fun k hk j hj => (hb.cell (p := ⟨b, off + k * sz + j, none⟩) (hp (by omega)).2).trans (hc k hk j hj)⟩
theorem ReadsE.drewN {w : World} {v : Value} {l : List α} (h : ReadsE enc sz w v l) (n : Nat) : ReadsE enc sz (w.drewN n) v l := h
theorem ReadsE.alloc {w : World} {v : Value} {l : List α} (h : ReadsE enc sz w v l) (o : Obj) : ReadsE enc sz (w.alloc o) v l := h.below ((Below.refl _ _).alloc (Nat.le_refl _) _)
theorem ReadsE.nil (w : World) (p : Option Addr) (cap : Nat) : ReadsE enc sz w (.slice p 0 cap) ([] : List α) := ⟨by simp, p, cap, 0, 0, rfl, fun h => absurd h (by simp), fun k hk => absurd hk (by simp)⟩
def OwnE (enc : α → List Value) (sz : Nat) (e : TypeId) (B : Nat) (w : World) (v : Value) (l : List α) : Prop := w.ownsRow B e sz v l.length (flatE enc l)
variable {e : TypeId}
theorem OwnE.nil (B : Nat) (w : World) : OwnE enc sz e B w (.slice none 0 0) ([] : List α) := ⟨by simp [flatE], .inl ⟨rfl, rfl⟩⟩
theorem ownsRow_moved {w w' : World} {B : Nat} {e : TypeId} {size : Nat} {v : Value} {n : Nat} {xs : List Value} (h : w.ownsRow B e size v n xs) (hb : ∀ (b : Nat) (cs : Array Value), B ≤ b → w.heap[b]? = some (Obj.cells cs e) → w'.heap[b]? = w.heap[b]?) : w'.ownsRow B e size v n xs := by
  refine ⟨h.1, h.2.imp id ?_⟩
  rintro ⟨g, c, cur, h1, h2, h3, h4⟩
  exact ⟨g, c, cur, h1, h2, (hb g cur h2 h3).trans h3, h4⟩
theorem OwnE.moved {B : Nat} {w w' : World} {v : Value} {l : List α} (h : OwnE enc sz e B w v l) (hb : ∀ (b : Nat) (cs : Array Value), B ≤ b → w.heap[b]? = some (Obj.cells cs e) → w'.heap[b]? = w.heap[b]?) : OwnE enc sz e B w' v l := ownsRow_moved h hb
theorem OwnE.below {B : Nat} {W W' : World} {v : Value} {l : List α} (h : OwnE enc sz e B W v l) (hb : Below W.heap.size W W') : OwnE enc sz e B W' v l :=
  ownsRow_moved h fun b cs _ hb' => hb.block b (Array.getElem?_eq_some_iff.1 hb').1
theorem OwnE.alloc {B : Nat} {W : World} {v : Value} {l : List α} (h : OwnE enc sz e B W v l) (o : Obj) : OwnE enc sz e B (W.alloc o) v l := h.below ((Below.refl _ _).alloc (Nat.le_refl _) _)
theorem OwnE.drewN {B : Nat} {W : World} {v : Value} {l : List α} (h : OwnE enc sz e B W v l) (n : Nat) : OwnE enc sz e B (W.drewN n) v l := ownsRow_moved h fun _ _ _ _ => rfl
theorem OwnE.drew {B : Nat} {W : World} {v : Value} {l : List α} (h : OwnE enc sz e B W v l) : OwnE enc sz e B W.drew v l := ownsRow_moved h fun _ _ _ _ => rfl
theorem OwnE.mono {B B' : Nat} {W : World} {v : Value} {l : List α} (h : OwnE enc sz e B W v l) (hb : B' ≤ B) : OwnE enc sz e B' W v l := World.ownsRow.mono h hb
theorem OwnE.form {B : Nat} {W : World} {v : Value} {l : List α} (h : OwnE enc sz e B W v l) : ∃ p cap, v = .slice p l.length cap ∧ (p = none ∧ l = [] ∨ ∃ g, p = some ⟨g, 0, none⟩ ∧ B ≤ g ∧ g < W.heap.size) := by
  rcases h.2 with ⟨h1, h2⟩ | ⟨g, cap, cur, hv, hb, hg, _⟩
  · exact ⟨none, 0, by rw [h1, h2], .inl ⟨rfl, List.length_eq_zero_iff.1 h2⟩⟩
  · exact ⟨_, cap, hv, .inr ⟨g, rfl, hb, (Array.getElem?_eq_some_iff.1 hg).1⟩⟩
theorem OwnE.reads (hlen : ∀ a, (enc a).length = sz) {B : Nat} {W : World} {v : Value} {l : List α} (h : OwnE enc sz e B W v l) (hm : l.length ≤ 9223372036854775807) : ReadsE enc sz W v l := by
  rcases h.2 with ⟨h1, h2⟩ | ⟨g, cap, cur, hv, hb, hg, h3⟩
  · have : l = [] := List.length_eq_zero_iff.1 h2
    subst this; subst h1
    exact ReadsE.nil _ _ _
  · subst hv
    refine ⟨hm, _, cap, g, 0, rfl, fun _ => ⟨rfl, (Array.getElem?_eq_some_iff.1 hg).1⟩, fun k hk j hj => ?_⟩
    rw [Nat.zero_add, World.ownsRow.cellAt h _ (by have : k * sz + sz ≤ l.length * sz := by { rw [← Nat.succ_mul]; exact Nat.mul_le_mul_right _ hk }; omega), flatE_get hlen l k hk j hj]
theorem ownsRow_isCells {w : World} {base : Nat} {e : TypeId} {size : Nat} {v : Value} {n : Nat} {xs : List Value} (h : w.ownsRow base e size v n xs) : ∀ r, v.ownBlock = some r → ∃ cs t fr, w.heap[r]? = some (Obj.cells cs t fr) := by
  intro r hr
  rcases h.2 with ⟨h1, _⟩ | ⟨g, c, cur, h1, _, h3, _⟩
  · rw [h1] at hr; cases hr
  · rw [h1] at hr; simp only [Value.ownBlock, Option.some.injEq] at hr; subst hr; exact ⟨_, _, _, h3⟩
end
theorem drewN_below {B : Nat} {a w : World} (h : Below B a w) (k : Nat) : Below B a (w.drewN k) := ⟨h.os, h.tape, h.output, h.size, h.block⟩
theorem new_block (w : World) (k : Nat) (cs : Array Value) (t : TypeId) : ((w.drewN k).alloc (.cells cs t)).heap[w.heap.size]? = some (.cells cs t (0, 0)) := heap_alloc_new (w.drewN k) _
theorem Cells.drewN {w : World} {B : Nat} {cs : Array Value} {ty : TypeId} (h : Cells w B cs ty) (k : Nat) : Cells (w.drewN k) B cs ty := h
theorem news_of {w : World} {B : Nat} {cs : Array Value} {t : TypeId} (h : Cells w B cs t) : ∀ j u, cs.toList[j]? = some u → w.cell? ((⟨B, 0, none⟩ : Addr).add j) = some u := World.news_of_block h
end Go.Proofs.YtepldjidkomclaaGreat.St
namespace Go.Proofs.YtepldjidkomclaaGreat.St
set_option linter.unusedSimpArgs false
set_option linter.unusedVariables false
open Go.RowKit
attribute [local go_sem] Oper.semAt_some
def drawS (x : Nat) : Nat := (x + 11400714819323198485) % 18446744073709551616
def mix1 (x : Nat) : Nat := ((x ^^^ x / 1073741824) * 13787848793156543929) % 18446744073709551616
def mix2 (x : Nat) : Nat := ((x ^^^ x / 134217728) * 10723151780598845931) % 18446744073709551616
def mix3 (x : Nat) : Nat := x ^^^ x / 2147483648
def drawZ (x : Nat) : Nat := mix3 (mix2 (mix1 (drawS x)))
theorem drawS_lt (x : Nat) : drawS x < 18446744073709551616 := Nat.mod_lt _ (by decide)
def takes (m z : Nat) : Prop := z + 18446744073709551616 % m < 18446744073709551616
instance (m z : Nat) : Decidable (takes m z) := by unfold takes; infer_instance
inductive BelR (m : Nat) : Nat → Nat → Nat → Prop
  | hit (x : Nat) (h : takes m (drawZ x)) : BelR m x (drawS x) (drawZ x % m)
  | miss (x y r : Nat) (h : ¬ takes m (drawZ x)) (h2 : BelR m (drawS x) y r) : BelR m x y r
theorem BelR.lt {m x y r : Nat} (h : BelR m x y r) (hm : 0 < m) : y < 18446744073709551616 ∧ r < m := by
  induction h with
  | hit x h => exact ⟨drawS_lt x, Nat.mod_lt _ hm⟩
  | miss x y r _ _ ih => exact ih
theorem BelR.same {m x y r y' r' : Nat} (h : BelR m x y r) (h' : BelR m x y' r') : y = y' ∧ r = r' := by
  induction h generalizing y' r' with
  | hit x h =>
    cases h' with
    | hit => exact ⟨rfl, rfl⟩
    | miss _ _ _ h2 => exact absurd h h2
  | miss x y r h _ ih =>
    cases h' with
    | hit _ h2 => exact absurd h2 h
    | miss _ _ _ _ h3 => exact ih h3
end Go.Proofs.YtepldjidkomclaaGreat.St
namespace Go.Proofs.YtepldjidkomclaaGreat.St
set_option linter.unusedSimpArgs false
set_option linter.unusedVariables false
open Go.RowKit
attribute [local go_sem] Oper.semAt_some
end Go.Proofs.YtepldjidkomclaaGreat.St
