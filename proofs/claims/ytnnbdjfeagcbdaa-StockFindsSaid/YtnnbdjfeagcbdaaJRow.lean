/- Slices that read as lists of encoded elements; own rows of such. No function of the program in sight. The generator: next, Draw, below, Below. below, Below: a number below m. -/
import Derived.OwnWalk
import Derived.Deep.AppendLies
import Derived.Deep.Onto
import Derived.Laws.OwnMore
import Derived.Laws.BitsAllLaws
import Derived.Test.YtnnbdjfeagcbdaaJTree0
namespace Go.Proofs.Ytnnbdjfeagcbdaa
set_option linter.unusedSimpArgs false
set_option linter.unusedVariables false
open Go.RowKit

section
variable {α : Type} {enc : α → List Value} {sz : Nat}
/-- The cells of a list, one element behind the other. -/
def flatE (enc : α → List Value) (l : List α) : List Value := l.flatMap enc
theorem flatE_nil : flatE enc [] = [] := rfl
theorem flatE_append (l m : List α) : flatE enc (l ++ m) = flatE enc l ++ flatE enc m := by simp [flatE]
theorem flatE_snoc (l : List α) (a : α) : flatE enc (l ++ [a]) = flatE enc l ++ enc a := by simp [flatE]
theorem flatE_cons (l : List α) (a : α) : flatE enc (a :: l) = enc a ++ flatE enc l := by simp [flatE]
theorem flatE_length (h : ∀ a, (enc a).length = sz) (l : List α) : (flatE enc l).length = l.length * sz := by
  induction l with
  | nil => simp [flatE]
  | cons a l ih => rw [flatE_cons, List.length_append, h, ih, List.length_cons, Nat.succ_mul, Nat.add_comm]
theorem flatE_get (h : ∀ a, (enc a).length = sz) : ∀ (l : List α) (k : Nat) (hk : k < l.length) (j : Nat), j < sz → (flatE enc l)[k * sz + j]? = (enc l[k])[j]?
  | [], k, hk, _, _ => absurd hk (by simp)
  | a :: l, 0, _, j, hj => by rw [flatE_cons, Nat.zero_mul, Nat.zero_add, List.getElem?_append_left (by rw [h]; exact hj)]; rfl
  | a :: l, k + 1, hk, j, hj => by
    rw [flatE_cons, List.getElem?_append_right (by rw [h, Nat.succ_mul]; omega), h, show (k + 1) * sz + j - sz = k * sz + j by rw [Nat.succ_mul]; omega, flatE_get h l k (by simpa using hk) j hj]
    rfl
theorem flatE_set_last (h : ∀ a, (enc a).length = sz) (L : List α) (q : α) (j : Nat) (u : Value) : (flatE enc (L ++ [q])).set (L.length * sz + j) u = flatE enc L ++ (enc q).set j u := by
  rw [flatE_snoc, List.set_append_right _ _ (by rw [flatE_length h]; omega), flatE_length h, Nat.add_sub_cancel_left]

/-- A slice value that reads as a list of elements. -/
def ReadsE (enc : α → List Value) (sz : Nat) (w : World) (v : Value) (l : List α) : Prop :=
  l.length ≤ 9223372036854775807 ∧ ∃ p cap b off, v = .slice p l.length cap ∧ (0 < l.length → p = some ⟨b, off, none⟩ ∧ b < w.heap.size) ∧
    ∀ (k : Nat) (hk : k < l.length) (j : Nat), j < sz → w.cell? ⟨b, off + k * sz + j, none⟩ = (enc l[k])[j]?
theorem ReadsE.below {w w' : World} {v : Value} {l : List α} (h : ReadsE enc sz w v l) (hb : Below w.heap.size w w') : ReadsE enc sz w' v l := by
  obtain ⟨hm, p, cap, b, off, hv, hp, hc⟩ := h
  exact ⟨hm, p, cap, b, off, hv, fun h0 => ⟨(hp h0).1, Nat.lt_of_lt_of_le (hp h0).2 hb.size⟩, fun k hk j hj => (hb.cell (p := ⟨b, off + k * sz + j, none⟩) (hp (by omega)).2).trans (hc k hk j hj)⟩
theorem ReadsE.drewN {w : World} {v : Value} {l : List α} (h : ReadsE enc sz w v l) (n : Nat) : ReadsE enc sz (w.drewN n) v l := h
theorem ReadsE.alloc {w : World} {v : Value} {l : List α} (h : ReadsE enc sz w v l) (o : Obj) : ReadsE enc sz (w.alloc o) v l := h.below ((Below.refl _ _).alloc (Nat.le_refl _) _)
theorem ReadsE.nil (w : World) (p : Option Addr) (cap : Nat) : ReadsE enc sz w (.slice p 0 cap) ([] : List α) := ⟨by simp, p, cap, 0, 0, rfl, fun h => absurd h (by simp), fun k hk => absurd hk (by simp)⟩

/-- A slice in an own row from block B on. -/
def OwnE (enc : α → List Value) (sz : Nat) (e : TypeId) (B : Nat) (w : World) (v : Value) (l : List α) : Prop := w.ownsRow B e sz v l.length (flatE enc l)
variable {e : TypeId}
theorem OwnE.nil (B : Nat) (w : World) : OwnE enc sz e B w (.slice none 0 0) ([] : List α) := ⟨by simp [flatE], .inl ⟨rfl, rfl⟩⟩
theorem ownsRow_moved {w w' : World} {B : Nat} {e : TypeId} {size : Nat} {v : Value} {n : Nat} {xs : List Value} (h : w.ownsRow B e size v n xs) (hb : ∀ (b : Nat) (cs : Array Value), B ≤ b → w.heap[b]? = some (Obj.cells cs e) → w'.heap[b]? = w.heap[b]?) : w'.ownsRow B e size v n xs := by
  refine ⟨h.1, h.2.imp id ?_⟩
  rintro ⟨g, c, cur, h1, h2, h3, h4⟩
  exact ⟨g, c, cur, h1, h2, (hb g cur h2 h3).trans h3, h4⟩
theorem OwnE.moved {B : Nat} {w w' : World} {v : Value} {l : List α} (h : OwnE enc sz e B w v l) (hb : ∀ (b : Nat) (cs : Array Value), B ≤ b → w.heap[b]? = some (Obj.cells cs e) → w'.heap[b]? = w.heap[b]?) : OwnE enc sz e B w' v l := ownsRow_moved h hb
theorem OwnE.below {B : Nat} {W W' : World} {v : Value} {l : List α} (h : OwnE enc sz e B W v l) (hb : Below W.heap.size W W') : OwnE enc sz e B W' v l :=
  ownsRow_moved h fun b cs _ hb' => hb.block b (Array.getElem?_eq_some_iff.1 hb').1
theorem OwnE.alloc {B : Nat} {W : World} {v : Value} {l : List α} (h : OwnE enc sz e B W v l) (o : Obj) : OwnE enc sz e B (W.alloc o) v l := h.below ((Below.refl _ _).alloc (Nat.le_refl _) _)
theorem OwnE.drewN {B : Nat} {W : World} {v : Value} {l : List α} (h : OwnE enc sz e B W v l) (n : Nat) : OwnE enc sz e B (W.drewN n) v l := ownsRow_moved h fun _ _ _ _ => rfl
theorem OwnE.drew {B : Nat} {W : World} {v : Value} {l : List α} (h : OwnE enc sz e B W v l) : OwnE enc sz e B W.drew v l := ownsRow_moved h fun _ _ _ _ => rfl
theorem OwnE.mono {B B' : Nat} {W : World} {v : Value} {l : List α} (h : OwnE enc sz e B W v l) (hb : B' ≤ B) : OwnE enc sz e B' W v l := World.ownsRow.mono h hb
/-- What a value looks like that owns a row, nil or not. -/
theorem OwnE.form {B : Nat} {W : World} {v : Value} {l : List α} (h : OwnE enc sz e B W v l) : ∃ p cap, v = .slice p l.length cap ∧ (p = none ∧ l = [] ∨ ∃ g, p = some ⟨g, 0, none⟩ ∧ B ≤ g ∧ g < W.heap.size) := by
  rcases h.2 with ⟨h1, h2⟩ | ⟨g, cap, cur, hv, hb, hg, _⟩
  · exact ⟨none, 0, by rw [h1, h2], .inl ⟨rfl, List.length_eq_zero_iff.1 h2⟩⟩
  · exact ⟨_, cap, hv, .inr ⟨g, rfl, hb, (Array.getElem?_eq_some_iff.1 hg).1⟩⟩
theorem OwnE.reads (hlen : ∀ a, (enc a).length = sz) {B : Nat} {W : World} {v : Value} {l : List α} (h : OwnE enc sz e B W v l) (hm : l.length ≤ 9223372036854775807) : ReadsE enc sz W v l := by
  rcases h.2 with ⟨h1, h2⟩ | ⟨g, cap, cur, hv, hb, hg, h3⟩
  · have : l = [] := List.length_eq_zero_iff.1 h2
    subst this; subst h1
    exact ReadsE.nil _ _ _
  · subst hv
    refine ⟨hm, _, cap, g, 0, rfl, fun _ => ⟨rfl, (Array.getElem?_eq_some_iff.1 hg).1⟩, fun k hk j hj => ?_⟩
    rw [Nat.zero_add, World.ownsRow.cellAt h _ (by have : k * sz + sz ≤ l.length * sz := by { rw [← Nat.succ_mul]; exact Nat.mul_le_mul_right _ hk }; omega), flatE_get hlen l k hk j hj]
theorem ownsRow_isCells {w : World} {base : Nat} {e : TypeId} {size : Nat} {v : Value} {n : Nat} {xs : List Value} (h : w.ownsRow base e size v n xs) : ∀ r, v.ownBlock = some r → ∃ cs t fr, w.heap[r]? = some (Obj.cells cs t fr) := by
  intro r hr
  rcases h.2 with ⟨h1, _⟩ | ⟨g, c, cur, h1, _, h3, _⟩
  · rw [h1] at hr; cases hr
  · rw [h1] at hr; simp only [Value.ownBlock, Option.some.injEq] at hr; subst hr; exact ⟨_, _, _, h3⟩
end
theorem drewN_below {B : Nat} {a w : World} (h : Below B a w) (k : Nat) : Below B a (w.drewN k) := ⟨h.os, h.tape, h.output, h.size, h.block⟩
theorem new_block (w : World) (k : Nat) (cs : Array Value) (t : TypeId) : ((w.drewN k).alloc (.cells cs t)).heap[w.heap.size]? = some (.cells cs t (0, 0)) := heap_alloc_new (w.drewN k) _
theorem Cells.drewN {w : World} {B : Nat} {cs : Array Value} {ty : TypeId} (h : Cells w B cs ty) (k : Nat) : Cells (w.drewN k) B cs ty := h
/-- The new cells of an append, read out of their block. -/
theorem news_of {w : World} {B : Nat} {cs : Array Value} {t : TypeId} (h : Cells w B cs t) : ∀ j u, cs.toList[j]? = some u → w.cell? ((⟨B, 0, none⟩ : Addr).add j) = some u := World.news_of_block h
theorem news_at {w : World} {B : Nat} {cs : Array Value} {t : TypeId} (h : Cells w B cs t) : ∀ j u, cs.toList[j]? = some u → w.cell? ⟨B, j, none⟩ = some u := fun j u hu => by
  rw [h.cell]; simpa using hu
end Go.Proofs.Ytnnbdjfeagcbdaa
namespace Go.Proofs.Ytnnbdjfeagcbdaa
set_option linter.unusedSimpArgs false
set_option linter.unusedVariables false
open Go.RowKit
attribute [local go_sem] Oper.semAt_some

/-- The state after a step, and the number that it gives. -/
def drawS (x : Nat) : Nat := (x + 11400714819323198485) % 18446744073709551616
def mix1 (x : Nat) : Nat := ((x ^^^ x / 1073741824) * 13787848793156543929) % 18446744073709551616
def mix2 (x : Nat) : Nat := ((x ^^^ x / 134217728) * 10723151780598845931) % 18446744073709551616
def mix3 (x : Nat) : Nat := x ^^^ x / 2147483648
def drawZ (x : Nat) : Nat := mix3 (mix2 (mix1 (drawS x)))
theorem xor_lt64 (x k : Nat) (h : x < 18446744073709551616) : x ^^^ x / k < 18446744073709551616 :=
  Nat.xor_lt_two_pow (n := 64) h (Nat.lt_of_le_of_lt (Nat.div_le_self _ _) h)
theorem drawS_lt (x : Nat) : drawS x < 18446744073709551616 := Nat.mod_lt _ (by decide)
theorem mix1_lt (x : Nat) : mix1 x < 18446744073709551616 := Nat.mod_lt _ (by decide)
theorem mix2_lt (x : Nat) : mix2 x < 18446744073709551616 := Nat.mod_lt _ (by decide)
theorem drawZ_lt (x : Nat) : drawZ x < 18446744073709551616 := xor_lt64 _ _ (mix2_lt _)
/-- What the walk meets, one word after the other. -/
theorem draw_facts (x : Nat) : ∃ a a1 a2 b b1 b2 c c1 d : Nat, a = drawS x ∧ d = drawZ x ∧ (a < 18446744073709551616 ∧ b < 18446744073709551616 ∧ c < 18446744073709551616 ∧ d < 18446744073709551616) ∧
    IntKind.u64.wrap ((x : Int) + 11400714819323198485) = (a : Int) ∧ (a : Int) / 1073741824 = (a1 : Int) ∧ bits .xor .u64 (a : Int) (a1 : Int) = (a2 : Int) ∧
    IntKind.u64.wrap ((a2 : Int) * 13787848793156543929) = (b : Int) ∧ (b : Int) / 134217728 = (b1 : Int) ∧ bits .xor .u64 (b : Int) (b1 : Int) = (b2 : Int) ∧
    IntKind.u64.wrap ((b2 : Int) * 10723151780598845931) = (c : Int) ∧ (c : Int) / 2147483648 = (c1 : Int) ∧ bits .xor .u64 (c : Int) (c1 : Int) = (d : Int) := by
  have ha := drawS_lt x
  have hb := mix1_lt (drawS x)
  have hc := mix2_lt (mix1 (drawS x))
  have lt (y k : Nat) (h : y < 18446744073709551616) : y / k < 18446744073709551616 := Nat.lt_of_le_of_lt (Nat.div_le_self _ _) h
  refine ⟨drawS x, drawS x / 1073741824, drawS x ^^^ drawS x / 1073741824, mix1 (drawS x), mix1 (drawS x) / 134217728, mix1 (drawS x) ^^^ mix1 (drawS x) / 134217728, mix2 (mix1 (drawS x)), mix2 (mix1 (drawS x)) / 2147483648, drawZ x, rfl, rfl, ⟨ha, hb, hc, drawZ_lt x⟩, ?_, rfl, ?_, ?_, rfl, ?_, ?_, rfl, ?_⟩
  · rw [IntKind.wrap_u64]; unfold drawS; omega
  · exact u64_xor_nat _ _ ha (lt _ _ ha)
  · rw [IntKind.wrap_u64, mix1]; simp
  · exact u64_xor_nat _ _ hb (lt _ _ hb)
  · rw [IntKind.wrap_u64, mix2]; simp
  · exact u64_xor_nat _ _ hc (lt _ _ hc)

set_option maxHeartbeats 1000000 in
theorem rdraw_calls (x : Nat) (hx : x < 18446744073709551616) (w : World) :
    Calls Try.prog 95 #[.int .u64 x] w fun e w' => e = .returned (.tuple #[.int .u64 (drawS x : Nat), .int .u64 (drawZ x : Nat)]) ∧ w' = w := by
  obtain ⟨a, a1, a2, b, b1, b2, c, c1, d, ea, ed, bb, f1, f2, f3, f4, f5, f6, f7, f8, f9⟩ := draw_facts x
  rw [← ea, ← ed]
  obtain ⟨g1, g2, g3, g4⟩ := bb
  clear ea ed
  go_enter Try.func95, Try.ntmps95
  go_wp2
  refine bodyPost_ret (v := .tuple #[.int .u64 (a : Int), .int .u64 (d : Int)]) (by simp [results, Try.results95, go_sem]) rfl ⟨rfl, rfl⟩

set_option maxHeartbeats 1000000 in
theorem next_calls (x : Nat) (hx : x < 18446744073709551616) (B : Nat) (w : World) (h0 : w.cell? ⟨B, 0, none⟩ = some (.int .u64 x)) (hf : w.frozen? ⟨B, 0, none⟩ = false) :
    Calls Try.prog 94 #[.pointer (some ⟨B, 0, none⟩)] w fun e w' => e = .returned (.int .u64 (drawZ x : Nat)) ∧ w' = w.setCell ⟨B, 0, none⟩ (.int .u64 (drawS x : Nat)) := by
  obtain ⟨a, a1, a2, b, b1, b2, c, c1, d, ea, ed, bb, f1, f2, f3, f4, f5, f6, f7, f8, f9⟩ := draw_facts x
  rw [← ea, ← ed]
  obtain ⟨g1, g2, g3, g4⟩ := bb
  have hlt := World.block_lt_of_cell? _ _ h0
  clear ea ed
  go_enter Try.func94, Try.ntmps94
  go_wp2
  go_ret
  exact ⟨rfl, rfl⟩

/-- A number is used. -/
def takes (m z : Nat) : Prop := z + 18446744073709551616 % m < 18446744073709551616
instance (m z : Nat) : Decidable (takes m z) := by unfold takes; infer_instance
/-- The state and the number that drawing below m comes to. -/
inductive BelR (m : Nat) : Nat → Nat → Nat → Prop
  | hit (x : Nat) (h : takes m (drawZ x)) : BelR m x (drawS x) (drawZ x % m)
  | miss (x y r : Nat) (h : ¬ takes m (drawZ x)) (h2 : BelR m (drawS x) y r) : BelR m x y r
theorem BelR.lt {m x y r : Nat} (h : BelR m x y r) (hm : 0 < m) : y < 18446744073709551616 ∧ r < m := by
  induction h with
  | hit x h => exact ⟨drawS_lt x, Nat.mod_lt _ hm⟩
  | miss x y r _ _ ih => exact ih
theorem BelR.same {m x y r y' r' : Nat} (h : BelR m x y r) (h' : BelR m x y' r') : y = y' ∧ r = r' := by
  induction h generalizing y' r' with
  | hit x h =>
    cases h' with
    | hit => exact ⟨rfl, rfl⟩
    | miss _ _ _ h2 => exact absurd h h2
  | miss x y r h _ ih =>
    cases h' with
    | hit _ h2 => exact absurd h2 h
    | miss _ _ _ _ h3 => exact ih h3
/-- How many steps it is from a state to 0. -/
def dist (s : Nat) : Nat := ((18446744073709551616 - s) * 17428512612931826493) % 18446744073709551616
theorem dist_int (s : Nat) (h : s ≤ 18446744073709551616) : (dist s : Int) = (18446744073709551616 - (s : Int)) * 17428512612931826493 % 18446744073709551616 := by
  unfold dist
  rw [Int.natCast_emod, Int.natCast_mul, Int.natCast_sub h]
  simp
theorem inv64 : (17428512612931826493 * 11400714819323198485 : Int) = 1 + 18446744073709551616 * 10771413168148108919 := by simp
theorem inv_mul (t q X K G M : Int) (e1 : t * X = M * q) (h : X * G = 1 + M * K) : t = M * (q * G - t * K) := by
  have e2 : t * X * G = M * q * G := by rw [e1]
  rw [Int.mul_assoc, h, Int.mul_add, Int.mul_one] at e2
  have e4 : M * (q * G - t * K) = M * q * G - t * (M * K) := by rw [Int.mul_sub, ← Int.mul_assoc, Int.mul_left_comm]
  rw [e4, ← e2]; omega
theorem no_mult (t z : Int) (e3 : t = 18446744073709551616 * z) (h1 : 0 < t) (h2 : t < 18446744073709551616) : False := by omega
theorem step_mul (t q r u : Int) (e1 : t * 17428512612931826493 = 18446744073709551616 * q + r) (h : u = t - 11400714819323198485) : u * 17428512612931826493 = (r - 1) + 18446744073709551616 * (q - 10771413168148108919) := by
  subst h; rw [Int.sub_mul, e1]; omega
theorem step_mul2 (t q r u : Int) (e1 : t * 17428512612931826493 = 18446744073709551616 * q + r) (h : u = t - 11400714819323198485 + 18446744073709551616) : u * 17428512612931826493 = (r - 1) + 18446744073709551616 * (q - 10771413168148108919 + 17428512612931826493) := by
  subst h; rw [Int.add_mul, Int.sub_mul, e1]; omega
theorem rem_step (r q : Int) (u : Int) (r1 : 0 < r) (r2 : r < 18446744073709551616) (e : u = (r - 1) + 18446744073709551616 * q) : u % 18446744073709551616 = r - 1 := by
  rw [e, Int.add_mul_emod_self_left]
  exact Int.emod_eq_of_lt (by omega) (by omega)
theorem dist_core (t u : Int) (t0 : 0 < t) (t1 : t < 18446744073709551616) (hc : u = t - 11400714819323198485 ∨ u = t - 11400714819323198485 + 18446744073709551616) :
    u * 17428512612931826493 % 18446744073709551616 = t * 17428512612931826493 % 18446744073709551616 - 1 := by
  obtain ⟨q, hq⟩ : ∃ q, q = t * 17428512612931826493 / 18446744073709551616 := ⟨_, rfl⟩
  obtain ⟨r, hr⟩ : ∃ r, r = t * 17428512612931826493 % 18446744073709551616 := ⟨_, rfl⟩
  have e1 : t * 17428512612931826493 = 18446744073709551616 * q + r := by rw [hq, hr]; exact (Int.mul_ediv_add_emod _ _).symm
  have r0 : 0 ≤ r := by rw [hr]; exact Int.emod_nonneg _ (by decide)
  have r2 : r < 18446744073709551616 := by rw [hr]; exact Int.emod_lt_of_pos _ (by decide)
  rw [← hr]
  have r1 : r ≠ 0 := by
    intro h0
    rw [h0, Int.add_zero] at e1
    exact no_mult t _ (inv_mul t q _ _ _ _ e1 inv64) t0 t1
  have r3 : 0 < r := by clear e1 hr hq hc; omega
  rcases hc with h | h
  · exact rem_step r _ _ r3 r2 (step_mul t q r u e1 h)
  · exact rem_step r _ _ r3 r2 (step_mul2 t q r u e1 h)
theorem dist_pos (d e : Nat) (x : Int) (h1 : (d : Int) = x) (h2 : (e : Int) = x - 1) : e < d := by omega
theorem dist_step (s : Nat) (h0 : s ≠ 0) (h : s < 18446744073709551616) : dist (drawS s) < dist s := by
  have hlt := drawS_lt s
  refine dist_pos _ _ _ (dist_int s (Nat.le_of_lt h)) ?_
  rw [dist_int _ (Nat.le_of_lt hlt)]
  exact dist_core _ _ (by clear hlt; omega) (by clear hlt; omega) (by unfold drawS; omega)
theorem drawZ_zero (x : Nat) (h : drawS x = 0) : drawZ x = 0 := by unfold drawZ; rw [h]; decide +kernel
theorem takes_zero (m : Nat) (hm : 0 < m) (hm2 : m < 18446744073709551616) : takes m 0 := by
  unfold takes
  have := Nat.mod_lt 18446744073709551616 hm
  omega
theorem miss_dist (m x : Nat) (hm : 0 < m) (hm2 : m < 18446744073709551616) (h : ¬ takes m (drawZ x)) : dist (drawS (drawS x)) < dist (drawS x) :=
  dist_step _ (fun e => h (by rw [drawZ_zero x e]; exact takes_zero m hm hm2)) (drawS_lt x)
end Go.Proofs.Ytnnbdjfeagcbdaa
namespace Go.Proofs.Ytnnbdjfeagcbdaa
set_option linter.unusedSimpArgs false
set_option linter.unusedVariables false
open Go.RowKit
attribute [local go_sem] Oper.semAt_some

theorem setCell_grown (w : World) (B j : Nat) (v : Value) : w.grownBy (w.setCell ⟨B, j, none⟩ v) (some B) :=
  ⟨rfl, rfl, rfl, by simp [World.setCell], fun k _ hk => Below.heap_setCell w ⟨B, j, none⟩ v k (fun e => hk (by simp [show k = B from e]))⟩
theorem grownBy_trans {a b c : World} {r : Option Nat} (h : a.grownBy b r) (k : b.grownBy c r) : a.grownBy c r :=
  ⟨k.os.trans h.os, k.tape.trans h.tape, k.output.trans h.output, Nat.le_trans h.size k.size, fun i hi hr => (k.block i (Nat.lt_of_lt_of_le hi h.size) hr).trans (h.block i hi hr)⟩
theorem grownBy_refl (a : World) (r : Option Nat) : a.grownBy a r := ⟨rfl, rfl, rfl, Nat.le_refl _, fun _ _ _ => rfl⟩
theorem grownBy_drewN {a b : World} {r : Option Nat} (h : a.grownBy b r) (k : Nat) : a.grownBy (b.drewN k) r := ⟨h.os, h.tape, h.output, h.size, h.block⟩
def genM (B : Nat) (w : World) : Nat := match w.cell? ⟨B, 0, none⟩ with | some (.int _ x) => dist (drawS x.toNat) | _ => 0
theorem genM_eq {B : Nat} {w : World} {x : Nat} (h : w.cell? ⟨B, 0, none⟩ = some (.int .u64 (x : Int))) : genM B w = dist (drawS x) := by unfold genM; rw [h]; simp
theorem mod_neg (m : Nat) (h0 : 0 < m) (h1 : m < 18446744073709551616) : (18446744073709551616 - m) % m = 18446744073709551616 % m := by
  have e : 18446744073709551616 = (18446744073709551616 - m) + m := by omega
  rw [show 18446744073709551616 % m = ((18446744073709551616 - m) + m) % m by rw [← e], Nat.add_mod_right]
theorem mod_top (m : Nat) (h0 : 0 < m) : (18446744073709551615 % m + 1) % m = 18446744073709551616 % m := by
  rw [show 18446744073709551616 = 18446744073709551615 + 1 by rfl, Nat.add_mod 18446744073709551615 1 m, Nat.add_mod (18446744073709551615 % m) 1 m, Nat.mod_mod]

set_option maxRecDepth 100000 in
set_option maxHeartbeats 2000000 in
theorem below_calls (x m : Nat) (hx : x < 18446744073709551616) (hm : 0 < m) (hm2 : m < 18446744073709551616) (B : Nat) (w : World) (hg : Cells w B #[.int .u64 x] 100) :
    Calls Try.prog 47 #[.pointer (some ⟨B, 0, none⟩), .int .u64 m] w fun e w' => ∃ y r : Nat, BelR m x y r ∧ e = .returned (.int .u64 r) ∧ Cells w' B #[.int .u64 y] 100 ∧ w.grownBy w' (some B) := by
  have HG := hid hg
  have MN := hid (mod_neg m hm hm2)
  have hv1 : 18446744073709551616 % m < m := Nat.mod_lt _ hm
  obtain ⟨v, hv⟩ : ∃ v, v = 18446744073709551616 % m := ⟨_, rfl⟩
  rw [← hv] at hv1
  have n0 : IntKind.u64.wrap (-(m : Int)) = ((18446744073709551616 - m : Nat) : Int) := by rw [IntKind.wrap_u64]; omega
  obtain ⟨m', hm'⟩ : ∃ m', m' = 18446744073709551616 - m := ⟨_, rfl⟩
  rw [← hm'] at n0
  have n1 : (m' : Int).tmod (m : Int) = (v : Int) := by
    rw [Int.tmod_eq_emod_of_nonneg (by omega), ← Int.natCast_emod, hm', MN.out, hv]
  have n1' : (m' : Int) % (m : Int) = (v : Int) := by rw [← Int.natCast_emod, hm', MN.out, hv]
  have n2 : IntKind.u64.wrap (v : Int) = (v : Int) := IntWalk.u64_in _ (by omega)
  have n3 : ((m : Int) == 0) = false := by simp; omega
  have n4 : (m : Int) ≠ 0 := by omega
  have HV := hid hv
  clear hg hv hm'
  go_enter Try.func47, Try.ntmps47
  go_wp2
  go_loopw [6] (fun _ wr => ∃ c : Nat, c < 18446744073709551616 ∧ (∀ y r, BelR m c y r → BelR m x y r) ∧ Cells wr B #[.int .u64 c] 100 ∧ w.grownBy wr (some B)) (fun _ wr => genM B wr)
  case atStart => exact ⟨x, hx, fun _ _ h => h, HG.out, grownBy_refl _ _⟩
  case round =>
    obtain ⟨c, hc, hb, hcl, hgr⟩ := hrel
    have c0 : wr.cell? ⟨B, 0, none⟩ = some (.int .u64 (c : Int)) := by simp [hcl.cell]
    have GM := hid (genM_eq c0)
    have HB := hid hb
    have HC := hid hcl
    have HR := hid hgr
    have fz := hcl.frozen 0
    clear hb hcl hgr
    go_wp2_with fail
    refine (next_calls c hc B wr c0 fz).mono ?_
    rintro e w1 ⟨rfl, hw1⟩
    have C1 := hid (show Cells w1 B #[.int .u64 (drawS c : Nat)] 100 by rw [hw1]; exact HC.out.set 0 _)
    have R1 := hid (show w.grownBy w1 (some B) by rw [hw1]; exact grownBy_trans HR.out (setCell_grown _ _ _ _))
    have G1 := hid (show genM B w1 = dist (drawS (drawS c)) from genM_eq (by simp [C1.out.cell]))
    clear hw1 c0 fz
    obtain ⟨z, hz⟩ : ∃ z, z = drawZ c := ⟨_, rfl⟩
    have zl : z < 18446744073709551616 := by rw [hz]; exact drawZ_lt c
    have HZ := hid hz
    rw [← hz]
    clear hz
    by_cases ht : z + v < 18446744073709551616
    · have hit := hid (BelR.hit (m := m) c (by unfold takes; rw [← HZ.out, ← HV.out]; exact ht))
      have zm : (z : Int).tmod (m : Int) = ((z % m : Nat) : Int) := by rw [Int.tmod_eq_emod_of_nonneg (by omega)]; exact (Int.natCast_emod z m).symm
      have zm' : (z : Int) % (m : Int) = ((z % m : Nat) : Int) := (Int.natCast_emod z m).symm
      obtain ⟨q, hq⟩ : ∃ q, q = z % m := ⟨_, rfl⟩
      have ql : q < m := by rw [hq]; exact Nat.mod_lt _ hm
      rw [← hq] at zm zm'
      have HQ := hid hq
      have kq : IntKind.u64.wrap (q : Int) = (q : Int) := IntWalk.u64_in _ (by omega)
      clear hq
      by_cases h0 : v = 0
      · have t0 : ((v : Int) == 0) = true := by simp [h0]
        clear h0 zm'
        go_wp2
        go_ret
        exact ⟨_, q, HB.out _ _ (by rw [HQ.out, HZ.out]; exact hit.out), rfl, C1.out, R1.out⟩
      · have t0 : ((v : Int) == 0) = false := by simp [h0]
        have t1 : IntKind.u64.wrap (-(v : Int)) = 18446744073709551616 - (v : Int) := by rw [IntKind.wrap_u64]; omega
        have t2 : decide ((z : Int) < 18446744073709551616 - (v : Int)) = true := by simp; omega
        clear h0 zm'
        go_wp2
        go_ret
        exact ⟨_, q, HB.out _ _ (by rw [HQ.out, HZ.out]; exact hit.out), rfl, C1.out, R1.out⟩
    · have hmiss : ¬ takes m (drawZ c) := by unfold takes; rw [← HZ.out, ← HV.out]; exact ht
      have t0 : ((v : Int) == 0) = false := by simp; omega
      have t1 : IntKind.u64.wrap (-(v : Int)) = 18446744073709551616 - (v : Int) := by rw [IntKind.wrap_u64]; omega
      have t2 : decide ((z : Int) < 18446744073709551616 - (v : Int)) = false := by simp; omega
      have MS := hid hmiss
      clear hmiss
      go_wp2
      go_roundw
      case rel => exact ⟨drawS c, drawS_lt c, fun y r h => HB.out y r (.miss c y r MS.out h), C1.out, R1.out⟩
      case measure => rw [G1.out, GM.out]; exact miss_dist m c hm hm2 MS.out

set_option maxRecDepth 100000 in
set_option maxHeartbeats 2000000 in
theorem rbelow_calls (x m : Nat) (hx : x < 18446744073709551616) (hm : 0 < m) (hm2 : m < 18446744073709551616) (w : World) :
    Calls Try.prog 48 #[.int .u64 x, .int .u64 m] w fun e w' => ∃ y r : Nat, BelR m x y r ∧ e = .returned (.tuple #[.int .u64 y, .int .u64 r]) ∧ Below w.heap.size w w' := by
  have MN := hid (mod_top m hm)
  have hv1 : 18446744073709551616 % m < m := Nat.mod_lt _ hm
  obtain ⟨v, hv⟩ : ∃ v, v = 18446744073709551616 % m := ⟨_, rfl⟩
  rw [← hv] at hv1
  obtain ⟨p, hp⟩ : ∃ p, p = 18446744073709551615 % m := ⟨_, rfl⟩
  have hp1 : p < m := by rw [hp]; exact Nat.mod_lt _ hm
  have n1 : (18446744073709551615 : Int).tmod (m : Int) = (p : Int) := by rw [Int.tmod_eq_emod_of_nonneg (by omega), hp]; simp
  have n1' : (18446744073709551615 : Int) % (m : Int) = (p : Int) := by rw [hp]; simp
  have n2 : IntKind.u64.wrap (p : Int) = (p : Int) := IntWalk.u64_in _ (by omega)
  obtain ⟨p1, hp2⟩ : ∃ p1, p1 = p + 1 := ⟨_, rfl⟩
  have n3 : IntKind.u64.wrap ((p : Int) + 1) = (p1 : Int) := by rw [IntWalk.u64_in _ (by omega)]; omega
  have n4 : (p1 : Int).tmod (m : Int) = (v : Int) := by rw [Int.tmod_eq_emod_of_nonneg (by omega), ← Int.natCast_emod, hp2, hp, MN.out, hv]
  have n4' : (p1 : Int) % (m : Int) = (v : Int) := by rw [← Int.natCast_emod, hp2, hp, MN.out, hv]
  have n5 : IntKind.u64.wrap (v : Int) = (v : Int) := IntWalk.u64_in _ (by omega)
  have n6 : ((m : Int) == 0) = false := by simp; omega
  have n7 : (m : Int) ≠ 0 := by omega
  have HV := hid hv
  clear hv hp hp2
  go_enter Try.func48, Try.ntmps48
  go_wp2
  go_loopw [0, 7, 8] (fun a _ _ wr => ∃ c : Nat, a = .int .u64 c ∧ c < 18446744073709551616 ∧ (∀ y r, BelR m c y r → BelR m x y r) ∧ wr = w) (fun a _ _ _ => dist (drawS (intOf a).toNat))
  case atStart => exact ⟨x, rfl, hx, fun _ _ h => h, rfl⟩
  case round =>
    obtain ⟨c, rfl, hc, hb, rfl⟩ := hrel
    have HB := hid hb
    clear hb
    go_wp2_with fail
    refine (rdraw_calls c hc _).mono ?_
    rintro e w1 ⟨rfl, rfl⟩
    obtain ⟨z, hz⟩ : ∃ z, z = drawZ c := ⟨_, rfl⟩
    have zl : z < 18446744073709551616 := by rw [hz]; exact drawZ_lt c
    obtain ⟨s, hs⟩ : ∃ s, s = drawS c := ⟨_, rfl⟩
    have sl : s < 18446744073709551616 := by rw [hs]; exact drawS_lt c
    have HZ := hid hz
    have HS := hid hs
    rw [← hz, ← hs]
    clear hz hs
    have t1 : IntKind.u64.wrap (18446744073709551615 - (v : Int)) = 18446744073709551615 - (v : Int) := IntWalk.u64_in _ (by omega)
    by_cases ht : z + v < 18446744073709551616
    · have hit := hid (BelR.hit (m := m) c (by unfold takes; rw [← HZ.out, ← HV.out]; exact ht))
      have zm : (z : Int).tmod (m : Int) = ((z % m : Nat) : Int) := by rw [Int.tmod_eq_emod_of_nonneg (by omega)]; exact (Int.natCast_emod z m).symm
      obtain ⟨q, hq⟩ : ∃ q, q = z % m := ⟨_, rfl⟩
      have ql : q < m := by rw [hq]; exact Nat.mod_lt _ hm
      rw [← hq] at zm
      have zm' : (z : Int) % (m : Int) = (q : Int) := by rw [hq]; simp
      have HQ := hid hq
      have kq : IntKind.u64.wrap (q : Int) = (q : Int) := IntWalk.u64_in _ (by omega)
      have t2 : decide ((z : Int) ≤ 18446744073709551615 - (v : Int)) = true := by simp; omega
      clear hq
      go_wp2
      go_quiet (fail)
      go_wp2
      refine bodyPost_ret (v := .tuple #[.int .u64 (s : Int), .int .u64 (q : Int)]) (by simp [results, Try.results48, go_sem]) rfl ⟨s, q, HB.out _ _ (by rw [HQ.out, HZ.out, HS.out]; exact hit.out), rfl, below_drewN (Below.refl _ _) _⟩
    · have hmiss : ¬ takes m (drawZ c) := by unfold takes; rw [← HZ.out, ← HV.out]; exact ht
      have t2 : decide ((z : Int) ≤ 18446744073709551615 - (v : Int)) = false := by simp; omega
      have MS := hid hmiss
      clear hmiss
      go_wp2
      go_roundw
      case rel => exact ⟨s, rfl, sl, fun y r h => HB.out y r (.miss c y r MS.out (by rw [← HS.out]; exact h)), trivial⟩
      case measure => simp only [intOf, Int.toNat_natCast]; rw [HS.out]; exact miss_dist m c hm hm2 MS.out
end Go.Proofs.Ytnnbdjfeagcbdaa
