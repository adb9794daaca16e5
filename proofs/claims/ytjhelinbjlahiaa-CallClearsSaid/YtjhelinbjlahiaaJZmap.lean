/- Maps of integers with a total reading; rows of integers that are sorted and compacted. No function of the program's own in sight. Zones of prices in plain Lean. No program in sight. -/
import Derived.Maps.OwnSet
import Derived.Sort.OwnSortedInts
import Derived.Lib.OwnBridge
import Derived.Shelf.SlicesE.Compact
import Derived.Shelf.SlicesE.Clone
import Derived.Test.YtjhelinbjlahiaaJMem
import Derived.Test.YtjhelinbjlahiaaJTol
import Derived.Test.YtjhelinbjlahiaaJShelf
namespace Go.Proofs.Ytjhelinbjlahiaa
set_option linter.unusedSimpArgs false
set_option linter.unusedVariables false
open Go.RowKit Go.Maps Go.Shelf Go.Sort
def rdI : Value → Option (DataW Nat × List MemPlace)
  | .int .i64 z => some (.lit (.int .i64 z), [])
  | _ => none
theorem rdI_mk (z : Int) : rdI (.int .i64 z) = some (.lit (.int .i64 z), []) := rfl
theorem rdI_inv {v : Value} {z : Int} {ps : List MemPlace} (h : rdI v = some (.lit (.int .i64 z), ps)) : v = .int .i64 z := by
  unfold rdI at h
  split at h
  · simp only [Option.some.injEq, Prod.mk.injEq, DataW.lit.injEq, Lit.int.injEq, true_and] at h
    rw [h.1]
  · cases h
theorem kI64 : Keyed Try.prog 2 := int_keyed (q := .i64) (by kernel_rfl)
theorem mapI64 : Try.prog.underlying 104 = some (.map 2 2) := by kernel_rfl
theorem zeroI64 (w : World) : (zeroValue 2).run Try.prog w = .ok (.int .i64 0) w := by kernel_rfl
theorem keyI64 {k : Int} (h : (Lit.int .i64 k).wf = true) : keyOf Try.prog 2 (.int .i64 k) = some (.int .i64 k) := keyOf_int_mk (by kernel_rfl) h
/-- The map in block b reads as a function, 0 where it has nothing. -/
def MapF (w : World) (b : Nat) (F : Int → Int) (n : Nat) : Prop := ∃ D : DataW Nat, w.ownsMap Try.prog 2 rdI b n D ∧ ∀ k, D.atKey (.int .i64 k) (.lit (.int .i64 0)) = .lit (.int .i64 (F k))
theorem MapF.lt {w : World} {b n : Nat} {F : Int → Int} (h : MapF w b F n) : b < w.heap.size := by
  obtain ⟨D, h1, _⟩ := h
  exact h1.lt
theorem MapF.new (w : World) : MapF (w.alloc (.map #[] 0)) w.heap.size (fun _ => 0) 0 := ⟨.map [], World.ownsMap_made w _ _ _, fun k => rfl⟩
theorem MapF.kept {X : Nat → Prop} {w w' : World} {b n : Nat} {F : Int → Int} (h : MapF w b F n) (hk : Kept X w w') (hx : ¬ X b) : MapF w' b F n := by
  obtain ⟨D, ⟨es, clock, hb, hr⟩, hs⟩ := h
  exact ⟨D, ⟨es, clock, (hk.block b (Array.getElem?_eq_some_iff.1 hb).1 hx).trans hb, hr⟩, hs⟩
theorem MapF.below {w w' : World} {b n : Nat} {F : Int → Int} (h : MapF w b F n) (hb : Below w.heap.size w w') : MapF w' b F n := h.kept (X := fun _ => False) (Kept.of_below hb) (fun h => h)
theorem MapF.look {w : World} {b n : Nat} {F : Int → Int} (h : MapF w b F n) {k : Int} (hk : (Lit.int .i64 k).wf = true) :
    (Instr.lookup 104 (.map (some b)) (.int .i64 k) false).run Try.prog w = .ok (.int .i64 (F k)) w := by
  obtain ⟨D, h1, h2⟩ := h
  obtain ⟨v, ps, hr, hv⟩ := h1.lookup kI64 mapI64 (zeroI64 w) (rdI_mk 0) (keyI64 hk)
  rw [h2 k] at hv
  rw [hr, rdI_inv hv]
theorem MapF.put {w : World} {b n : Nat} {F : Int → Int} (h : MapF w b F n) (hn : n ≤ 1000000) {k v : Int} (hk : (Lit.int .i64 k).wf = true) :
    ∃ w', (Instr.mapUpdate 104 (.map (some b)) (.int .i64 k) (.int .i64 v)).run Try.prog w = .ok () w' ∧ MapF w' b (fun j => if j = k then v else F j) (n + 1) ∧ Kept (fun k => k = b) w w' := by
  obtain ⟨D, h1, h2⟩ := h
  obtain ⟨w', hr, h5, h6⟩ := h1.store kI64 mapI64 (by unfold maxLen; omega) (keyI64 hk) (rdI_mk v)
  have hkl : WideAt.IsKeyLit (.int .i64 k) := by simp [WideAt.IsKeyLit]
  have hg := h6.grown
  refine ⟨w', hr, ⟨_, h5, fun j => ?_⟩, ⟨hg.os, hg.tape, hg.output, hg.size, fun k hk hx => hg.block k hk (fun e => hx (by injection e))⟩⟩
  by_cases hj : j = k
  · subst hj
    show _ = DataW.lit (Lit.int .i64 (if j = j then v else F j))
    rw [if_pos rfl]
    exact Maps.atKey_put_same h1.isMap hkl _ _
  · show _ = DataW.lit (Lit.int .i64 (if j = k then v else F j))
    rw [if_neg hj, Maps.atKey_put_other (by simpa using hj)]
    exact h2 j
/-- Rows of integers. -/
def encI (z : Int) : List Value := [.int .i64 z]
theorem encI_len (z : Int) : (encI z).length = 1 := rfl
theorem encI_one (z : Int) : ∀ u ∈ encI z, u.oneCell' = true := by simp [encI]; rfl
abbrev RowI (B : Nat) (w : World) (v : Value) (l : List Int) : Prop := OwnE encI 1 2 B w v l
theorem flatI (l : List Int) : flatE encI l = l.map (Value.int .i64) := by
  induction l with
  | nil => rfl
  | cons a l ih => rw [flatE_cons, ih]; rfl
/-- Sort. -/
theorem sort_calls {B : Nat} {w : World} {v : Value} {l : List Int} (h : RowI B w v l) (hl : l.length ≤ 1000000) :
    Calls Try.prog 70 #[v] w fun e w' => e = .returned (.tuple #[]) ∧ RowI B w' v (l.mergeSort fun x y => decide (x ≤ y)) ∧ Kept (fun k => some k = v.ownBlock) w w' := by
  unfold RowI OwnE at h ⊢
  rw [flatI] at h
  by_cases hv : v = .slice none 0 0
  · subst hv
    have h0 : l = [] := by
      rcases h.2 with ⟨_, h2⟩ | ⟨g, cap, cur, h3, _⟩
      · exact List.length_eq_zero_iff.1 h2
      · cases h3
    subst h0
    refine (AnyM.slices_Sort_int_none Try.sortA none 0 w).mono ?_
    rintro e w' ⟨rfl, rfl⟩
    exact ⟨rfl, by rw [flatI]; simpa using h, Kept.refl _ _⟩
  · obtain ⟨g, cap, rfl, hB, hlt, hc, hm, _, hH⟩ := Lib.holds_of_ownsRow h hv
    refine (AnyM.slices_Sort_int Try.sortA g 0 cap l w hH hlt (by omega)).mono ?_
    rintro e w' ⟨rfl, n, os, rfl⟩
    rcases h.2 with ⟨h0, _⟩ | ⟨g', cap', cur, e0, hb, hg, hn, hm', hs, ht⟩
    · cases h0
    · cases e0
      refine ⟨rfl, ?_, ?_⟩
      · rw [flatI]
        have := ownsRow_sortedI (n := n) (os := os) (ts := l.mergeSort fun x y => decide (x ≤ y)) (List.length_mergeSort l) hb hg hc hm hs
        rw [List.length_mergeSort]
        exact this
      · have := grownBy_sortedI (w := w) (g := g) (n := n) (os := os) (l.mergeSort fun x y => decide (x ≤ y)).toArray
        exact ⟨this.os, this.tape, this.output, this.size, fun k hk hx => this.block k hk (fun e => hx (by rw [e]; rfl))⟩
/-- Compact. -/
theorem compact_calls {B : Nat} {w : World} {v : Value} {l : List Int} (h : RowI B w v l) (hl : l.length ≤ 1000000) (h0 : l ≠ []) :
    Calls Try.prog 71 #[v] w fun e w' => ∃ v', e = .returned v' ∧ RowI B w' v' (Lib.compact l) ∧ v'.ownBlock = v.ownBlock ∧ Kept (fun k => some k = v.ownBlock) w w' := by
  unfold RowI OwnE at h
  rw [flatI] at h
  have hv : v ≠ .slice none 0 0 := by
    rintro rfl
    rcases h.2 with ⟨_, h2⟩ | ⟨g, cap, cur, h3, _⟩
    · exact h0 (List.length_eq_zero_iff.1 h2)
    · cases h3
  obtain ⟨g, cap, rfl, hB, hlt, hc, hm, _, hH⟩ := Lib.holds_of_ownsRow h hv
  have hle := Lib.compact_length_le l
  have CC := AnyE.slices_Compact Try.compactA (Value.int .i64) (fun _ => rfl) (EqlAt.intD _ _ .i64) (NeqAt.intD _ _ .i64) 0 zeroI64 g 0 cap l.toArray w hH (by simp; omega) (by simpa using hc)
  refine CC.mono ?_
  rintro e w' ⟨rfl, q, rfl⟩
  have ec : Lib.compactUpTo l.toArray l.toArray.size = Lib.compact l := by unfold Lib.compact; simp
  rw [ec]
  have es : l.toArray.size = l.length := by simp
  rw [es]
  have hc2 := Lib.ownsRow_putRow (q := q) (k := (Lib.compact l).length) (ys := Lib.compact l ++ List.replicate (l.length - (Lib.compact l).length) 0) h (by simp; omega) hle
  rw [List.take_left] at hc2
  refine ⟨_, rfl, ?_, rfl, ?_⟩
  · unfold RowI OwnE
    rw [flatI]
    exact hc2
  · have := grownBy_sortedI (w := w) (g := g) (n := q) (os := #[]) (Lib.compact l ++ List.replicate (l.length - (Lib.compact l).length) 0).toArray
    rw [grow_empty] at this
    exact ⟨this.os, this.tape, this.output, this.size, fun k hk hx => this.block k hk (fun e => hx (by rw [e]; rfl))⟩
end Go.Proofs.Ytjhelinbjlahiaa
namespace Go.Proofs.Ytjhelinbjlahiaa
set_option linter.unusedSimpArgs false
set_option linter.unusedVariables false
open Go.RowKit

structure Zn where
  f : Int
  t : Int
  d : Int
  s : Int
deriving DecidableEq
def encZn (z : Zn) : List Value := [.int .i64 z.f, .int .i64 z.t, .int .i64 z.d, .int .i64 z.s]
theorem encZn_len (z : Zn) : (encZn z).length = 4 := rfl
theorem encZn_one (z : Zn) : ∀ u ∈ encZn z, u.oneCell' = true := by
  intro u hu
  simp only [encZn, List.mem_cons, List.not_mem_nil, or_false] at hu
  rcases hu with rfl | rfl | rfl | rfl <;> rfl
/-- Where something changes. -/
def cut (b : Bd) : Int := if b.s = 1 then b.p + 1 else b.p
def downF (l : List Bd) (x : Int) : Int := sumQ (fun b => decide (b.s = 1 ∧ b.p + 1 = x)) l
def upF (l : List Bd) (x : Int) : Int := sumQ (fun b => decide (b.s ≠ 1 ∧ b.p = x)) l
theorem compact_sorted {l : List Int} (h : l.Pairwise (· ≤ ·)) : (Lib.compact l).Pairwise (· < ·) ∧ ∀ x, x ∈ Lib.compact l ↔ x ∈ l := by
  have hle : ∀ i j, i ≤ j → j < l.length → l.toArray[i]! ≤ l.toArray[j]! := by
    intro i j hij hj
    rcases Nat.lt_or_ge i j with h1 | h1
    · have := List.pairwise_iff_getElem.1 h i j (by omega) hj h1
      simpa [getElem!_pos, show i < l.length by omega, hj] using this
    · obtain rfl : i = j := by omega
      exact Int.le_refl _
  have key : ∀ m, m ≤ l.length → (Lib.compactUpTo l.toArray m).Pairwise (· < ·) ∧ ∀ x, x ∈ Lib.compactUpTo l.toArray m ↔ ∃ j, j < m ∧ l.toArray[j]! = x := by
    intro m
    induction m with
    | zero => intro _; simp [Lib.compactUpTo]
    | succ m ih =>
      intro hm
      obtain ⟨h1, h2⟩ := ih (by omega)
      rw [Lib.compactUpTo_succ]
      cases hk : Lib.keeps l.toArray m with
      | false =>
        simp only [Bool.false_eq_true, if_false, List.append_nil]
        refine ⟨h1, fun x => ?_⟩
        rw [h2 x]
        simp only [Lib.keeps, decide_eq_false_iff_not, not_or, Decidable.not_not] at hk
        refine ⟨fun ⟨j, j1, j2⟩ => ⟨j, by omega, j2⟩, fun ⟨j, j1, j2⟩ => ?_⟩
        rcases Nat.lt_or_ge j m with q | q
        · exact ⟨j, q, j2⟩
        · obtain rfl : j = m := by omega
          exact ⟨j - 1, by omega, by rw [← hk.2]; exact j2⟩
      | true =>
        simp only [if_true]
        have hk' : m = 0 ∨ l.toArray[m]! ≠ l.toArray[m - 1]! := by simpa [Lib.keeps] using hk
        refine ⟨List.pairwise_append.2 ⟨h1, List.pairwise_singleton _ _, fun x hx y hy => ?_⟩, fun x => ?_⟩
        · rw [List.mem_singleton.1 hy]
          obtain ⟨j, j1, rfl⟩ := (h2 x).1 hx
          have a1 := hle j (m - 1) (by omega) (by omega)
          have a2 := hle (m - 1) m (by omega) (by omega)
          rcases hk' with q | q
          · omega
          · omega
        · rw [List.mem_append, h2 x, List.mem_singleton]
          refine ⟨?_, fun ⟨j, j1, j2⟩ => ?_⟩
          · rintro (⟨j, j1, j2⟩ | rfl)
            · exact ⟨j, by omega, j2⟩
            · exact ⟨m, by omega, rfl⟩
          · rcases Nat.lt_or_ge j m with q | q
            · exact .inl ⟨j, q, j2⟩
            · obtain rfl : j = m := by omega
              exact .inr j2.symm
  obtain ⟨h1, h2⟩ := key l.length (Nat.le_refl _)
  refine ⟨h1, fun x => ?_⟩
  unfold Lib.compact
  rw [h2 x]
  constructor
  · rintro ⟨j, j1, rfl⟩
    rw [getElem!_pos _ j (by simpa using j1)]
    simp
  · intro hx
    obtain ⟨j, j1, j2⟩ := List.getElem_of_mem hx
    exact ⟨j, j1, by rw [getElem!_pos _ j (by simpa using j1)]; simpa using j2⟩
/-- Where zones begin. -/
def starts (l : List Bd) : List Int := Lib.compact ((1 :: l.map cut).mergeSort fun x y => decide (x ≤ y))
theorem starts_spec (l : List Bd) : (starts l).Pairwise (· < ·) ∧ ∀ x, x ∈ starts l ↔ x = 1 ∨ ∃ b ∈ l, cut b = x := by
  have hs : ((1 :: l.map cut).mergeSort fun x y => decide (x ≤ y)).Pairwise (· ≤ ·) := by
    have := List.pairwise_mergeSort (le := fun x y : Int => decide (x ≤ y)) (by intro a b c; simp; omega) (by intro a b; simp; omega) (1 :: l.map cut)
    simpa using this
  obtain ⟨h1, h2⟩ := compact_sorted hs
  refine ⟨h1, fun x => ?_⟩
  unfold starts
  rw [h2 x, (List.mergeSort_perm _ _).mem_iff]
  simp [eq_comm]
theorem starts_len (l : List Bd) : (starts l).length ≤ l.length + 1 := by
  unfold starts
  have := Lib.compact_length_le ((1 :: l.map cut).mergeSort fun x y => decide (x ≤ y))
  rw [List.length_mergeSort] at this
  simpa using this
/-- The zones that begin at the i-th start: none or one. -/
def zAt (l : List Bd) (S : List Int) (i : Nat) : List Zn :=
  if S.getD i 0 ≤ 1000000 then [⟨S.getD i 0, if i + 1 < S.length then S.getD (i + 1) 0 - 1 else 1000000, dem l (S.getD i 0), sup l (S.getD i 0)⟩] else []
def zTo (l : List Bd) (S : List Int) (i : Nat) : List Zn := (List.range i).flatMap (zAt l S)
theorem zTo_succ (l : List Bd) (S : List Int) (i : Nat) : zTo l S (i + 1) = zTo l S i ++ zAt l S i := by unfold zTo; rw [List.range_succ, List.flatMap_append]; simp
/-- The zones. -/
def zonesL (l : List Bd) : List Zn := zTo l (starts l) (starts l).length
/-- The demand and the supply on the way. -/
def dmd (l : List Bd) (S : List Int) (i : Nat) : Int := sumQ (fun b => decide (b.s = 1 ∧ b.p + 1 ∉ S.take i)) l
def spl (l : List Bd) (S : List Int) (i : Nat) : Int := sumQ (fun b => decide (b.s ≠ 1 ∧ b.p ∈ S.take i)) l
theorem sumQ_split {f g h : Bd → Bool} {l : List Bd} (e : ∀ b ∈ l, (if f b then b.q else 0) = (if g b then b.q else 0) + (if h b then b.q else 0)) : sumQ f l = sumQ g l + sumQ h l := by
  induction l with
  | nil => rfl
  | cons b l ih =>
    have := e b List.mem_cons_self
    simp only [sumQ, ih fun x hx => e x (List.mem_cons_of_mem _ hx)]
    omega
theorem dmd_step {l : List Bd} {S : List Int} (hs : S.Pairwise (· < ·)) {i : Nat} (hi : i < S.length) : dmd l S (i + 1) = dmd l S i - downF l (S.getD i 0) := by
  have hg : S.getD i 0 = S[i] := by simp [hi]
  have hn : S[i] ∉ S.take i := fun hm => by
    obtain ⟨j, hj, e⟩ := List.getElem_of_mem hm
    rw [List.length_take] at hj
    rw [List.getElem_take] at e
    have := List.pairwise_iff_getElem.1 hs j i (by omega) hi (by omega)
    omega
  have : dmd l S i = dmd l S (i + 1) + downF l (S.getD i 0) := by
    unfold dmd downF
    refine sumQ_split fun b _ => ?_
    rw [hg, take_snoc hi]
    simp only [List.mem_append, List.mem_singleton, not_or, decide_eq_true_eq]
    by_cases h1 : b.s = 1
    · by_cases h2 : b.p + 1 = S[i]
      · rw [h2, if_pos ⟨h1, hn⟩, if_neg (by simp), if_pos ⟨h1, rfl⟩]; omega
      · by_cases h3 : b.p + 1 ∈ S.take i
        · rw [if_neg (by simp [h3]), if_neg (by simp [h3]), if_neg (by simp [h2])]; rfl
        · rw [if_pos ⟨h1, h3⟩, if_pos ⟨h1, h3, h2⟩, if_neg (by simp [h2])]; omega
    · simp [h1]
  omega
theorem spl_step {l : List Bd} {S : List Int} (hs : S.Pairwise (· < ·)) {i : Nat} (hi : i < S.length) : spl l S (i + 1) = spl l S i + upF l (S.getD i 0) := by
  have hg : S.getD i 0 = S[i] := by simp [hi]
  have hn : S[i] ∉ S.take i := fun hm => by
    obtain ⟨j, hj, e⟩ := List.getElem_of_mem hm
    rw [List.length_take] at hj
    rw [List.getElem_take] at e
    have := List.pairwise_iff_getElem.1 hs j i (by omega) hi (by omega)
    omega
  unfold spl upF
  refine sumQ_split fun b _ => ?_
  rw [hg, take_snoc hi]
  simp only [List.mem_append, List.mem_singleton, decide_eq_true_eq]
  by_cases h1 : b.s = 1
  · simp [h1]
  · by_cases h2 : b.p = S[i]
    · rw [h2, if_pos ⟨h1, .inr rfl⟩, if_neg (by simp [hn]), if_pos ⟨h1, rfl⟩]; omega
    · by_cases h3 : b.p ∈ S.take i
      · rw [if_pos ⟨h1, .inl h3⟩, if_pos ⟨h1, h3⟩, if_neg (by simp [h2])]; omega
      · rw [if_neg (by simp [h2, h3]), if_neg (by simp [h3]), if_neg (by simp [h2])]; rfl
theorem mem_take_lt {S : List Int} (hs : S.Pairwise (· < ·)) {i : Nat} (hi : i < S.length) {x : Int} (hx : x ∈ S) : x ∈ S.take (i + 1) ↔ x ≤ S.getD i 0 := by
  have hg : S.getD i 0 = S[i] := by simp [hi]
  rw [hg]
  constructor
  · intro hm
    obtain ⟨j, hj, e⟩ := List.getElem_of_mem hm
    rw [List.length_take] at hj
    rw [List.getElem_take] at e
    rcases Nat.lt_or_ge j i with q | q
    · have := List.pairwise_iff_getElem.1 hs j i (by omega) hi q
      omega
    · obtain rfl : j = i := by omega
      omega
  · intro hle
    obtain ⟨j, hj, e⟩ := List.getElem_of_mem hx
    rcases Nat.lt_or_ge i j with q | q
    · have := List.pairwise_iff_getElem.1 hs i j hi hj q
      omega
    · rw [← e]
      exact List.mem_take_iff_getElem.2 ⟨j, by omega, rfl⟩
theorem dmd_at {l : List Bd} {i : Nat} (hi : i < (starts l).length) : dmd l (starts l) (i + 1) = dem l ((starts l).getD i 0) := by
  obtain ⟨h1, h2⟩ := starts_spec l
  unfold dmd dem
  refine sumQ_congr fun b hb => ?_
  unfold buyT
  by_cases hs : b.s = 1
  · have hm : b.p + 1 ∈ starts l := (h2 _).2 (.inr ⟨b, hb, by simp [cut, hs]⟩)
    have hk := mem_take_lt h1 hi hm
    rw [decide_eq_decide]
    refine ⟨fun ⟨q1, q2⟩ => ⟨q1, ?_⟩, fun ⟨q1, q2⟩ => ⟨q1, fun q3 => ?_⟩⟩
    · have : ¬ (b.p + 1 ≤ (starts l).getD i 0) := fun h => q2 (hk.2 h)
      omega
    · have := hk.1 q3
      omega
  · simp [hs]
theorem spl_at {l : List Bd} {i : Nat} (hi : i < (starts l).length) : spl l (starts l) (i + 1) = sup l ((starts l).getD i 0) := by
  obtain ⟨h1, h2⟩ := starts_spec l
  unfold spl sup
  refine sumQ_congr fun b hb => ?_
  unfold selT
  by_cases hs : b.s = 1
  · simp [hs]
  · have hm : b.p ∈ starts l := (h2 _).2 (.inr ⟨b, hb, by simp [cut, hs]⟩)
    have hk := mem_take_lt h1 hi hm
    rw [decide_eq_decide]
    exact ⟨fun ⟨q1, q2⟩ => ⟨q1, hk.1 q2⟩, fun ⟨q1, q2⟩ => ⟨q1, hk.2 q2⟩⟩
theorem dmd_zero (l : List Bd) (S : List Int) : dmd l S 0 = sumQ (fun b => decide (b.s = 1)) l := by unfold dmd; simp
theorem spl_zero (l : List Bd) (S : List Int) : spl l S 0 = 0 := by
  unfold spl
  induction l with
  | nil => rfl
  | cons b l ih => simp only [sumQ, ih]; simp
end Go.Proofs.Ytjhelinbjlahiaa
