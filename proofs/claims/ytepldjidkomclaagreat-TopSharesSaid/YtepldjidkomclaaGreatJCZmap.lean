/- Maps of integers with a total reading; rows of integers that are sorted and compacted. No function of the program's own in sight. Zones of prices in plain Lean. No program in sight. call.zones: memory. No function of the program in sight. call.byTime. The closure of split. split in plain Lean, and its comparison. split: one weight's quota; the state of its loop. split: who gets one more, plain. -/
import Derived.Maps.OwnSet
import Derived.Sort.OwnSortedInts
import Derived.Lib.OwnBridge
import Derived.Shelf.SlicesE.Compact
import Derived.Shelf.SlicesE.Clone
import Derived.Test.YtepldjidkomclaaGreatJCCl0
import Derived.Test.YtepldjidkomclaaGreatJCTol
import Derived.Test.YtepldjidkomclaaGreatJCShelf
import Derived.Test.YtepldjidkomclaaGreatJCSob
import Derived.Test.YtepldjidkomclaaGreatJCDiv
namespace Go.Proofs.YtepldjidkomclaaGreat.Ca
set_option linter.unusedSimpArgs false
set_option linter.unusedVariables false
open Go.RowKit Go.Maps Go.Shelf Go.Sort
def rdI : Value → Option (DataW Nat × List MemPlace)
  | .int .i64 z => some (.lit (.int .i64 z), [])
  | _ => none
theorem rdI_mk (z : Int) : rdI (.int .i64 z) = some (.lit (.int .i64 z), []) := rfl
theorem rdI_inv {v : Value} {z : Int} {ps : List MemPlace} (h : rdI v = some (.lit (.int .i64 z), ps)) : v = .int .i64 z := by
  unfold rdI at h
  split at h
  · simp only [Option.some.injEq, Prod.mk.injEq, DataW.lit.injEq, Lit.int.injEq, true_and] at h
    rw [h.1]
  · cases h
theorem kI64 : Keyed Tryz.prog 2 := int_keyed (q := .i64) (by kernel_rfl)
theorem mapI64 : Tryz.prog.underlying 171 = some (.map 2 2) := by kernel_rfl
theorem zeroI64 (w : World) : (zeroValue 2).run Tryz.prog w = .ok (.int .i64 0) w := by kernel_rfl
theorem keyI64 {k : Int} (h : (Lit.int .i64 k).wf = true) : keyOf Tryz.prog 2 (.int .i64 k) = some (.int .i64 k) := keyOf_int_mk (by kernel_rfl) h
def MapF (w : World) (b : Nat) (F : Int → Int) (n : Nat) : Prop := ∃ D : DataW Nat, w.ownsMap Tryz.prog 2 rdI b n D ∧ ∀ k, D.atKey (.int .i64 k) (.lit (.int .i64 0)) = .lit (.int .i64 (F k))
theorem MapF.lt {w : World} {b n : Nat} {F : Int → Int} (h : MapF w b F n) : b < w.heap.size := by
  obtain ⟨D, h1, _⟩ := h
  exact h1.lt
theorem MapF.new (w : World) : MapF (w.alloc (.map #[] 0)) w.heap.size (fun _ => 0) 0 := ⟨.map [], World.ownsMap_made w _ _ _, fun k => rfl⟩
theorem MapF.kept {X : Nat → Prop} {w w' : World} {b n : Nat} {F : Int → Int} (h : MapF w b F n) (hk : Kept X w w') (hx : ¬ X b) : MapF w' b F n := by
  obtain ⟨D, ⟨es, clock, hb, hr⟩, hs⟩ := h
  exact ⟨D, ⟨es, clock, (hk.block b (Array.getElem?_eq_some_iff.1 hb).1 hx).trans hb, hr⟩, hs⟩
theorem MapF.below {w w' : World} {b n : Nat} {F : Int → Int} (h : MapF w b F n) (hb : Below w.heap.size w w') : MapF w' b F n := h.kept (X := fun _ => False) (Kept.of_below hb) (fun h => h)
theorem MapF.look {w : World} {b n : Nat} {F : Int → Int} (h : MapF w b F n) {k : Int} (hk : (Lit.int .i64 k).wf = true) :
    (Instr.lookup 171 (.map (some b)) (.int .i64 k) false).run Tryz.prog w = .ok (.int .i64 (F k)) w := by
  obtain ⟨D, h1, h2⟩ := h
  obtain ⟨v, ps, hr, hv⟩ := h1.lookup kI64 mapI64 (zeroI64 w) (rdI_mk 0) (keyI64 hk)
  rw [h2 k] at hv
  rw [hr, rdI_inv hv]
theorem MapF.put {w : World} {b n : Nat} {F : Int → Int} (h : MapF w b F n) (hn : n ≤ 1000000) {k v : Int} (hk : (Lit.int .i64 k).wf = true) :
    ∃ w', (Instr.mapUpdate 171 (.map (some b)) (.int .i64 k) (.int .i64 v)).run Tryz.prog w = .ok () w' ∧ MapF w' b (fun j => if j = k then v else F j) (n + 1) ∧ Kept (fun k => k = b) w w' := by
  obtain ⟨D, h1, h2⟩ := h
  obtain ⟨w', hr, h5, h6⟩ := h1.store kI64 mapI64 (by unfold maxLen; omega) (keyI64 hk) (rdI_mk v)
  have hkl : WideAt.IsKeyLit (.int .i64 k) := by simp [WideAt.IsKeyLit]
  have hg := h6.grown
  refine ⟨w', hr, ⟨_, h5, fun j => ?_⟩, ⟨hg.os, hg.tape, hg.output, hg.size, fun k hk hx => hg.block k hk (fun e => hx (by injection e))⟩⟩
  by_cases hj : j = k
  · subst hj
    show _ = DataW.lit (Lit.int .i64 (if j = j then v else F j))
    rw [if_pos rfl]
    exact Maps.atKey_put_same h1.isMap hkl _ _
  · show _ = DataW.lit (Lit.int .i64 (if j = k then v else F j))
    rw [if_neg hj, Maps.atKey_put_other (by simpa using hj)]
    exact h2 j
def encI (z : Int) : List Value := [.int .i64 z]
theorem encI_len (z : Int) : (encI z).length = 1 := rfl
theorem encI_one (z : Int) : ∀ u ∈ encI z, u.oneCell' = true := by simp [encI]; rfl
abbrev RowI (B : Nat) (w : World) (v : Value) (l : List Int) : Prop := OwnE encI 1 2 B w v l
theorem flatI (l : List Int) : flatE encI l = l.map (Value.int .i64) := by
  induction l with
  | nil => rfl
  | cons a l ih => rw [flatE_cons, ih]; rfl
theorem sort_calls {B : Nat} {w : World} {v : Value} {l : List Int} (h : RowI B w v l) (hl : l.length ≤ 1000000) :
    Calls Tryz.prog 94 #[v] w fun e w' => e = .returned (.tuple #[]) ∧ RowI B w' v (l.mergeSort fun x y => decide (x ≤ y)) ∧ Kept (fun k => some k = v.ownBlock) w w' := by
  unfold RowI OwnE at h ⊢
  rw [flatI] at h
  by_cases hv : v = .slice none 0 0
  · subst hv
    have h0 : l = [] := by
      rcases h.2 with ⟨_, h2⟩ | ⟨g, cap, cur, h3, _⟩
      · exact List.length_eq_zero_iff.1 h2
      · cases h3
    subst h0
    refine (AnyM.slices_Sort_int_none Tryz.sortA none 0 w).mono ?_
    rintro e w' ⟨rfl, rfl⟩
    exact ⟨rfl, by rw [flatI]; simpa using h, Kept.refl _ _⟩
  · obtain ⟨g, cap, rfl, hB, hlt, hc, hm, _, hH⟩ := Lib.holds_of_ownsRow h hv
    refine (AnyM.slices_Sort_int Tryz.sortA g 0 cap l w hH hlt (by omega)).mono ?_
    rintro e w' ⟨rfl, n, os, rfl⟩
    rcases h.2 with ⟨h0, _⟩ | ⟨g', cap', cur, e0, hb, hg, hn, hm', hs, ht⟩
    · cases h0
    · cases e0
      refine ⟨rfl, ?_, ?_⟩
      · rw [flatI]
        have := ownsRow_sortedI (n := n) (os := os) (ts := l.mergeSort fun x y => decide (x ≤ y)) (List.length_mergeSort l) hb hg hc hm hs
        rw [List.length_mergeSort]
        exact this
      · have := grownBy_sortedI (w := w) (g := g) (n := n) (os := os) (l.mergeSort fun x y => decide (x ≤ y)).toArray
        exact ⟨this.os, this.tape, this.output, this.size, fun k hk hx => this.block k hk (fun e => hx (by rw [e]; rfl))⟩
theorem compact_calls {B : Nat} {w : World} {v : Value} {l : List Int} (h : RowI B w v l) (hl : l.length ≤ 1000000) (h0 : l ≠ []) :
    Calls Tryz.prog 95 #[v] w fun e w' => ∃ v', e = .returned v' ∧ RowI B w' v' (Lib.compact l) ∧ v'.ownBlock = v.ownBlock ∧ Kept (fun k => some k = v.ownBlock) w w' := by
  unfold RowI OwnE at h
  rw [flatI] at h
  have hv : v ≠ .slice none 0 0 := by
    rintro rfl
    rcases h.2 with ⟨_, h2⟩ | ⟨g, cap, cur, h3, _⟩
    · exact h0 (List.length_eq_zero_iff.1 h2)
    · cases h3
  obtain ⟨g, cap, rfl, hB, hlt, hc, hm, _, hH⟩ := Lib.holds_of_ownsRow h hv
  have hle := Lib.compact_length_le l
  have CC := AnyE.slices_Compact Tryz.compactA (Value.int .i64) (fun _ => rfl) (EqlAt.intD _ _ .i64) (NeqAt.intD _ _ .i64) 0 zeroI64 g 0 cap l.toArray w hH (by simp; omega) (by simpa using hc)
  refine CC.mono ?_
  rintro e w' ⟨rfl, q, rfl⟩
  have ec : Lib.compactUpTo l.toArray l.toArray.size = Lib.compact l := by unfold Lib.compact; simp
  rw [ec]
  have es : l.toArray.size = l.length := by simp
  rw [es]
  have hc2 := Lib.ownsRow_putRow (q := q) (k := (Lib.compact l).length) (ys := Lib.compact l ++ List.replicate (l.length - (Lib.compact l).length) 0) h (by simp; omega) hle
  rw [List.take_left] at hc2
  refine ⟨_, rfl, ?_, rfl, ?_⟩
  · unfold RowI OwnE
    rw [flatI]
    exact hc2
  · have := grownBy_sortedI (w := w) (g := g) (n := q) (os := #[]) (Lib.compact l ++ List.replicate (l.length - (Lib.compact l).length) 0).toArray
    rw [grow_empty] at this
    exact ⟨this.os, this.tape, this.output, this.size, fun k hk hx => this.block k hk (fun e => hx (by rw [e]; rfl))⟩
end Go.Proofs.YtepldjidkomclaaGreat.Ca
namespace Go.Proofs.YtepldjidkomclaaGreat.Ca
set_option linter.unusedSimpArgs false
set_option linter.unusedVariables false
open Go.RowKit
structure Zn where
  f : Int
  t : Int
  d : Int
  s : Int
deriving DecidableEq
def encZn (z : Zn) : List Value := [.int .i64 z.f, .int .i64 z.t, .int .i64 z.d, .int .i64 z.s]
theorem encZn_len (z : Zn) : (encZn z).length = 4 := rfl
theorem encZn_one (z : Zn) : ∀ u ∈ encZn z, u.oneCell' = true := by
  intro u hu
  simp only [encZn, List.mem_cons, List.not_mem_nil, or_false] at hu
  rcases hu with rfl | rfl | rfl | rfl <;> rfl
def cut (b : Bd) : Int := if b.s = 1 then b.p + 1 else b.p
def downF (l : List Bd) (x : Int) : Int := sumQ (fun b => decide (b.s = 1 ∧ b.p + 1 = x)) l
def upF (l : List Bd) (x : Int) : Int := sumQ (fun b => decide (b.s ≠ 1 ∧ b.p = x)) l
theorem compact_sorted {l : List Int} (h : l.Pairwise (· ≤ ·)) : (Lib.compact l).Pairwise (· < ·) ∧ ∀ x, x ∈ Lib.compact l ↔ x ∈ l := by
  have hle : ∀ i j, i ≤ j → j < l.length → l.toArray[i]! ≤ l.toArray[j]! := by
    intro i j hij hj
    rcases Nat.lt_or_ge i j with h1 | h1
    · have := List.pairwise_iff_getElem.1 h i j (by omega) hj h1
      simpa [getElem!_pos, show i < l.length by omega, hj] using this
    · obtain rfl : i = j := by omega
      exact Int.le_refl _
  have key : ∀ m, m ≤ l.length → (Lib.compactUpTo l.toArray m).Pairwise (· < ·) ∧ ∀ x, x ∈ Lib.compactUpTo l.toArray m ↔ ∃ j, j < m ∧ l.toArray[j]! = x := by
    intro m
    induction m with
    | zero => intro _; simp [Lib.compactUpTo]
    | succ m ih =>
      intro hm
      obtain ⟨h1, h2⟩ := ih (by omega)
      rw [Lib.compactUpTo_succ]
      cases hk : Lib.keeps l.toArray m with
      | false =>
        simp only [Bool.false_eq_true, if_false, List.append_nil]
        refine ⟨h1, fun x => ?_⟩
        rw [h2 x]
        simp only [Lib.keeps, decide_eq_false_iff_not, not_or, Decidable.not_not] at hk
        refine ⟨fun ⟨j, j1, j2⟩ => ⟨j, by omega, j2⟩, fun ⟨j, j1, j2⟩ => ?_⟩
        rcases Nat.lt_or_ge j m with q | q
        · exact ⟨j, q, j2⟩
        · obtain rfl : j = m := by omega
          exact ⟨j - 1, by omega, by rw [← hk.2]; exact j2⟩
      | true =>
        simp only [if_true]
        have hk' : m = 0 ∨ l.toArray[m]! ≠ l.toArray[m - 1]! := by simpa [Lib.keeps] using hk
        refine ⟨List.pairwise_append.2 ⟨h1, List.pairwise_singleton _ _, fun x hx y hy => ?_⟩, fun x => ?_⟩
        · rw [List.mem_singleton.1 hy]
          obtain ⟨j, j1, rfl⟩ := (h2 x).1 hx
          have a1 := hle j (m - 1) (by omega) (by omega)
          have a2 := hle (m - 1) m (by omega) (by omega)
          rcases hk' with q | q
          · omega
          · omega
        · rw [List.mem_append, h2 x, List.mem_singleton]
          refine ⟨?_, fun ⟨j, j1, j2⟩ => ?_⟩
          · rintro (⟨j, j1, j2⟩ | rfl)
            · exact ⟨j, by omega, j2⟩
            · exact ⟨m, by omega, rfl⟩
          · rcases Nat.lt_or_ge j m with q | q
            · exact .inl ⟨j, q, j2⟩
            · obtain rfl : j = m := by omega
              exact .inr j2.symm
  obtain ⟨h1, h2⟩ := key l.length (Nat.le_refl _)
  refine ⟨h1, fun x => ?_⟩
  unfold Lib.compact
  rw [h2 x]
  constructor
  · rintro ⟨j, j1, rfl⟩
    rw [getElem!_pos _ j (by simpa using j1)]
    simp
  · intro hx
    obtain ⟨j, j1, j2⟩ := List.getElem_of_mem hx
    exact ⟨j, j1, by rw [getElem!_pos _ j (by simpa using j1)]; simpa using j2⟩
def starts (l : List Bd) : List Int := Lib.compact ((1 :: l.map cut).mergeSort fun x y => decide (x ≤ y))
theorem starts_spec (l : List Bd) : (starts l).Pairwise (· < ·) ∧ ∀ x, x ∈ starts l ↔ x = 1 ∨ ∃ b ∈ l, cut b = x := by
  have hs : ((1 :: l.map cut).mergeSort fun x y => decide (x ≤ y)).Pairwise (· ≤ ·) := by
    have := List.pairwise_mergeSort (le := fun x y : Int => decide (x ≤ y)) (by intro a b c; simp; omega) (by intro a b; simp; omega) (1 :: l.map cut)
    simpa using this
  obtain ⟨h1, h2⟩ := compact_sorted hs
  refine ⟨h1, fun x => ?_⟩
  unfold starts
  rw [h2 x, (List.mergeSort_perm _ _).mem_iff]
  simp [eq_comm]
theorem starts_len (l : List Bd) : (starts l).length ≤ l.length + 1 := by
  unfold starts
  have := Lib.compact_length_le ((1 :: l.map cut).mergeSort fun x y => decide (x ≤ y))
  rw [List.length_mergeSort] at this
  simpa using this
def zAt (l : List Bd) (S : List Int) (i : Nat) : List Zn :=
  if S.getD i 0 ≤ 1000000 then [⟨S.getD i 0, if i + 1 < S.length then S.getD (i + 1) 0 - 1 else 1000000, dem l (S.getD i 0), sup l (S.getD i 0)⟩] else []
def zTo (l : List Bd) (S : List Int) (i : Nat) : List Zn := (List.range i).flatMap (zAt l S)
theorem zTo_succ (l : List Bd) (S : List Int) (i : Nat) : zTo l S (i + 1) = zTo l S i ++ zAt l S i := by unfold zTo; rw [List.range_succ, List.flatMap_append]; simp
def zonesL (l : List Bd) : List Zn := zTo l (starts l) (starts l).length
def dmd (l : List Bd) (S : List Int) (i : Nat) : Int := sumQ (fun b => decide (b.s = 1 ∧ b.p + 1 ∉ S.take i)) l
def spl (l : List Bd) (S : List Int) (i : Nat) : Int := sumQ (fun b => decide (b.s ≠ 1 ∧ b.p ∈ S.take i)) l
theorem sumQ_split {f g h : Bd → Bool} {l : List Bd} (e : ∀ b ∈ l, (if f b then b.q else 0) = (if g b then b.q else 0) + (if h b then b.q else 0)) : sumQ f l = sumQ g l + sumQ h l := by
  induction l with
  | nil => rfl
  | cons b l ih =>
    have := e b List.mem_cons_self
    simp only [sumQ, ih fun x hx => e x (List.mem_cons_of_mem _ hx)]
    omega
theorem dmd_step {l : List Bd} {S : List Int} (hs : S.Pairwise (· < ·)) {i : Nat} (hi : i < S.length) : dmd l S (i + 1) = dmd l S i - downF l (S.getD i 0) := by
  have hg : S.getD i 0 = S[i] := by simp [hi]
  have hn : S[i] ∉ S.take i := fun hm => by
    obtain ⟨j, hj, e⟩ := List.getElem_of_mem hm
    rw [List.length_take] at hj
    rw [List.getElem_take] at e
    have := List.pairwise_iff_getElem.1 hs j i (by omega) hi (by omega)
    omega
  have : dmd l S i = dmd l S (i + 1) + downF l (S.getD i 0) := by
    unfold dmd downF
    refine sumQ_split fun b _ => ?_
    rw [hg, take_snoc hi]
    simp only [List.mem_append, List.mem_singleton, not_or, decide_eq_true_eq]
    by_cases h1 : b.s = 1
    · by_cases h2 : b.p + 1 = S[i]
      · rw [h2, if_pos ⟨h1, hn⟩, if_neg (by simp), if_pos ⟨h1, rfl⟩]; omega
      · by_cases h3 : b.p + 1 ∈ S.take i
        · rw [if_neg (by simp [h3]), if_neg (by simp [h3]), if_neg (by simp [h2])]; rfl
        · rw [if_pos ⟨h1, h3⟩, if_pos ⟨h1, h3, h2⟩, if_neg (by simp [h2])]; omega
    · simp [h1]
  omega
theorem spl_step {l : List Bd} {S : List Int} (hs : S.Pairwise (· < ·)) {i : Nat} (hi : i < S.length) : spl l S (i + 1) = spl l S i + upF l (S.getD i 0) := by
  have hg : S.getD i 0 = S[i] := by simp [hi]
  have hn : S[i] ∉ S.take i := fun hm => by
    obtain ⟨j, hj, e⟩ := List.getElem_of_mem hm
    rw [List.length_take] at hj
    rw [List.getElem_take] at e
    have := List.pairwise_iff_getElem.1 hs j i (by omega) hi (by omega)
    omega
  unfold spl upF
  refine sumQ_split fun b _ => ?_
  rw [hg, take_snoc hi]
  simp only [List.mem_append, List.mem_singleton, decide_eq_true_eq]
  by_cases h1 : b.s = 1
  · simp [h1]
  · by_cases h2 : b.p = S[i]
    · rw [h2, if_pos ⟨h1, .inr rfl⟩, if_neg (by simp [hn]), if_pos ⟨h1, rfl⟩]; omega
    · by_cases h3 : b.p ∈ S.take i
      · rw [if_pos ⟨h1, .inl h3⟩, if_pos ⟨h1, h3⟩, if_neg (by simp [h2])]; omega
      · rw [if_neg (by simp [h2, h3]), if_neg (by simp [h3]), if_neg (by simp [h2])]; rfl
theorem mem_take_lt {S : List Int} (hs : S.Pairwise (· < ·)) {i : Nat} (hi : i < S.length) {x : Int} (hx : x ∈ S) : x ∈ S.take (i + 1) ↔ x ≤ S.getD i 0 := by
  have hg : S.getD i 0 = S[i] := by simp [hi]
  rw [hg]
  constructor
  · intro hm
    obtain ⟨j, hj, e⟩ := List.getElem_of_mem hm
    rw [List.length_take] at hj
    rw [List.getElem_take] at e
    rcases Nat.lt_or_ge j i with q | q
    · have := List.pairwise_iff_getElem.1 hs j i (by omega) hi q
      omega
    · obtain rfl : j = i := by omega
      omega
  · intro hle
    obtain ⟨j, hj, e⟩ := List.getElem_of_mem hx
    rcases Nat.lt_or_ge i j with q | q
    · have := List.pairwise_iff_getElem.1 hs i j hi hj q
      omega
    · rw [← e]
      exact List.mem_take_iff_getElem.2 ⟨j, by omega, rfl⟩
theorem dmd_at {l : List Bd} {i : Nat} (hi : i < (starts l).length) : dmd l (starts l) (i + 1) = dem l ((starts l).getD i 0) := by
  obtain ⟨h1, h2⟩ := starts_spec l
  unfold dmd dem
  refine sumQ_congr fun b hb => ?_
  unfold buyT
  by_cases hs : b.s = 1
  · have hm : b.p + 1 ∈ starts l := (h2 _).2 (.inr ⟨b, hb, by simp [cut, hs]⟩)
    have hk := mem_take_lt h1 hi hm
    rw [decide_eq_decide]
    refine ⟨fun ⟨q1, q2⟩ => ⟨q1, ?_⟩, fun ⟨q1, q2⟩ => ⟨q1, fun q3 => ?_⟩⟩
    · have : ¬ (b.p + 1 ≤ (starts l).getD i 0) := fun h => q2 (hk.2 h)
      omega
    · have := hk.1 q3
      omega
  · simp [hs]
theorem spl_at {l : List Bd} {i : Nat} (hi : i < (starts l).length) : spl l (starts l) (i + 1) = sup l ((starts l).getD i 0) := by
  obtain ⟨h1, h2⟩ := starts_spec l
  unfold spl sup
  refine sumQ_congr fun b hb => ?_
  unfold selT
  by_cases hs : b.s = 1
  · simp [hs]
  · have hm : b.p ∈ starts l := (h2 _).2 (.inr ⟨b, hb, by simp [cut, hs]⟩)
    have hk := mem_take_lt h1 hi hm
    rw [decide_eq_decide]
    exact ⟨fun ⟨q1, q2⟩ => ⟨q1, hk.1 q2⟩, fun ⟨q1, q2⟩ => ⟨q1, hk.2 q2⟩⟩
theorem dmd_zero (l : List Bd) (S : List Int) : dmd l S 0 = sumQ (fun b => decide (b.s = 1)) l := by unfold dmd; simp
theorem spl_zero (l : List Bd) (S : List Int) : spl l S 0 = 0 := by
  unfold spl
  induction l with
  | nil => rfl
  | cons b l ih => simp only [sumQ, ih]; simp
end Go.Proofs.YtepldjidkomclaaGreat.Ca
namespace Go.Proofs.YtepldjidkomclaaGreat.Ca
set_option linter.unusedSimpArgs false
set_option linter.unusedVariables false
open Go.RowKit Go.Maps
theorem infoZn : (Tryz.prog.info? 132).map (fun i => (i.zero, i.size, i.bytes)) = some (some (.agg #[.int .i64 0, .int .i64 0, .int .i64 0, .int .i64 0]), 4, 32) := by kernel_rfl
theorem undZn : Tryz.prog.underlying 129 = some (.slice 132) := by kernel_rfl
theorem infoI64 : (Tryz.prog.info? 2).map (fun i => (i.zero, i.size, i.bytes)) = some (some (.int .i64 0), 1, 8) := by kernel_rfl
theorem undI64 : Tryz.prog.underlying 26 = some (.slice 2) := by kernel_rfl
abbrev RowZ (B : Nat) (w : World) (v : Value) (l : List Zn) : Prop := OwnE encZn 4 132 B w v l
theorem i64_append {B : Nat} {w : World} {v : Value} {l : List Int} (h : RowI B w v l) (hB : B ≤ w.heap.size) {u : Value} {m : List Int} (hu : SrcE encI 1 w u m) (hn : l.length + m.length ≤ 1000000) (ty : TypeId) :
    ∃ v' w', (Builtin.append_ #[26, 26] ty #[v, u]).run Tryz.prog w = .ok v' w' ∧ RowI B w' v' (l ++ m) ∧ Kept (fun k => some k = v.ownBlock) w w' ∧ (v'.ownBlock = v.ownBlock ∨ v'.ownBlock = some w.heap.size) :=
  own_append undI64 infoI64 rfl (by decide) encI_len encI_one h hB hu (by unfold maxLen; omega) (by omega)
theorem zn_append {B : Nat} {w : World} {v : Value} {l : List Zn} (h : RowZ B w v l) (hB : B ≤ w.heap.size) {u : Value} {m : List Zn} (hu : SrcE encZn 4 w u m) (hn : l.length + m.length ≤ 1000000) (ty : TypeId) :
    ∃ v' w', (Builtin.append_ #[129, 129] ty #[v, u]).run Tryz.prog w = .ok v' w' ∧ RowZ B w' v' (l ++ m) ∧ Kept (fun k => some k = v.ownBlock) w w' ∧ (v'.ownBlock = v.ownBlock ∨ v'.ownBlock = some w.heap.size) :=
  own_append undZn infoZn rfl (by decide) encZn_len encZn_one h hB hu (by unfold maxLen; omega) (by omega)
theorem MapF.mono {w : World} {b n m : Nat} {F : Int → Int} (h : MapF w b F n) (hn : n ≤ m) : MapF w b F m := by
  obtain ⟨D, ⟨es, clock, hb, hr, hs, hD⟩, h2⟩ := h
  exact ⟨D, ⟨es, clock, hb, hr, Nat.le_trans hs hn, hD⟩, h2⟩
theorem MapF.congr {w : World} {b n : Nat} {F G : Int → Int} (h : MapF w b F n) (hG : ∀ k, G k = F k) : MapF w b G n := by
  obtain rfl : G = F := funext hG
  exact h
theorem MapF.ne_row {α : Type} {enc : α → List Value} {sz B b n : Nat} {e : TypeId} {w : World} {v : Value} {l : List α} {F : Int → Int} (h : MapF w b F n) (hr : OwnE enc sz e B w v l) : ¬ some b = v.ownBlock := by
  intro hb
  obtain ⟨cs, hcs⟩ := own_lt hr hb.symm
  obtain ⟨D, ⟨es, clock, hm, _⟩, _⟩ := h
  have := (show w.heap[b]? = _ from hcs).symm.trans hm
  simp at this
theorem _root_.Go.Proofs.YtepldjidkomclaaGreat.OwnE.own_ge {α : Type} {enc : α → List Value} {sz B : Nat} {e : TypeId} {w : World} {v : Value} {l : List α} (h : OwnE enc sz e B w v l) {k : Nat} (hk : some k = v.ownBlock) : B ≤ k := by
  rcases h.2 with ⟨rfl, _⟩ | ⟨g, cap, cur, rfl, hb, _⟩
  · cases hk
  · injection hk with hk
    subst hk
    exact hb
theorem _root_.Go.Proofs.YtepldjidkomclaaGreat.OwnE.new {α : Type} {enc : α → List Value} {sz : Nat} {e : TypeId} {B : Nat} (w : World) (hB : B ≤ w.heap.size) (a : α) (hsz : (enc a).length = sz) (cs : Array Value) (hcs : cs = (enc a).toArray) : OwnE enc sz e B (w.alloc (.cells cs e (0, 0))) (.slice (some ⟨w.heap.size, 0, none⟩) 1 1) [a] := by
  subst hcs
  unfold OwnE
  rw [show flatE enc [a] = enc a by simp [flatE]]
  exact ⟨by rw [hsz]; simp, .inr ⟨w.heap.size, 1, _, rfl, hB, heap_alloc_new w _, Nat.le_refl _, by unfold maxLen; omega, by simp [hsz], by simp [hsz, List.take_of_length_le]⟩⟩
structure Z1 (w0 : World) (u d : Nat) (l : List Bd) (i : Nat) (w : World) (v : Value) : Prop where
  row : RowI w0.heap.size w v (1 :: (l.take i).map cut)
  dn : MapF w d (downF (l.take i)) i
  up : MapF w u (upF (l.take i)) i
  below : Below w0.heap.size w0 w
  ne : u ≠ d
  gu : w0.heap.size ≤ u
  gd : w0.heap.size ≤ d
theorem Z1.alloc {w0 : World} {u d : Nat} {l : List Bd} {i : Nat} {w : World} {v : Value} (h : Z1 w0 u d l i w v) (o : Obj) : Z1 w0 u d l i (w.alloc o) v :=
  ⟨h.row.alloc o, h.dn.below ((Below.refl _ _).alloc (Nat.le_refl _) _), h.up.below ((Below.refl _ _).alloc (Nat.le_refl _) _), h.below.trans (((Below.refl w.heap.size w).alloc (Nat.le_refl _) o).mono h.below.size), h.ne, h.gu, h.gd⟩
theorem Z1.buy {w0 : World} {u d : Nat} {l : List Bd} {i : Nat} {w : World} {v : Value} (h : Z1 w0 u d l i w v) (hi : i < l.length) (hl : l.length ≤ 4096) {b : Bd} (hb : b = l[i]) (hs : b.s = 1) (hk : (Lit.int .i64 (b.p + 1)).wf = true) (ty : TypeId) :
    ∃ w2, (Instr.mapUpdate 171 (.map (some d)) (.int .i64 (b.p + 1)) (.int .i64 (downF (l.take i) (b.p + 1) + b.q))).run Tryz.prog w = .ok () w2 ∧
      ∃ v' w3, (Builtin.append_ #[26, 26] ty #[v, .slice (some ⟨w2.heap.size, 0, none⟩) 1 1]).run Tryz.prog (w2.alloc (.cells #[.int .i64 (b.p + 1)] 2)) = .ok v' w3 ∧ Z1 w0 u d l (i + 1) w3 v' ∧ Kept (fun k => w0.heap.size ≤ k) w w3 ∧ Kept (fun k => k = d) w w2 := by
  obtain ⟨w2, r1, m1, k1⟩ := h.dn.put (v := downF (l.take i) (b.p + 1) + b.q) (by omega) hk
  obtain ⟨w2', hw2'⟩ : ∃ w2', w2' = w2.alloc (.cells #[.int .i64 (b.p + 1)] 2) := ⟨_, rfl⟩
  have ka : Kept (fun k => k = d) w w2' := by rw [hw2']; exact k1.alloc _
  have rr := h.row.kept ka (fun b' hb' => fun e => h.dn.ne_row h.row (by rw [hb', e]))
  have hB : w0.heap.size ≤ w2'.heap.size := Nat.le_trans h.below.size ka.size
  have so : SrcE encI 1 w2' (.slice (some ⟨w2.heap.size, 0, none⟩) 1 1) [b.p + 1] := by
    rw [hw2']
    exact SrcE.one (Cells.new w2 #[.int .i64 (b.p + 1)] 2)
  obtain ⟨v', w3, r2, r3, k3, k4⟩ := i64_append rr hB so (by simp; omega) ty
  have ht : l.take (i + 1) = l.take i ++ [b] := by rw [hb]; exact take_snoc hi
  have kd : Kept (fun k => w0.heap.size ≤ k) w w3 := (ka.mono (fun k hk => by have := h.gd; omega)).trans k3 (fun k _ hk => rr.own_ge hk)
  have d2 : MapF w2' d (fun j => if j = b.p + 1 then downF (l.take i) (b.p + 1) + b.q else downF (l.take i) j) (i + 1) := by rw [hw2']; exact m1.below ((Below.refl _ _).alloc (Nat.le_refl _) _)
  have u2 : MapF w2' u (upF (l.take i)) i := h.up.kept ka h.ne
  refine ⟨w2, r1, v', w3, by rw [← hw2']; exact r2, ⟨?_, ?_, ?_, h.below.trans (kd.below h.below.size (fun k hk => hk)), h.ne, h.gu, h.gd⟩, kd, k1⟩
  · rw [ht, List.map_append]
    have : cut b = b.p + 1 := by simp [cut, hs]
    rw [show List.map cut [b] = [b.p + 1] by simp [this]]
    exact r3
  · refine (d2.kept k3 (fun e => d2.ne_row rr e)).congr fun k => ?_
    rw [ht]
    unfold downF
    rw [sumQ_snoc]
    by_cases hk : k = b.p + 1
    · subst hk; simp [hs]
    · rw [if_neg hk, if_neg (by simp; omega)]; omega
  · refine ((u2.kept k3 (fun e => u2.ne_row rr e)).mono (Nat.le_succ i)).congr fun k => ?_
    rw [ht]
    unfold upF
    rw [sumQ_snoc]
    simp [hs]
theorem Z1.sell {w0 : World} {u d : Nat} {l : List Bd} {i : Nat} {w : World} {v : Value} (h : Z1 w0 u d l i w v) (hi : i < l.length) (hl : l.length ≤ 4096) {b : Bd} (hb : b = l[i]) (hs : b.s ≠ 1) (hk : (Lit.int .i64 b.p).wf = true) (ty : TypeId) :
    ∃ w2, (Instr.mapUpdate 171 (.map (some u)) (.int .i64 b.p) (.int .i64 (upF (l.take i) b.p + b.q))).run Tryz.prog w = .ok () w2 ∧
      ∃ v' w3, (Builtin.append_ #[26, 26] ty #[v, .slice (some ⟨w2.heap.size, 0, none⟩) 1 1]).run Tryz.prog (w2.alloc (.cells #[.int .i64 b.p] 2)) = .ok v' w3 ∧ Z1 w0 u d l (i + 1) w3 v' ∧ Kept (fun k => w0.heap.size ≤ k) w w3 ∧ Kept (fun k => k = u) w w2 := by
  obtain ⟨w2, r1, m1, k1⟩ := h.up.put (v := upF (l.take i) b.p + b.q) (by omega) hk
  obtain ⟨w2', hw2'⟩ : ∃ w2', w2' = w2.alloc (.cells #[.int .i64 b.p] 2) := ⟨_, rfl⟩
  have ka : Kept (fun k => k = u) w w2' := by rw [hw2']; exact k1.alloc _
  have rr := h.row.kept ka (fun b' hb' => fun e => h.up.ne_row h.row (by rw [hb', e]))
  have hB : w0.heap.size ≤ w2'.heap.size := Nat.le_trans h.below.size ka.size
  have so : SrcE encI 1 w2' (.slice (some ⟨w2.heap.size, 0, none⟩) 1 1) [b.p] := by
    rw [hw2']
    exact SrcE.one (Cells.new w2 #[.int .i64 b.p] 2)
  obtain ⟨v', w3, r2, r3, k3, k4⟩ := i64_append rr hB so (by simp; omega) ty
  have ht : l.take (i + 1) = l.take i ++ [b] := by rw [hb]; exact take_snoc hi
  have kd : Kept (fun k => w0.heap.size ≤ k) w w3 := (ka.mono (fun k hk => by have := h.gu; omega)).trans k3 (fun k _ hk => rr.own_ge hk)
  have u2 : MapF w2' u (fun j => if j = b.p then upF (l.take i) b.p + b.q else upF (l.take i) j) (i + 1) := by rw [hw2']; exact m1.below ((Below.refl _ _).alloc (Nat.le_refl _) _)
  have d2 : MapF w2' d (downF (l.take i)) i := h.dn.kept ka (fun e => h.ne e.symm)
  refine ⟨w2, r1, v', w3, by rw [← hw2']; exact r2, ⟨?_, ?_, ?_, h.below.trans (kd.below h.below.size (fun k hk => hk)), h.ne, h.gu, h.gd⟩, kd, k1⟩
  · rw [ht, List.map_append]
    have : cut b = b.p := by simp [cut, hs]
    rw [show List.map cut [b] = [b.p] by simp [this]]
    exact r3
  · refine ((d2.kept k3 (fun e => d2.ne_row rr e)).mono (Nat.le_succ i)).congr fun k => ?_
    rw [ht]
    unfold downF
    rw [sumQ_snoc]
    simp [hs]
  · refine (u2.kept k3 (fun e => u2.ne_row rr e)).congr fun k => ?_
    rw [ht]
    unfold upF
    rw [sumQ_snoc]
    by_cases hk : k = b.p
    · subst hk; simp [hs]
    · rw [if_neg hk, if_neg (by simp; omega)]; omega
structure Z2 (w0 : World) (u d : Nat) (l : List Bd) (vs : Value) (i : Nat) (w : World) (vo : Value) : Prop where
  row : RowI w0.heap.size w vs (starts l)
  dn : MapF w d (downF l) 4097
  up : MapF w u (upF l) 4097
  below : Below w0.heap.size w0 w
  out : RowZ w0.heap.size w vo (zTo l (starts l) i)
theorem Z2.of {w0 : World} {u d n : Nat} {l : List Bd} {w w2 w3 : World} {v v3 : Value} (h : Z1 w0 u d l n w v) (hn : n = l.length) (hl : l.length ≤ 4096) (k2 : Kept (fun k => some k = v.ownBlock) w w2) (k3 : Kept (fun k => some k = v.ownBlock) w2 w3) (hr : RowI w0.heap.size w3 v3 (Lib.compact ((1 :: (l.take n).map cut).mergeSort fun x y => decide (x ≤ y)))) :
    Z2 w0 u d l v3 0 w3 (.slice none 0 0) := by
  have kk : Kept (fun k => some k = v.ownBlock) w w3 := k2.trans k3 (fun k _ hk => hk)
  have hd := (h.dn.kept kk (h.dn.ne_row h.row)).mono (show n ≤ 4097 by omega)
  have hu := (h.up.kept kk (h.up.ne_row h.row)).mono (show n ≤ 4097 by omega)
  rw [hn, List.take_length] at hr hd hu
  exact ⟨hr, hd, hu, h.below.trans (kk.below h.below.size (fun k hk => h.row.own_ge hk)), OwnE.nil _ _⟩
theorem Z2.same {w0 : World} {u d : Nat} {l : List Bd} {vs : Value} {i : Nat} {w : World} {vo : Value} (h : Z2 w0 u d l vs i w vo) (hz : zAt l (starts l) i = []) : Z2 w0 u d l vs (i + 1) w vo :=
  ⟨h.row, h.dn, h.up, h.below, by rw [zTo_succ, hz, List.append_nil]; exact h.out⟩
theorem zTo_len (l : List Bd) (S : List Int) (i : Nat) : (zTo l S i).length ≤ i := by
  induction i with
  | zero => simp [zTo]
  | succ i ih =>
    rw [zTo_succ, List.length_append]
    have : (zAt l S i).length ≤ 1 := by unfold zAt; split <;> simp
    omega
theorem Z2.app {w0 : World} {u d : Nat} {l : List Bd} {vs : Value} {i : Nat} {w : World} {vo : Value} (h : Z2 w0 u d l vs i w vo) (hi : i ≤ 4097) {f t dd ss : Int} (hz : zAt l (starts l) i = [⟨f, t, dd, ss⟩]) (ty : TypeId) :
    ∃ v' w3, (Builtin.append_ #[129, 129] ty #[vo, .slice (some ⟨w.heap.size, 0, none⟩) 1 1]).run Tryz.prog (w.alloc (.cells #[.int .i64 f, .int .i64 t, .int .i64 dd, .int .i64 ss] 132)) = .ok v' w3 ∧ Z2 w0 u d l vs (i + 1) w3 v' := by
  obtain ⟨w2, hw2⟩ : ∃ w2, w2 = w.alloc (.cells #[.int .i64 f, .int .i64 t, .int .i64 dd, .int .i64 ss] 132) := ⟨_, rfl⟩
  have b2 : Below w.heap.size w w2 := by rw [hw2]; exact (Below.refl _ _).alloc (Nat.le_refl _) _
  have so : SrcE encZn 4 w2 (.slice (some ⟨w.heap.size, 0, none⟩) 1 1) [⟨f, t, dd, ss⟩] := by
    rw [hw2]
    exact SrcE.one (Cells.new w #[.int .i64 f, .int .i64 t, .int .i64 dd, .int .i64 ss] 132)
  have ro := OwnE.below h.out b2
  have rs := OwnE.below h.row b2
  have hB : w0.heap.size ≤ w2.heap.size := Nat.le_trans h.below.size b2.size
  have hlen := zTo_len l (starts l) i
  obtain ⟨v', w3, r2, r3, k3, _⟩ := zn_append ro hB so (by simp; omega) ty
  refine ⟨v', w3, by rw [← hw2]; exact r2, ⟨?_, ?_, ?_, ?_, ?_⟩⟩
  · refine OwnE.kept rs k3 fun b hb e => ?_
    obtain ⟨c1, h1⟩ := own_lt rs hb
    obtain ⟨c2, h2⟩ := own_lt ro e.symm
    exact absurd (cells_type h1 h2) (by decide)
  · exact (h.dn.below b2).kept k3 ((h.dn.below b2).ne_row ro)
  · exact (h.up.below b2).kept k3 ((h.up.below b2).ne_row ro)
  · exact h.below.trans ((b2.mono h.below.size).trans (k3.below hB (fun k hk => ro.own_ge hk)))
  · rw [zTo_succ, hz]
    exact r3
theorem starts_ne (l : List Bd) : 0 < (starts l).length := List.length_pos_of_mem ((starts_spec l).2 1 |>.2 (.inl rfl))
theorem starts_bound {l : List Bd} (hok : ∀ b ∈ l, b.ok) {x : Int} (hx : x ∈ starts l) : 1 ≤ x ∧ x ≤ 1000001 := by
  rcases ((starts_spec l).2 x).1 hx with rfl | ⟨b, hb, rfl⟩
  · omega
  · obtain ⟨h1, h2, h3, _⟩ := hok b hb
    unfold cut
    split <;> omega
end Go.Proofs.YtepldjidkomclaaGreat.Ca
namespace Go.Proofs.YtepldjidkomclaaGreat.Ca
set_option linter.unusedSimpArgs false
set_option linter.unusedVariables false
open Go.RowKit
attribute [local go_sem] Oper.semAt_some
attribute [local go_sem ↓] Go.wp_at_zero Go.wp_at_succ
def RowL (w : World) (g n : Nat) (f : Nat → Int) : Prop := ∃ cs, Cells w g cs 2 ∧ cs.size = n ∧ ∀ i, i < n → cs[i]? = some (Value.int .i64 (f i))
theorem RowL.cell {w : World} {g n : Nat} {f : Nat → Int} (h : RowL w g n f) {i : Nat} (hi : i < n) : w.cell? ⟨g, i, none⟩ = some (.int .i64 (f i)) := by
  obtain ⟨cs, hc, _, hz⟩ := h
  rw [hc.cell]; exact hz i hi
theorem RowL.froz {w : World} {g n : Nat} {f : Nat → Int} (h : RowL w g n f) (i : Nat) : w.frozen? ⟨g, i, none⟩ = false := by
  obtain ⟨cs, hc, _⟩ := h
  exact hc.frozen i
theorem RowL.lt {w : World} {g n : Nat} {f : Nat → Int} (h : RowL w g n f) : g < w.heap.size := by
  obtain ⟨cs, hc, _⟩ := h
  exact hc.lt
theorem RowL.set {w : World} {g n : Nat} {f : Nat → Int} (h : RowL w g n f) (i : Nat) (v : Int) : RowL (w.setCell ⟨g, i, none⟩ (.int .i64 v)) g n (fun k => if k = i then v else f k) := by
  obtain ⟨cs, hc, hs, hz⟩ := h
  refine ⟨_, hc.set i _, by simp [hs], fun k hk => ?_⟩
  have hlt := (Array.getElem?_eq_some_iff.1 (hz k hk)).1
  by_cases e : k = i
  · subst e
    simp only [if_true]
    rw [Array.getElem?_setIfInBounds_self_of_lt hlt]
  · simp only [if_neg e]
    rw [Array.getElem?_setIfInBounds_ne (fun h => e h.symm)]
    exact hz k hk
theorem RowL.kept {X : Nat → Prop} {w w' : World} {g n : Nat} {f : Nat → Int} (h : RowL w g n f) (hk : Kept X w w') (hx : ¬ X g) : RowL w' g n f := by
  obtain ⟨cs, hc, hz⟩ := h
  exact ⟨cs, hc.kept hk hx, hz⟩
theorem RowL.new (w : World) (n : Nat) (cs : Array Value) (hs : cs.size = n) (hz : ∀ i, i < n → cs[i]? = some (Value.int .i64 0)) : RowL (w.alloc (.cells cs 2)) w.heap.size n (fun _ => 0) := ⟨cs, Cells.new w _ _, hs, hz⟩
theorem RowL.own {w : World} {g n : Nat} {f : Nat → Int} (h : RowL w g n f) {l : List Int} (hl : l.length = n) (he : ∀ (k : Nat) (hk : k < l.length), f k = l[k]) {B : Nat} (hB : B ≤ g) (hm : n ≤ maxLen) : RowI B w (.slice (some ⟨g, 0, none⟩) n n) l := by
  obtain ⟨cs, hc, hs, hz⟩ := h
  subst hl
  refine ⟨by rw [flatI]; simp, .inr ⟨g, l.length, cs, rfl, hB, hc, Nat.le_refl _, hm, by omega, ?_⟩⟩
  rw [flatI, Nat.mul_one]
  apply List.ext_getElem?
  intro j
  rw [List.getElem?_take, Array.getElem?_toList]
  by_cases hj : j < l.length
  · rw [if_pos hj, hz j hj, he j hj]; simp [hj]
  · rw [if_neg hj]; simp [show l.length ≤ j by omega]
theorem mk_i64 (w : World) (n : Nat) (hn : n ≤ 5000) : (Instr.makeSlice 26 (.int .i64 n) (.int .i64 n)).run Tryz.prog w = .ok (.slice (some ⟨w.heap.size, 0, none⟩) n n) (w.alloc (.cells (madeCells #[.int .i64 0] n) 2)) := by
  obtain ⟨i, h1, h2, h3, h4⟩ := info_of infoI64
  have := run_makeSlice (w := w) 26 2 i _ undI64 h1 h2 .i64 .i64 (n : Int) (n : Int) (by omega) (Int.le_refl _) (by rw [h3]; simp; omega) (by rw [h4]; omega) (by omega)
  rw [h3] at this
  simpa [Value.cells] using this
def afterT : Int → List Int → Int
  | t, [] => t
  | t, x :: r => afterT (t - min x t) r
def byTimeF : Int → List Int → List Int
  | _, [] => []
  | t, x :: r => min x t :: byTimeF (t - min x t) r
theorem afterT_snoc (l : List Int) (x : Int) : ∀ t, afterT t (l ++ [x]) = afterT t l - min x (afterT t l) := by
  induction l with
  | nil => exact fun t => rfl
  | cons y l ih => exact fun t => ih _
theorem byTimeF_snoc (l : List Int) (x : Int) : ∀ t, byTimeF t (l ++ [x]) = byTimeF t l ++ [min x (afterT t l)] := by
  induction l with
  | nil => exact fun t => rfl
  | cons y l ih => exact fun t => by simp only [List.cons_append, byTimeF, afterT, ih]
theorem byTimeF_len (l : List Int) : ∀ t, (byTimeF t l).length = l.length := by
  induction l with
  | nil => exact fun t => rfl
  | cons y l ih => exact fun t => by simp only [byTimeF, List.length_cons, ih]
theorem afterT_bound {l : List Int} (h : ∀ x ∈ l, 0 ≤ x) : ∀ t, 0 ≤ t → 0 ≤ afterT t l ∧ afterT t l ≤ t := by
  induction l with
  | nil => exact fun t ht => ⟨ht, Int.le_refl _⟩
  | cons y l ih =>
    intro t ht
    have hy := h y List.mem_cons_self
    obtain ⟨h1, h2⟩ := ih (fun x hx => h x (List.mem_cons_of_mem _ hx)) (t - min y t) (by omega)
    exact ⟨h1, by simp only [afterT]; omega⟩
set_option maxRecDepth 100000 in
set_option maxHeartbeats 4000000 in
theorem byTime_calls {w : World} {v : Value} {l : List Int} (hv : ReadsE encI 1 w v l) (hl : l.length ≤ 4096) (hok : ∀ x ∈ l, 0 ≤ x) {t : Int} (ht : 0 ≤ t ∧ t ≤ 5000000000000) :
    Calls Tryz.prog 101 #[.int .i64 t, v] w fun e w' => ∃ v', e = .returned v' ∧ RowI w.heap.size w' v' (byTimeF t l) ∧ Below w.heap.size w w' := by
  obtain ⟨hm, p, cap, bb, off, rfl, hp, hc⟩ := hv
  obtain ⟨n, hn⟩ : ∃ n, n = l.length := ⟨_, rfl⟩
  rw [← hn] at hp hm hl ⊢
  have HN := hid hn
  have HP := hid hp
  have HC := hid hc
  have HOK := hid hok
  have HT := hid ht
  obtain ⟨R, hR⟩ : ∃ R : Ending → World → Prop, R = fun e w' => ∃ v', e = .returned v' ∧ RowI w.heap.size w' v' (byTimeF t l) ∧ Below w.heap.size w w' := ⟨_, rfl⟩
  have HR := hid hR
  rw [← hR]
  have hn0 : (0 : Int) ≤ (n : Int) := by omega
  have hmk := mk_i64 w n (by omega)
  clear hR hn hp hc hok ht
  go_enter Tryz.func101, Tryz.ntmps101
  go_upto_region 3 with fail
  have S0 := hid (show ∀ wx, wx = w.alloc (.cells (madeCells #[.int .i64 0] n) 2) → RowL wx w.heap.size n (fun _ => 0) ∧ Below w.heap.size w wx by
    rintro wx rfl
    exact ⟨RowL.new w n _ (size_madeCells _ _) (fun i hi => by rw [← Array.getElem?_toList, toList_madeCells_one]; simp [hi]), (Below.refl _ _).alloc (Nat.le_refl _) _⟩)
  go_loopg [0, 13] n (fun k s0 s13 wr => ∃ (i : Nat) (h : Nat → Int), i + k = n ∧ s13 = .int .i64 i ∧ s0 = .int .i64 (afterT t (l.take i)) ∧ RowL wr w.heap.size n h ∧ (∀ k, k < i → h k = (byTimeF t (l.take i)).getD k 0) ∧ Below w.heap.size w wr)
  case atStart => exact ⟨0, _, by omega, rfl, rfl, (S0.out _ rfl).1, fun k hk => by omega, (S0.out _ rfl).2⟩
  case round =>
    obtain ⟨i, h, hik, rfl, rfl, hrow, hlo, hb⟩ := hrel
    have HIK := hid hik
    have HB := hid hb
    have HROW := hid hrow
    have HLO := hid hlo
    clear hik hb hrow hlo S0 hmk
    by_cases hin : i < n
    · have hil : i < l.length := by rw [← HN.out]; exact hin
      obtain ⟨rfl, hbb⟩ := HP.out (by omega)
      have c0 := (HB.out.cell (p := ⟨bb, off + i * 1 + 0, none⟩) hbb).trans (HC.out i hil 0 (by omega))
      simp [encI] at c0
      obtain ⟨x, hx⟩ : ∃ x, x = l[i] := ⟨_, rfl⟩
      rw [← hx] at c0
      have gi : (i : Int) < (n : Int) := by omega
      have gi0 : (0 : Int) ≤ (i : Int) := by omega
      have m0 := HROW.out.cell hin
      have f0 := HROW.out.froz i
      have l0 := HROW.out.lt
      obtain ⟨u, hu⟩ : ∃ u, u = h i := ⟨_, rfl⟩
      rw [← hu] at m0
      obtain ⟨a, ha⟩ : ∃ a, a = afterT t (l.take i) := ⟨_, rfl⟩
      have hab := afterT_bound (l := l.take i) (fun y hy => HOK.out y (List.mem_of_mem_take hy)) t HT.out.1
      have hT := HT.out
      have hx0 := HOK.out x (by rw [hx]; exact List.getElem_mem _)
      rw [← ha] at hab ⊢
      have ew : IntKind.i64.wrap (a - min x a) = a - min x a := IntWalk.i64_in _ (by omega)
      have ht : l.take (i + 1) = l.take i ++ [x] := by rw [hx]; exact take_snoc hil
      have AF := hid (show afterT t (l.take (i + 1)) = a - min x a by rw [ht, afterT_snoc, ← ha])
      have BF := hid (show byTimeF t (l.take (i + 1)) = byTimeF t (l.take i) ++ [min x a] by rw [ht, byTimeF_snoc, ← ha])
      have BL := hid (show (byTimeF t (l.take i)).length = i by rw [byTimeF_len, List.length_take]; omega)
      have m1 : (wr.setCell ⟨w.heap.size, i, none⟩ (.int .i64 (min x a))).cell? ⟨w.heap.size, i, none⟩ = some (.int .i64 (min x a)) := World.cell?_setCell_same' _ _ _ (by rw [m0]; rfl)
      have NX := hid (show ∀ wx, wx = wr.setCell ⟨w.heap.size, i, none⟩ (.int .i64 (min x a)) → ∃ h', RowL wx w.heap.size n h' ∧ (∀ k, k < i + 1 → h' k = (byTimeF t (l.take (i + 1))).getD k 0) ∧ Below w.heap.size w wx by
        rintro wx rfl
        refine ⟨_, HROW.out.set i (min x a), fun k hk => ?_, HB.out.trans (Kept.below ((Kept.refl (fun k => k = w.heap.size) wr).set (C := w.heap.size) rfl _ _) HB.out.size (fun k hk => by omega))⟩
        rw [BF.out]
        by_cases e : k = i
        · subst e
          rw [if_pos rfl, List.getD_eq_getElem?_getD, List.getElem?_append_right (Nat.le_of_eq BL.out), BL.out]; simp
        · rw [if_neg e, HLO.out k (by omega)]
          simp [List.getElem?_append_left, BL.out, show k < i by omega])
      clear hu hx ha ht hab hT
      go_wp2
      go_roundg (n - (i + 1))
      · obtain ⟨h', n1, n2, n3⟩ := NX.out _ rfl
        exact ⟨i + 1, h', by omega, by go_num, by rw [AF.out], n1, n2, n3⟩
      · have := HIK.out; omega
    · have hin' : i = n := by have := HIK.out; omega
      subst hin'
      have g1 : decide ((i : Int) < (i : Int)) = false := by simp
      have FIN := hid (show R (.returned (.slice (some ⟨w.heap.size, 0, none⟩) i i)) wr by
        rw [HR.out]
        have hlt : l.take i = l := by rw [HN.out, List.take_length]
        have hlo := HLO.out
        rw [hlt] at hlo
        exact ⟨_, rfl, HROW.out.own (l := byTimeF t l) (by rw [byTimeF_len]; exact HN.out.symm) (fun k hk => by rw [hlo k (by rw [byTimeF_len] at hk; rw [HN.out]; exact hk)]; simp [hk]) (Nat.le_refl _) (by unfold maxLen; omega), HB.out⟩)
      go_wp2
      first | exact FIN.out | (go_ret; exact FIN.out)
end Go.Proofs.YtepldjidkomclaaGreat.Ca
namespace Go.Proofs.YtepldjidkomclaaGreat.Ca
set_option linter.unusedSimpArgs false
set_option linter.unusedVariables false
open Go.RowKit
attribute [local go_sem] Oper.semAt_some
attribute [local go_sem ↓] Go.wp_at_zero Go.wp_at_succ
def RowU (w : World) (g n : Nat) (f : Nat → Int) : Prop := ∃ cs, Cells w g cs 88 ∧ cs.size = n ∧ ∀ i, i < n → cs[i]? = some (Value.int .u64 (f i))
theorem RowU.cell {w : World} {g n : Nat} {f : Nat → Int} (h : RowU w g n f) {i : Nat} (hi : i < n) : w.cell? ⟨g, i, none⟩ = some (.int .u64 (f i)) := by
  obtain ⟨cs, hc, _, hz⟩ := h
  rw [hc.cell]; exact hz i hi
theorem RowU.froz {w : World} {g n : Nat} {f : Nat → Int} (h : RowU w g n f) (i : Nat) : w.frozen? ⟨g, i, none⟩ = false := by
  obtain ⟨cs, hc, _⟩ := h
  exact hc.frozen i
theorem RowU.lt {w : World} {g n : Nat} {f : Nat → Int} (h : RowU w g n f) : g < w.heap.size := by
  obtain ⟨cs, hc, _⟩ := h
  exact hc.lt
theorem RowU.set {w : World} {g n : Nat} {f : Nat → Int} (h : RowU w g n f) (i : Nat) (v : Int) : RowU (w.setCell ⟨g, i, none⟩ (.int .u64 v)) g n (fun k => if k = i then v else f k) := by
  obtain ⟨cs, hc, hs, hz⟩ := h
  refine ⟨_, hc.set i _, by simp [hs], fun k hk => ?_⟩
  have hlt := (Array.getElem?_eq_some_iff.1 (hz k hk)).1
  by_cases e : k = i
  · subst e
    simp only [if_true]
    rw [Array.getElem?_setIfInBounds_self_of_lt hlt]
  · simp only [if_neg e]
    rw [Array.getElem?_setIfInBounds_ne (fun h => e h.symm)]
    exact hz k hk
theorem RowU.kept {X : Nat → Prop} {w w' : World} {g n : Nat} {f : Nat → Int} (h : RowU w g n f) (hk : Kept X w w') (hx : ¬ X g) : RowU w' g n f := by
  obtain ⟨cs, hc, hz⟩ := h
  exact ⟨cs, hc.kept hk hx, hz⟩
def cfR (r : Nat → Int) (i j : Int) : Int := if r i.toNat > r j.toNat then -1 else if r i.toNat < r j.toNat then 1 else 0
set_option maxRecDepth 100000 in
set_option maxHeartbeats 4000000 in
theorem splitc_calls {w : World} {gr rb n : Nat} {r : Nat → Int} (h : RowU w gr n r) (hb : Cells w rb #[.slice (some ⟨gr, 0, none⟩) n n] 149) {i j : Nat} (hi : i < n) (hj : j < n) (hn : n ≤ 5000) :
    Calls Tryz.prog 77 #[.int .i64 i, .int .i64 j, .pointer (some ⟨rb, 0, none⟩)] w fun e w' => e = .returned (.int .i64 (cfR r i j)) ∧ Below w.heap.size w w' := by
  have c0 : w.cell? ⟨rb, 0, none⟩ = some (.slice (some ⟨gr, 0, none⟩) n n) := by rw [hb.cell]; rfl
  have l0 := hb.lt
  have l1 := h.lt
  have m1 := h.cell hi
  have m2 := h.cell hj
  unfold cfR
  have ti : ((i : Int)).toNat = i := by simp
  have tj : ((j : Int)).toNat = j := by simp
  rw [ti, tj]
  clear ti tj
  obtain ⟨x, hx⟩ : ∃ x, x = r i := ⟨_, rfl⟩
  obtain ⟨y, hy⟩ : ∃ y, y = r j := ⟨_, rfl⟩
  rw [← hx] at m1 ⊢
  rw [← hy] at m2 ⊢
  have p1 : (i : Int) < (n : Int) := by omega
  have p2 : (j : Int) < (n : Int) := by omega
  have p3 : (0 : Int) ≤ (i : Int) := by omega
  have p4 : (0 : Int) ≤ (j : Int) := by omega
  clear hx hy h hb
  obtain ⟨R, hR⟩ : ∃ R : Ending → World → Prop, R = fun e w' => e = .returned (.int .i64 (if x > y then -1 else if x < y then 1 else 0)) ∧ Below w.heap.size w w' := ⟨_, rfl⟩
  rw [← hR]
  have FM := hid (show ∀ (v : Int) k, v = (if x > y then -1 else if x < y then 1 else 0) → R (.returned (.int .i64 v)) (w.drewN k) from fun v k hv => by rw [hR, hv]; exact ⟨rfl, Below.of_drewN w k⟩)
  clear hR
  by_cases h1 : x > y
  · have e1 : y < x := h1
    have FN := hid (fun k => FM.out (-1) k (by rw [if_pos h1]))
    clear h1
    go_enter Tryz.func77, Tryz.ntmps77
    go_upto_region 1 with fail
    go_region
    all_goals go_wp2
    all_goals exact FN.out 1
  · have e1 : ¬ y < x := h1
    by_cases h2 : x < y
    · have FN := hid (fun k => FM.out 1 k (by rw [if_neg h1, if_pos h2]))
      clear h1
      go_enter Tryz.func77, Tryz.ntmps77
      go_upto_if 6 with (go_region)
      go_upto_region 3 with (go_region)
      go_region
      all_goals go_wp2
      all_goals exact FN.out 2
    · have FN := hid (fun k => FM.out 0 k (by rw [if_neg h1, if_neg h2]))
      clear h1
      go_enter Tryz.func77, Tryz.ntmps77
      go_upto_if 6 with (go_region)
      go_upto_region 3 with (go_region)
      go_region
      all_goals go_wp2
      all_goals exact FN.out 2
end Go.Proofs.YtepldjidkomclaaGreat.Ca
namespace Go.Proofs.YtepldjidkomclaaGreat.Ca
set_option linter.unusedSimpArgs false
set_option linter.unusedVariables false
open Go.RowKit
theorem cmp_split {w : World} {gr rb g n : Nat} {r : Nat → Int} (h : RowU w gr n r) (hb : Cells w rb #[.slice (some ⟨gr, 0, none⟩) n n] 149) (h1 : gr ≠ g) (h2 : rb ≠ g) (hn : n ≤ 5000) : CmpF 77 #[.pointer (some ⟨rb, 0, none⟩)] (cfR r) (fun x => 0 ≤ x ∧ x < (n : Int)) g w := by
  refine ⟨enters_of Tryz.func77 (by kernel_rfl) rfl, fun w' hk x y hx hy => ?_⟩
  obtain ⟨i, rfl⟩ : ∃ i : Nat, x = i := ⟨x.toNat, by omega⟩
  obtain ⟨j, rfl⟩ : ∃ j : Nat, y = j := ⟨y.toNat, by omega⟩
  exact splitc_calls (h.kept hk h1) (hb.kept hk h2) (by omega) (by omega) hn
theorem ltR (r : Nat → Int) (x y : Int) : ltC (cfR r) x y = decide (r y.toNat < r x.toNat) := by
  unfold ltC cfR
  by_cases h1 : r x.toNat > r y.toNat
  · rw [if_pos h1]; simp; omega
  · rw [if_neg h1]
    by_cases h2 : r x.toNat < r y.toNat
    · rw [if_pos h2]; simp; omega
    · rw [if_neg h2]; simp; omega
def sumI : List Int → Int
  | [] => 0
  | x :: l => x + sumI l
theorem sumI_snoc (l : List Int) (x : Int) : sumI (l ++ [x]) = sumI l + x := by
  induction l with
  | nil => simp [sumI]
  | cons y l ih => simp only [List.cons_append, sumI, ih]; omega
theorem quota_left {S t : Int} (hS : 0 < S) (l : List Int) : S * sumI (l.map fun x => t * x / S) + sumI (l.map fun x => t * x % S) = t * sumI l := by
  induction l with
  | nil => simp [sumI]
  | cons x l ih =>
    simp only [List.map_cons, sumI, Int.mul_add]
    have := Int.mul_ediv_add_emod (t * x) S
    omega
theorem rests_bound {S t : Int} (hS : 0 < S) (l : List Int) : 0 ≤ sumI (l.map fun x => t * x % S) ∧ sumI (l.map fun x => t * x % S) ≤ (S - 1) * l.length := by
  induction l with
  | nil => simp [sumI]
  | cons x l ih =>
    obtain ⟨h1, h2⟩ := ih
    have h3 := Int.emod_nonneg (t * x) (Int.ne_of_gt hS)
    have h4 := Int.emod_lt_of_pos (t * x) hS
    simp only [List.map_cons, sumI, List.length_cons, Int.natCast_add, Int.mul_add]
    constructor
    · omega
    · have : (S - 1) * ((1 : Nat) : Int) = S - 1 := by simp
      omega
theorem left_bound {t : Int} {l : List Int} (hS : 0 < sumI l) : 0 ≤ t - sumI (l.map fun x => t * x / sumI l) ∧ t - sumI (l.map fun x => t * x / sumI l) ≤ l.length := by
  have h1 := quota_left (t := t) hS l
  obtain ⟨h2, h3⟩ := rests_bound (t := t) hS l
  obtain ⟨S, hSe⟩ : ∃ S, S = sumI l := ⟨_, rfl⟩
  rw [← hSe] at h1 h2 h3 hS ⊢
  obtain ⟨q, hq⟩ : ∃ q, q = sumI (l.map fun x => t * x / S) := ⟨_, rfl⟩
  obtain ⟨rr, hr⟩ : ∃ rr, rr = sumI (l.map fun x => t * x % S) := ⟨_, rfl⟩
  rw [← hq, ← hr] at h1
  rw [← hr] at h2 h3
  rw [← hq]
  have h4 : S * (t - q) = rr := by rw [Int.mul_sub, Int.mul_comm S t]; omega
  constructor
  · rcases (show t - q < 0 ∨ 0 ≤ t - q by omega) with h | h
    · have := Int.mul_neg_of_pos_of_neg hS h
      omega
    · exact h
  · rcases (show (l.length : Int) < t - q ∨ t - q ≤ (l.length : Int) by omega) with h | h
    · have h5 : S * ((l.length : Int) + 1) ≤ S * (t - q) := Int.mul_le_mul_of_nonneg_left (by omega) (by omega)
      rw [Int.mul_add] at h5
      rw [Int.sub_mul] at h3
      omega
    · exact h
theorem swoR (r : Nat → Int) : Swo (ltC (cfR r)) :=
  ⟨fun a b h => by rw [ltR] at h ⊢; simp at h ⊢; omega, fun a b c h => by rw [ltR] at h ⊢; rw [ltR]; simp at h ⊢; omega⟩
def plusOne (f q : Nat → Int) (left : Nat) : Nat → Int := fun k => q k + if ∃ i, i < left ∧ f i = (k : Int) then 1 else 0
end Go.Proofs.YtepldjidkomclaaGreat.Ca
namespace Go.Proofs.YtepldjidkomclaaGreat.Ca
set_option linter.unusedSimpArgs false
set_option linter.unusedVariables false
open Go.RowKit
theorem quota_nat {t x S : Nat} (hx : x ≤ 1000000000) (ht : t ≤ S) (hS : 0 < S) : t * x / 18446744073709551616 < S ∧ (t * x / 18446744073709551616) * 18446744073709551616 + t * x % 18446744073709551616 = t * x := by
  refine ⟨?_, by omega⟩
  have h1 : t * x ≤ S * 1000000000 := Nat.mul_le_mul ht hx
  rw [Nat.div_lt_iff_lt_mul (by omega)]
  omega
structure SpR (w0 : World) (n : Nat) (q r o : Nat → Int) (w : World) : Prop where
  out : RowL w w0.heap.size n q
  rst : RowU w (w0.heap.size + 1) n r
  ord : Row w (w0.heap.size + 3) n o
  box : Cells w (w0.heap.size + 2) #[.slice (some ⟨w0.heap.size + 1, 0, none⟩) n n] 149
  below : Below w0.heap.size w0 w
theorem SpR.drew {w0 : World} {n : Nat} {q r o : Nat → Int} {w : World} (h : SpR w0 n q r o w) : SpR w0 n q r o w.drew := ⟨h.out, h.rst, h.ord, h.box, h.below.drew⟩
def upd (f : Nat → Int) (i : Nat) (v : Int) : Nat → Int := fun k => if k = i then v else f k
theorem set_kept (w : World) (b i : Nat) (v : Value) : Kept (fun k => k = b) w (w.setCell ⟨b, i, none⟩ v) := (Kept.refl (fun k => k = b) w).set (C := b) rfl _ _
theorem SpR.setQ {w0 : World} {n : Nat} {q r o : Nat → Int} {w : World} (h : SpR w0 n q r o w) (i : Nat) (v : Int) : SpR w0 n (upd q i v) r o (w.setCell ⟨w0.heap.size, i, none⟩ (.int .i64 v)) :=
  ⟨h.out.set i v, h.rst.kept (set_kept _ _ _ _) (by omega), h.ord.kept (set_kept _ _ _ _) (by omega), h.box.kept (set_kept _ _ _ _) (by omega), h.below.trans ((set_kept _ _ _ _).below h.below.size (fun k hk => by omega))⟩
theorem SpR.setR {w0 : World} {n : Nat} {q r o : Nat → Int} {w : World} (h : SpR w0 n q r o w) (i : Nat) (v : Int) : SpR w0 n q (upd r i v) o (w.setCell ⟨w0.heap.size + 1, i, none⟩ (.int .u64 v)) :=
  ⟨h.out.kept (set_kept _ _ _ _) (by omega), h.rst.set i v, h.ord.kept (set_kept _ _ _ _) (by omega), h.box.kept (set_kept _ _ _ _) (by omega), h.below.trans ((set_kept _ _ _ _).below h.below.size (fun k hk => by omega))⟩
theorem SpR.setO {w0 : World} {n : Nat} {q r o : Nat → Int} {w : World} (h : SpR w0 n q r o w) (i : Nat) (v : Int) : SpR w0 n q r (upd o i v) (w.setCell ⟨w0.heap.size + 3, i, none⟩ (.int .i64 v)) :=
  ⟨h.out.kept (set_kept _ _ _ _) (by omega), h.rst.kept (set_kept _ _ _ _) (by omega), h.ord.set i v, h.box.kept (set_kept _ _ _ _) (by omega), h.below.trans ((set_kept _ _ _ _).below h.below.size (fun k hk => by omega))⟩
def SpS (w0 : World) (n : Nat) (l : List Int) (t S : Int) (i : Nat) (w : World) : Prop :=
  ∃ q r o, SpR w0 n q r o w ∧ ∀ (k : Nat) (hk : k < l.length), k < i → q k = t * l[k] / S ∧ r k = t * l[k] % S ∧ o k = (k : Int)
theorem SpS.next {w0 : World} {n : Nat} {l : List Int} {t S : Int} {i : Nat} {q r o : Nat → Int} {w' : World} {x : Int} (hl : ∀ (k : Nat) (hk : k < l.length), k < i → q k = t * l[k] / S ∧ r k = t * l[k] % S ∧ o k = (k : Int)) (hi : i < l.length) (hx : x = l[i]) (h : SpR w0 n (upd q i (t * x / S)) (upd r i (t * x % S)) (upd o i (i : Int)) w') : SpS w0 n l t S (i + 1) w' := by
  refine ⟨_, _, _, h, fun k hk hki => ?_⟩
  unfold upd
  by_cases e : k = i
  · subst e
    rw [if_pos rfl, if_pos rfl, if_pos rfl, hx]
    exact ⟨rfl, rfl, rfl⟩
  · rw [if_neg e, if_neg e, if_neg e]
    exact hl k hk (by omega)
end Go.Proofs.YtepldjidkomclaaGreat.Ca
namespace Go.Proofs.YtepldjidkomclaaGreat.Ca
set_option linter.unusedSimpArgs false
set_option linter.unusedVariables false
open Go.RowKit
theorem order_facts {r f : Nat → Int} {n : Nat} (h : Good (ltC (cfR r)) (fun k => (k : Int)) f 0 n) : (∀ a, a < n → 0 ≤ f a ∧ f a < (n : Int)) ∧ (∀ a b, a < n → b < n → f a = f b → a = b) := by
  have hne : ∀ a b, a < b → b < n → f a ≠ f b := fun a b h1 h2 e => by
    have := h.srt a b (Nat.zero_le _) h1 h2
    rw [e] at this
    rcases this with q | ⟨_, q⟩
    · have := (swoR r).asym _ _ q
      rw [q] at this
      cases this
    · omega
  refine ⟨fun a ha => ?_, fun a b ha hb e => ?_⟩
  · obtain ⟨i, i1, i2, e⟩ := mem_seg.1 (h.perm.mem_iff.1 (mem_seg.2 ⟨a, Nat.zero_le _, ha, rfl⟩))
    omega
  · rcases Nat.lt_trichotomy a b with q | q | q
    · exact absurd e (hne a b q hb)
    · exact q
    · exact absurd e.symm (hne b a q ha)
open Classical in
theorem plus_step {f q : Nat → Int} {n k : Nat} (hinj : ∀ a b, a < n → b < n → f a = f b → a = b) (hk : k < n) (m : Nat) : plusOne f q (k + 1) m = if f k = (m : Int) then plusOne f q k m + 1 else plusOne f q k m := by
  unfold plusOne
  by_cases e : f k = (m : Int)
  · rw [if_pos e, if_pos ⟨k, Nat.lt_succ_self k, e⟩, if_neg (fun ⟨i, i1, i2⟩ => by have := hinj i k (by omega) hk (by rw [i2, e]); omega)]
    omega
  · rw [if_neg e]
    by_cases h2 : ∃ i, i < k ∧ f i = (m : Int)
    · obtain ⟨i, i1, i2⟩ := h2
      rw [if_pos ⟨i, by omega, i2⟩, if_pos ⟨i, i1, i2⟩]
    · rw [if_neg h2, if_neg (fun ⟨i, i1, i2⟩ => by
        rcases Nat.lt_or_ge i k with q | q
        · exact h2 ⟨i, q, i2⟩
        · have : i = k := by omega
          subst this
          exact e i2)]
end Go.Proofs.YtepldjidkomclaaGreat.Ca
