/- Pocket: the state of one pocket at a version. -/
import Derived.Test.YtnnbdjfeagcbdaaAsk
namespace Go.Proofs.Ytnnbdjfeagcbdaa
set_option linter.unusedSimpArgs false
set_option linter.unusedVariables false
open Go.RowKit Go.Shelf
attribute [local go_sem] Oper.semAt_some
attribute [local go_sem ↓] Go.wp_at_zero Go.wp_at_succ

/-- The state of the last piece of a list. -/
def endC (l : List Pc) : Cl := l.foldl (fun _ p => p.cell) ⟨0, 0, 0, 0⟩
theorem endC_snoc (l : List Pc) (p : Pc) : endC (l ++ [p]) = p.cell := by simp [endC]
def pocC (vs : List T) (n v r : Int) : Cl := if r = 0 then endC (visL (vs[v.toNat]?.getD .nil) n n) else ⟨0, 0, 0, 0⟩

set_option maxRecDepth 100000 in
set_option maxHeartbeats 4000000 in
theorem Pocket_calls (w : World) (sB vB : Nat) (vs : List T) (hst : StAt w sB vB vs) (hn : vs.length ≤ 1000) (hf : ∀ t ∈ vs, Fine t) (n v : Int) :
    Calls Try.prog 28 #[.pointer (some ⟨sB, 0, none⟩), .int .i64 n, .int .i64 v] w fun e w' =>
      e = .returned (.tuple #[(pocC vs n v (atE vs.length v (inB 1000000 n))).val, .int .i64 (atE vs.length v (inB 1000000 n))]) ∧ Below w.heap.size w w' := by
  have ST := hid hst
  have FI := hid hf
  have C0 := hid ((Cells.new w #[.int .i64 0, .int .i64 0, .int .i64 0, .int .i64 0] 52).alloc (.cells #[.int .i64 n] 3))
  have I1 := hid (show IntsAt ((w.alloc (.cells #[.int .i64 0, .int .i64 0, .int .i64 0, .int .i64 0] 52)).alloc (.cells #[.int .i64 n] 3)) (.slice (some ⟨w.heap.size + 1, 0, none⟩) 1 1) [n] by
    have := ints_one (w.alloc (.cells #[.int .i64 0, .int .i64 0, .int .i64 0, .int .i64 0] 52)) n 3
    rwa [World.size_alloc] at this)
  have U0 := hid (show Below w.heap.size w ((w.alloc (.cells #[.int .i64 0, .int .i64 0, .int .i64 0, .int .i64 0] 52)).alloc (.cells #[.int .i64 n] 3)) from (((Below.refl _ _).alloc (Nat.le_refl _) _).alloc (by simp) _))
  clear hst hf
  obtain ⟨F, hFe⟩ : ∃ F, F = Fence.wide := ⟨_, rfl⟩
  have hF : Free F Try.prog := hFe ▸ free_wide _
  have hro : F.round = none := by rw [hFe]; rfl
  have FE := hid hFe
  clear hFe
  refine (callsIn_wide (n := 6)).1 ?_
  rw [← FE.out]
  refine callsIn_of_wp_marks Try.func28 rfl (hF.fn _) ?_ hro
  rw [FE.out]
  refine wpIn_wide.2 ?_
  simp only [Try.ntmps28, List.size_toArray, List.length_cons, List.length_nil, Nat.reduceAdd, Nat.reduceSub, Array.replicate_succ, Array.replicate_zero, List.push_toArray, List.append_toArray, List.nil_append, List.cons_append]
  go_wp2_with fail
  refine (are_calls 1000000 _ _ [n] I1.out).mono ?_
  rintro e w1 ⟨rfl, hb1⟩
  rw [all_one]
  have B1 := hid (U0.out.trans (hb1.mono U0.out.size))
  have C1 := hid (C0.out.below hb1 C0.out.lt)
  clear hb1
  go_wp2_with fail
  refine (at_calls w1 sB vB vs (ST.out.below B1.out) (by omega) v (inB 1000000 n)).mono ?_
  rintro e w2 ⟨rfl, p, rfl, htr⟩
  have HT := hid htr
  obtain ⟨r, hr⟩ : ∃ r, r = atE vs.length v (inB 1000000 n) := ⟨_, rfl⟩
  have HR := hid hr
  rw [← hr]
  clear htr hr
  have l1 : w.heap.size < w2.heap.size := C1.out.lt
  have f0 : ∀ j, w2.frozen? ⟨w.heap.size, j, none⟩ = false := fun j => C1.out.frozen j
  have F0 := hid f0
  by_cases hz : r = 0
  · subst hz
    have hv := atE_zero HR.out.symm
    have hn1 : 1 ≤ n ∧ n ≤ 1000000 := by have := hv.2.2; simp only [inB, Bool.and_eq_true, decide_eq_true_eq] at this; exact this
    obtain ⟨t, htt⟩ : ∃ t, t = vs[v.toNat]?.getD .nil := ⟨_, rfl⟩
    have fi : Fine t := FI.out t (by rw [htt, List.getElem?_eq_getElem (by omega)]; exact List.getElem_mem _)
    have tr : TreeAt w2 p t := by rw [htt]; exact HT.out HR.out.symm
    have FT := hid fi
    have TR := hid tr
    have EQ := hid (show pocC vs n v 0 = endC (visL t n n) by unfold pocC; rw [if_pos rfl, htt])
    have CO := hid (Cells.new w2 #[.int .i64 0, .int .i64 0, .int .i64 0, .int .i64 0] 116)
    clear fi tr htt hv f0
    go_wp2_with fail
    refine (within_made p n n _).mono ?_
    rintro e w3 ⟨u, rfl, ⟨B0, B1', B2, rfl, hB0, hB1, hB2⟩, hb3⟩
    have co := CO.out.below hb3 (by simp)
    have b3 : Below w2.heap.size w2 w3 := Below.trans ((Below.refl _ w2).alloc (Nat.le_refl _) (.cells #[.int .i64 0, .int .i64 0, .int .i64 0, .int .i64 0] 116)) (hb3.mono (by simp))
    have B3 := hid b3
    have T3 := hid (TR.out.below b3)
    have CO3 := hid co
    clear co hb3 b3
    go_wp2
    refine (wpIn_wide (n := 6)).1 ?_
    rw [← FE.out]
    refine wpIn_rangeFunc_ownH hro (by omega) (gf := 102) (lb := #[.pointer (some ⟨B0, 0, none⟩), .pointer (some ⟨B1', 0, none⟩), .pointer (some ⟨B2, 0, none⟩)]) rfl (hF.fn _) (enters_of Try.func102 (by kernel_rfl) rfl)
      (within_stops F hF hro _ B0 B1' B2 w2.heap.size p t FT.out.good n n ⟨hn1.1, Int.le_refl _, hn1.2⟩ w3 hB0.lt hB1.lt hB2.lt B3.out.size (by simp [hB0.cell]) (by simp [hB1.cell]) (by simp [hB2.cell]) (Tn.of_tree (Nat.le_refl _) B3.out TR.out))
      belowK_t (belowK_b B3.out.size) (Below.refl _ _) (fun _ => rfl)
      (fun pre W => Cells W w2.heap.size (endC (vals pre)).vals 116 ∧ Below w2.heap.size w2 W ∧ w3.heap.size ≤ W.heap.size)
      (fun _ _ _ => False)
      (OwnFrom.and (fun s X Y row h hg hr => h.kept hg (fun r e => (hr r e).2)) (OwnFrom.and (ownFrom_below (Nat.le_refl _) B3.out.size) (fun s X Y row h hg hr => Nat.le_trans h hg.size)))
      (fun _ _ _ _ _ h _ _ => h)
      ⟨CO3.out, B3.out, Nat.le_refl _⟩
      (fun x a' W => ∃ Bx, w3.heap.size ≤ Bx ∧ Cells W Bx x.1.vals 118 ∧ a' = { tmps := #[.pointer (some ⟨sB, 0, none⟩), .int .i64 n, .int .i64 v, undef, undef, undef, .pointer (some ⟨w.heap.size, 0, none⟩), .int .i64 0, .pointer p, .int .i64 0, .pointer (some ⟨w2.heap.size, 0, none⟩), .pointer (some ⟨Bx, 0, none⟩), .tuple #[.pointer p, .int .i64 0], .pointer (some ⟨sB, 0, none⟩), .int .i64 v, .int .i64 n, .slice (some ⟨w.heap.size + 1, 0, none⟩) 1 1, .bool (inB 1000000 n), .tuple #[.pointer p, .int .i64 0], .pointer p, .int .i64 0, .int .i64 0, .bool false, undef, undef, .pointer p, .int .i64 n, .int .i64 n,
        .func (.func 102) #[] #[.pointer (some ⟨B0, 0, none⟩), .pointer (some ⟨B1', 0, none⟩), .pointer (some ⟨B2, 0, none⟩)], x.1.val, undef, undef, undef, undef, undef, undef, undef, undef, undef, undef, undef], defers := [] })
      (fun x a' s X Y row h hg hr => by obtain ⟨Bx, h1, h2, h3⟩ := h; exact ⟨Bx, h1, h2.kept hg (fun r e => (hr r e).2), h3⟩) ?assign ?body ?done ?stop
    case assign =>
      rintro l pre x W K ⟨i1, i2, i3⟩ hK
      gi_wp2
      exact hK _ _ ((KeepsOthers.alloc _ _).from _) ((Below.refl _ W).alloc i2.size _) ⟨i1.alloc _, i2.alloc i2.size _, by simp; omega⟩ ⟨W.heap.size, i3, Cells.new _ _ _, rfl⟩
    case body =>
      rintro l pre x a' W hl _ ⟨i1, i2, i3⟩ ⟨Bx, hBx, hcx, rfl⟩ hlt
      obtain ⟨e0, e1, e2, e3, e4, e5⟩ := pc_facts hcx
      have f10 : ∀ j, W.frozen? ⟨w2.heap.size, j, none⟩ = false := fun j => i1.frozen j
      have lW : w2.heap.size < W.heap.size := i1.lt
      have d0 : W.cell? ⟨w2.heap.size, 0, none⟩ = some (.int .i64 (endC (vals pre)).state) := by simp [i1.cell]
      have d1 : W.cell? ⟨w2.heap.size, 1, none⟩ = some (.int .i64 (endC (vals pre)).lot) := by simp [i1.cell]
      have d2 : W.cell? ⟨w2.heap.size, 2, none⟩ = some (.int .i64 (endC (vals pre)).owner) := by simp [i1.cell]
      have d3 : W.cell? ⟨w2.heap.size, 3, none⟩ = some (.int .i64 (endC (vals pre)).holder) := by simp [i1.cell]
      have II := hid (And.intro i1 (And.intro i2 i3))
      clear i1 i2 i3 hcx
      gi_wp2
      have hs := (((II.out.1.set 0 (.int .i64 x.1.cell.state)).set 1 (.int .i64 x.1.cell.lot)).set 2 (.int .i64 x.1.cell.owner)).set 3 (.int .i64 x.1.cell.holder)
      refine ⟨?_, ?_, by rw [vals_append, endC_snoc]; exact hs, ?_, by simpa [World.setCell] using II.out.2.2⟩
      · exact ((keepsFrom_set.trans keepsFrom_set).trans keepsFrom_set).trans keepsFrom_set
      · have hB : Below w2.heap.size W W := Below.refl _ _
        repeat (first | exact hB | refine Below.setCell ?_ (by simp) _)
      · have hB := II.out.2.1
        repeat (first | exact hB | refine Below.setCell ?_ (by simp) _)
    case done =>
      rintro D ys W hD hS ⟨i1, i2, i3⟩ hK
      have d0 : W.cell? ⟨w2.heap.size, 0, none⟩ = some (.int .i64 (endC (vals ys)).state) := by simp [i1.cell]
      have d1 : W.cell? ⟨w2.heap.size, 1, none⟩ = some (.int .i64 (endC (vals ys)).lot) := by simp [i1.cell]
      have d2 : W.cell? ⟨w2.heap.size, 2, none⟩ = some (.int .i64 (endC (vals ys)).owner) := by simp [i1.cell]
      have d3 : W.cell? ⟨w2.heap.size, 3, none⟩ = some (.int .i64 (endC (vals ys)).holder) := by simp [i1.cell]
      have c2 : Cells W w.heap.size #[.int .i64 0, .int .i64 0, .int .i64 0, .int .i64 0] 52 := C1.out.below i2 C1.out.lt
      have k0 : W.cell? ⟨w.heap.size, 0, none⟩ = some (.int .i64 0) := by simp [c2.cell]
      have k1 : W.cell? ⟨w.heap.size, 1, none⟩ = some (.int .i64 0) := by simp [c2.cell]
      have k2 : W.cell? ⟨w.heap.size, 2, none⟩ = some (.int .i64 0) := by simp [c2.cell]
      have k3 : W.cell? ⟨w.heap.size, 3, none⟩ = some (.int .i64 0) := by simp [c2.cell]
      have fz : ∀ j, W.frozen? ⟨w.heap.size, j, none⟩ = false := fun j => c2.frozen j
      have lz := c2.lt
      have C2 := hid c2
      have II := hid (And.intro i1 (And.intro i2 i3))
      have EN := hid (show endC (vals ys) = endC (visL t n n) by rw [hS])
      clear i1 i2 i3 c2
      obtain ⟨q, hq⟩ : ∃ q, q = endC (vals ys) := ⟨_, rfl⟩
      rw [← hq] at d0 d1 d2 d3 EN II
      have HK := hid hK
      clear hK hq hS
      go_wp2
      have hs := (((C2.out.set 0 (.int .i64 q.state)).set 1 (.int .i64 q.lot)).set 2 (.int .i64 q.owner)).set 3 (.int .i64 q.holder)
      have k1 := (KeepsOthers.setCell W ⟨w.heap.size, 0, none⟩ (.int .i64 q.state)).same D _ HK.out rfl
      have k2 := (KeepsOthers.setCell (W.setCell ⟨w.heap.size, 0, none⟩ (.int .i64 q.state)) ⟨w.heap.size, 1, none⟩ (.int .i64 q.lot)).same D _ k1 rfl
      have k3 := (KeepsOthers.setCell ((W.setCell ⟨w.heap.size, 0, none⟩ (.int .i64 q.state)).setCell ⟨w.heap.size, 1, none⟩ (.int .i64 q.lot)) ⟨w.heap.size, 2, none⟩ (.int .i64 q.owner)).same D _ k2 rfl
      have d1' := (KeepsOthers.setCell (((W.setCell ⟨w.heap.size, 0, none⟩ (.int .i64 q.state)).setCell ⟨w.heap.size, 1, none⟩ (.int .i64 q.lot)).setCell ⟨w.heap.size, 2, none⟩ (.int .i64 q.owner)) ⟨w.heap.size, 3, none⟩ (.int .i64 q.holder)).same D _ k3 rfl
      refine ⟨by simp, .inl ⟨_, _, rfl, run_takeDeferred (b := D) (ds := []) d1', ?_⟩⟩
      have hc := hs.put (l := D) (o := .deferred (some [])) d1' rfl (.deferred none)
      refine ⟨.tuple #[q.val, .int .i64 0], by simp [results, Try.results28, go_sem, hc.cell], ?_, ?_⟩
      · rw [← HR.out, EQ.out, ← EN.out]
      · have hB := B1.out
        have hI := II.out.2.1
        have b1 := Below.setCell (Below.setCell (Below.setCell (Below.setCell (hB.trans (hI.mono hB.size)) (p := ⟨w.heap.size, 0, none⟩) (by simp) (.int .i64 q.state)) (p := ⟨w.heap.size, 1, none⟩) (by simp) (.int .i64 q.lot)) (p := ⟨w.heap.size, 2, none⟩) (by simp) (.int .i64 q.owner)) (p := ⟨w.heap.size, 3, none⟩) (by simp) (.int .i64 q.holder)
        exact b1.trans (belowK_b (w := w) (Nat.le_refl _) _ D _ _ (by have := hB.size; have := B3.out.size; omega) d1' rfl rfl)
    case stop =>
      rintro D k pre W _ _ h _
      exact h.elim
  · have hz' : (r != 0) = true := by simp [hz]
    have EQ := hid (show pocC vs n v r = ⟨0, 0, 0, 0⟩ from if_neg hz)
    have k0 : w2.cell? ⟨w.heap.size, 0, none⟩ = some (.int .i64 0) := by simp [C1.out.cell]
    have k1 : w2.cell? ⟨w.heap.size, 1, none⟩ = some (.int .i64 0) := by simp [C1.out.cell]
    have k2 : w2.cell? ⟨w.heap.size, 2, none⟩ = some (.int .i64 0) := by simp [C1.out.cell]
    have k3 : w2.cell? ⟨w.heap.size, 3, none⟩ = some (.int .i64 0) := by simp [C1.out.cell]
    clear hz
    go_wp2
    have hs := (((C1.out.set 0 (.int .i64 0)).set 1 (.int .i64 0)).set 2 (.int .i64 0)).set 3 (.int .i64 0)
    refine ⟨.tuple #[.agg #[.int .i64 0, .int .i64 0, .int .i64 0, .int .i64 0], .int .i64 r], by simp [results, Try.results28, go_sem, hs.cell], ?_, ?_⟩
    · rw [← HR.out, EQ.out]
    have hB := B1.out
    repeat (first | exact hB | refine Below.setCell ?_ (by simp) _)
end Go.Proofs.Ytnnbdjfeagcbdaa
