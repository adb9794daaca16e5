/- awake returns true. -/
import Derived.Test.YtnnbdjfeagcbdaaAsk
import Derived.Test.YtnnbdjfeagcbdaaLaw0
import Derived.Test.YtnnbdjfeagcbdaaAlpha
namespace Go.Proofs.Ytnnbdjfeagcbdaa
set_option linter.unusedSimpArgs false
set_option linter.unusedVariables false
open Go.RowKit Go.Shelf
attribute [local go_sem] Oper.semAt_some

theorem Fine.of {t : T} (h : t.Ok) (ht : Tiles t.toList 1 1000000) : Fine t := ⟨h, ht.sorted (by omega) (by omega), by have := ht.few; omega⟩
theorem Turned.below {sB vB n : Nat} {w w' : World} (h : Turned sB vB w w') (h1 : n ≤ sB) (h2 : n ≤ vB) (h3 : n ≤ w.heap.size) : Below n w w' := ⟨h.os, h.tape, h.output, h.size, fun k hk => h.block k (by omega) (by omega) (by omega)⟩

def awL1 : List Pc := [⟨1, 10, ⟨1, 7, 1, 0⟩⟩, ⟨11, 1000000, ⟨0, 0, 0, 0⟩⟩]
def awL2 : List Pc := [⟨1, 2, ⟨1, 7, 1, 0⟩⟩, ⟨3, 5, ⟨1, 7, 2, 0⟩⟩, ⟨6, 10, ⟨1, 7, 1, 0⟩⟩, ⟨11, 1000000, ⟨0, 0, 0, 0⟩⟩]
theorem aw1 : changedP [pc0] 1 10 (enterG 7 1) = awL1 := by decide
theorem aw2 : changedP awL1 3 3 (moveG 2) = awL2 := by decide
theorem aw3 : cntL (allP (ownB 1) awL2) = 7 := by decide
theorem awE (t : T) (h : t.toList = [pc0]) (hf : Fine t) : enterR t 1 10 7 1 = 0 := by
  unfold enterR; rw [visL_eq _ _ _ hf.sorted, h]; decide
theorem awM (t : T) (h : t.toList = awL1) (hf : Fine t) : moveR t 3 3 1 2 = 0 := by
  unfold moveR; rw [visL_eq _ _ _ hf.sorted, h]; decide

theorem pairs_two (w : World) (a b c d : Int) : PairsAt (w.alloc (.cells #[.int .i64 a, .int .i64 b, .int .i64 c, .int .i64 d] 72)) (.slice (some ⟨w.heap.size, 0, none⟩) 2 2) [(a, b), (c, d)] := by
  refine ⟨by simp, .inr ⟨w.heap.size, 0, 2, rfl, by simp, fun k hk => ?_⟩⟩
  have hc := Cells.new w #[.int .i64 a, .int .i64 b, .int .i64 c, .int .i64 d] 72
  have : k = 0 ∨ k = 1 := by simp at hk; omega
  rcases this with rfl | rfl <;> simp [hc.cell]

set_option maxRecDepth 100000 in
set_option maxHeartbeats 4000000 in
theorem awake_calls (w : World) : Calls Try.prog 16 #[] w fun e w' => e = .returned (.bool true) ∧ Below w.heap.size w w' := by
  go_enter Try.func16, Try.ntmps16
  go_wp2_with fail
  refine (New_calls w).mono ?_
  rintro e w1 ⟨sB, vB, t0, rfl, st, tl, fi, ls, lv, hb⟩
  have E0 := hid (awE t0 tl fi)
  have S0 := hid st
  have F0 := hid fi
  have L0 := hid tl
  have B0 := hid hb
  clear st tl fi hb
  go_wp2_with fail
  refine (enter_calls w1 sB vB [t0] t0 S0.out (by simp) rfl F0.out 1 10 7 1).mono ?_
  rintro e w2 ⟨rfl, _, h2⟩
  obtain ⟨t1, uB, s1, ok1, l1, u1, tu1⟩ := h2 E0.out
  rw [E0.out]
  rw [L0.out, aw1] at l1
  have ft1 : Tiles t1.toList 1 1000000 := by rw [l1]; simp [awL1, Tiles]
  have f1 := Fine.of ok1 ft1
  have S1 := hid s1
  have F1 := hid f1
  have L1 := hid l1
  have E1 := hid (awM t1 l1 f1)
  have B1 := hid (B0.out.trans (tu1.below ls lv B0.out.size))
  have lu : w.heap.size ≤ uB := by have := B0.out.size; omega
  clear s1 ok1 l1 u1 tu1 ft1 f1 h2
  go_wp2_with fail
  refine (move_calls w2 sB uB ([t0] ++ [t1]) t1 S1.out (by simp) rfl F1.out 3 3 1 2).mono ?_
  rintro e w3 ⟨rfl, _, h3⟩
  obtain ⟨t2, xB, s2, ok2, l2, u2, tu2⟩ := h3 E1.out
  rw [E1.out]
  rw [L1.out, aw2] at l2
  have ft2 : Tiles t2.toList 1 1000000 := by rw [l2]; simp [awL2, Tiles]
  have f2 := Fine.of ok2 ft2
  have S2 := hid s2
  have F2 := hid f2
  have L2 := hid l2
  have B2 := hid (B1.out.trans (tu2.below ls lu B1.out.size))
  clear s2 ok2 l2 u2 tu2 ft2 f2 h3
  go_wp2_with fail
  refine (Count_calls w3 sB xB ([t0] ++ [t1] ++ [t2]) S2.out (by simp) (by
    intro t ht
    simp at ht
    rcases ht with rfl | rfl | rfl
    · exact F0.out
    · exact F1.out
    · exact F2.out) 1 2).mono ?_
  rintro e w4 ⟨rfl, hb4⟩
  have e1 : atE ([t0] ++ [t1] ++ [t2]).length 2 (inB 1000 1) = 0 := by simp [atE, inB]
  rw [e1]
  have e2 : cntL (askL (ownB 1) ([t0] ++ [t1] ++ [t2]) 2 0) = 7 := by
    unfold askL; rw [if_pos rfl]
    show cntL (allP (ownB 1) t2.toList) = 7
    rw [L2.out]; exact aw3
  rw [e2]
  have B4 := hid (B2.out.trans (hb4.mono B2.out.size))
  have S4 := hid (S2.out.below hb4)
  clear e1 e2 hb4
  go_wp2_with fail
  refine (alpha_calls _ _ [(1, 501), (1, 502)] (pairs_two w4 1 501 1 502)).mono ?_
  rintro e w5 ⟨rfl, hb5⟩
  have ea : alphaP [(1, 501), (1, 502)] = (502, 0) := by decide
  rw [ea]
  have B5 := hid (B4.out.trans (((Below.refl w4.heap.size w4).alloc (Nat.le_refl _) (.cells #[.int .i64 1, .int .i64 501, .int .i64 1, .int .i64 502] 72)).trans (hb5.mono (by simp)) |>.mono B4.out.size))
  have S5 := hid ((S4.out.below ((Below.refl w4.heap.size w4).alloc (Nat.le_refl _) (.cells #[.int .i64 1, .int .i64 501, .int .i64 1, .int .i64 502] 72))).below hb5)
  clear ea hb5
  obtain ⟨cap, ps, hc, _, _⟩ := S5.out.at_
  have hcc := hc.cell 0
  simp at hcc
  have HC := hid hcc
  clear hcc hc
  go_wp2_with fail
  refine (version_calls w5 sB (.bool true) 3 cap _ (by omega) HC.out).mono ?_
  rintro e w6 ⟨rfl, rfl⟩
  go_wp2
  go_ret
  exact ⟨rfl, B5.out⟩
end Go.Proofs.Ytnnbdjfeagcbdaa
