/- board.meets, board.isDue, board.done. -/
import Derived.Test.YtdjhpldiifdifaaJBrd1
import Derived.Test.YtdjhpldiifdifaaJBrd0
namespace Go.Proofs.Ytdjhpldiifdifaa
set_option linter.unusedSimpArgs false
set_option linter.unusedVariables false
open Go.RowKit Go.Shelf
attribute [local go_sem] Oper.semAt_some
attribute [local go_sem ↓] Go.wp_at_zero Go.wp_at_succ

theorem colS_cases (q : Nat) {s : Int} (hs : s = 1 ∨ s = 2) : q < colS q s ∧ colS q s ≤ q + 6 := by rcases hs with rfl | rfl <;> simp [colS]
theorem Mm.other (G : Mm) {s : Int} (hs : s = 1 ∨ s = 2) : G.H (3 - s) = if s = 1 then G.hs else G.hb := by rcases hs with rfl | rfl <;> rfl
theorem Mm.plain (G : Mm) {s : Int} (hs : s = 1 ∨ s = 2) (nums last : Int) : (G.bd nums last).half s = plainH (G.L s) G.en := by rcases hs with rfl | rfl <;> rfl
theorem few_side {G : Mm} {s : Int} (hs : s = 1 ∨ s = 2) : (ensL (G.L s)).length ≤ G.live.length := by
  rcases hs with rfl | rfl <;> simp [Mm.live, Mm.L] <;> omega
theorem bcell {W w1 : World} (hb : Below W.heap.size W w1) : (∀ b o, b < W.heap.size → w1.cell? ⟨b, o, none⟩ = W.cell? ⟨b, o, none⟩) ∧ (∀ b o, b < W.heap.size → w1.frozen? ⟨b, o, none⟩ = W.frozen? ⟨b, o, none⟩) :=
  ⟨fun b o h => hb.cell (p := ⟨b, o, none⟩) h, fun b o h => hb.frozen (p := ⟨b, o, none⟩) h⟩
theorem Below.of_drewN (w : World) (m : Nat) : Below w.heap.size w (w.drewN m) := ⟨rfl, rfl, rfl, Nat.le_refl _, fun _ _ => rfl⟩

set_option maxRecDepth 100000 in
set_option maxHeartbeats 2000000 in
theorem meets_calls {O : Nat → Nat} {c c' : Nat} {w : World} {b mb : Nat} {G : Mm} {wt : List Nat} {nums last : Int} {evs : List Ev} (ht : TopC O c' w b G.hb G.hs mb wt nums last evs) (o : Od) (hs : o.s = 1 ∨ o.s = 2) (hh : HlfC O c w (G.H (3 - o.s)) (3 - o.s) (G.L (3 - o.s)) G.en) (hok : HSh (3 - o.s) (plainH (G.L (3 - o.s)) G.en)) (hl2 : (ensL (G.L (3 - o.s))).length ≤ 5000) :
    Calls Try.prog 44 #[pt b, .agg o.vals] w fun e w' => e = .returned (.bool (meetsH o (plainH (G.L (3 - o.s)) G.en))) ∧ Below w.heap.size w w' := by
  have ho := other_side hs
  have st0 : Step (fun _ => False) O w O (w.alloc (.cells o.vals 38)) := Step.of_below ((Below.refl _ w).alloc (Nat.le_refl _) (.cells o.vals 38)) (fun _ => False)
  have hot := other_calls (ht.step st0 not_false) hs
  rw [← G.other hs] at hot
  have hsd := hh.step st0 not_false (fun _ _ => rfl)
  have hl1 := lv_len hok
  have hfr := front_calls hsd (full_ls hok) (by omega)
  have hp := front_plain hok
  unfold meetsH
  rw [hp]
  have hg := fun X w => good_calls o (G.en X).o.p w
  unfold Od.vals at hot hfr hsd hg ⊢
  have HO := hid hot
  have HG := hid hg
  generalize hX : frontL (G.L (3 - o.s)) = F at *
  cases F with
  | none =>
    rw [op_none] at hfr
    have HF := hid hfr
    clear ht hh hot hsd hok hl1 hl2 hfr hp hX hg st0
    simp only [Option.map_none]
    go_enter Try.func44, Try.ntmps44
    go_wp2_with (first | (go_at_call 49; refine HO.out.mono ?_; rintro e w1 ⟨rfl, rfl⟩) | (go_at_call 73; refine HF.out.mono ?_; rintro e w1 ⟨rfl, m, rfl⟩))
    go_quiet (fail)
    go_wp2
    go_ret
    exact ⟨rfl, drewN_below (drewN_below (Below.alloc (Below.refl _ _) (Nat.le_refl _) _) _) _⟩
  | some X =>
    simp only [Option.map_some]
    obtain ⟨hOX, E, hE⟩ := hsd.front hX
    rw [op_some] at hfr
    have HF := hid hfr
    have x5 := hE.lt
    have x6 : (w.alloc (.cells #[.int .i64 o.m, .int .i64 o.s, .int .i64 o.k, .int .i64 o.f, .int .i64 o.p, .int .i64 o.t, .int .i64 o.q, .int .i64 o.pk] 38)).cell? ⟨X, 5, none⟩ = some (.int .i64 (G.en X).o.p) := by rw [Cells.cell hE]; rfl
    clear hE
    clear ht hh hot hsd hok hl1 hl2 hfr hp hX hg st0
    go_enter Try.func44, Try.ntmps44
    go_wp2_with (first | (go_at_call 49; refine HO.out.mono ?_; rintro e w1 ⟨rfl, rfl⟩) | (go_at_call 73; refine HF.out.mono ?_; rintro e w1 ⟨rfl, m, rfl⟩))
    refine region_tail 9 (by kernel_rfl) (by kernel_rfl) ?_
    simp only [List.take_succ_cons, List.take_zero, List.drop_succ_cons, List.drop_zero]
    repeat still_step
    refine wpStill_nil ?_
    go_wp2_with fail
    refine (HG.out X _).mono ?_
    rintro e w1 ⟨rfl, hb1⟩
    go_wp2
    go_ret
    exact ⟨rfl, (drewN_below (Below.alloc (Below.refl _ _) (Nat.le_refl _) _) _).trans (hb1.mono (by simp))⟩

set_option maxHeartbeats 2000000 in
theorem isDue_calls {w : World} {b X : Nat} {x : En} {wts : Bool} {pl : Option Nat} {last : Int} (hl : w.cell? ⟨b, 6, none⟩ = some (.int .i64 last)) (hb : b < w.heap.size) (hX : EnC w X x wts pl) :
    Calls Try.prog 79 #[pt b, pt X] w fun e w' => e = .returned (.bool (dueB last x)) ∧ ∃ m, w' = w.drewN m := by
  have x2 : w.cell? ⟨X, 2, none⟩ = some (.int .i64 x.o.s) := by rw [Cells.cell hX]; rfl
  have x6 : w.cell? ⟨X, 6, none⟩ = some (.int .i64 x.o.t) := by rw [Cells.cell hX]; rfl
  have hXl := hX.lt
  clear hX
  unfold dueB
  by_cases h1 : last = 0
  · have e1 : (last == 0) = true := by simpa using h1
    rw [if_pos h1]
    clear h1
    go_enter Try.func79, Try.ntmps79
    go_wp2
    go_ret
    exact ⟨rfl, 0, rfl⟩
  · have e1 : (last == 0) = false := by simpa using h1
    rw [if_neg h1]
    clear h1
    by_cases h2 : x.o.s = 1
    · have e2 : (x.o.s == 1) = true := by simpa using h2
      rw [if_pos h2]
      clear h2
      go_enter Try.func79, Try.ntmps79
      go_wp2
      go_quiet (fail)
      go_wp2
      go_ret
      exact ⟨rfl, _, rfl⟩
    · have e2 : (x.o.s == 1) = false := by simpa using h2
      rw [if_neg h2]
      clear h2
      go_enter Try.func79, Try.ntmps79
      go_wp2
      go_quiet (fail)
      go_wp2
      go_ret
      exact ⟨rfl, _, rfl⟩

/-- What done comes to. -/
def DoneR (O : Nat → Nat) (c : Nat) (w : World) (b hb hs mb : Nat) (wt : List Nat) (nums last : Int) (evs : List Ev) (e : Ending) (w' : World) : Prop :=
  ∃ v, e = .returned v ∧ OwnE encEv 5 40 0 w' v evs ∧ (∀ g, v.ownBlock = some g → O g = c) ∧ TopC O c w' b hb hs mb wt nums last [] ∧ Kept (fun k => O k = c) w w'
set_option maxHeartbeats 2000000 in
theorem done_calls {O : Nat → Nat} {c : Nat} {w : World} {b hb hs mb : Nat} {wt : List Nat} {nums last : Int} {evs : List Ev} (h : TopC O c w b hb hs mb wt nums last evs) :
    Calls Try.prog 42 #[pt b] w (DoneR O c w b hb hs mb wt nums last evs) := by
  obtain ⟨vw, ve, h1, h2, h3, h4, h5⟩ := h.cell
  have hl := h.lt
  have c2 : w.cell? ⟨b, 7, none⟩ = some ve := by rw [h1.cell]; rfl
  have c3 : w.frozen? ⟨b, 7, none⟩ = false := h1.frozen 7
  have fin : DoneR O c w b hb hs mb wt nums last evs (.returned ve) (w.setCell ⟨b, 7, none⟩ (.slice none 0 0)) :=
    ⟨ve, rfl, h3.set h1 (by decide) 7 _, h5, ⟨⟨vw, _, h1.set 7 (.slice none 0 0), h2.set h1 (by decide) 7 _, OwnE.nil _ _, h4, fun x hx => by cases hx⟩, h.col⟩, (Kept.refl (fun k => O k = c) w).set (C := b) h.col 7 _⟩
  have FIN := hid fin
  obtain ⟨pn, capn, hv, _⟩ := h3.form
  generalize evs.length = nn at hv
  subst hv
  clear fin h h1 h2 h3 h4 h5
  generalize DoneR O c w b hb hs mb wt nums last evs = R at *
  go_enter Try.func42, Try.ntmps42
  go_wp2
  exact FIN.out

/-- One step of a whole order's search. -/
def need1 (o : Od) (y : En) (need : Int) : Int := if y.o.m ≠ o.m then need - min need y.l else need
set_option maxRecDepth 100000 in
set_option maxHeartbeats 4000000 in
theorem enough1_calls {w : World} {X Y B1 B2 : Nat} {x y : En} {wx wy : Bool} {px py : Option Nat} {need : Int} (hX : EnC w X x wx px) (hY : EnC w Y y wy py) (h1 : Cells w B1 #[pt X] 92) (h2 : Cells w B2 #[.int .i64 need] 2)
    (hn : 0 ≤ need ∧ need ≤ 1000000000) (hy : 0 ≤ y.l ∧ y.l ≤ 1000000000) :
    Calls Try.prog 91 #[pt Y, pt B1, pt B2] w fun e w' => e = .returned (.bool (x.o.good y.o.p && decide (0 < need1 x.o y need))) ∧ Cells w' B2 #[.int .i64 (if x.o.good y.o.p = true then need1 x.o y need else need)] 2 ∧ Kept (fun k => k = B2) w w' := by
  obtain ⟨x1, x2, x3, x4, x5, x6, x7, x8⟩ : w.cell? ⟨X, 1, none⟩ = some (.int .i64 x.o.m) ∧ w.cell? ⟨X, 2, none⟩ = some (.int .i64 x.o.s) ∧ w.cell? ⟨X, 3, none⟩ = some (.int .i64 x.o.k) ∧ w.cell? ⟨X, 4, none⟩ = some (.int .i64 x.o.f) ∧ w.cell? ⟨X, 5, none⟩ = some (.int .i64 x.o.p) ∧ w.cell? ⟨X, 6, none⟩ = some (.int .i64 x.o.t) ∧ w.cell? ⟨X, 7, none⟩ = some (.int .i64 x.o.q) ∧ w.cell? ⟨X, 8, none⟩ = some (.int .i64 x.o.pk) := by
    refine ⟨?_, ?_, ?_, ?_, ?_, ?_, ?_, ?_⟩ <;> (rw [Cells.cell hX]; rfl)
  have y5 : w.cell? ⟨Y, 5, none⟩ = some (.int .i64 y.o.p) := by rw [Cells.cell hY]; rfl
  have b1 : w.cell? ⟨B1, 0, none⟩ = some (pt X) := by rw [h1.cell]; rfl
  have hXl := hX.lt
  have hYl := hY.lt
  have hB1 := h1.lt
  have hB2 := h2.lt
  have hBX : B2 ≠ X := h2.ne hX (by decide)
  have hBY : B2 ≠ Y := h2.ne hY (by decide)
  have hBB : B2 ≠ B1 := h2.ne h1 (by decide)
  have hg := fun w => good_calls x.o y.o.p w
  unfold Od.vals at hg
  have HG := hid hg
  have HX := hid hX
  have HY := hid hY
  have H1 := hid h1
  have H2 := hid h2
  clear hX hY h1 h2 hg
  cases hgd : x.o.good y.o.p
  · rw [hgd] at HG
    simp only [Bool.false_and]
    go_enter Try.func91, Try.ntmps91
    go_wp2
    refine region_tail 9 (by kernel_rfl) (by kernel_rfl) ?_
    simp only [List.take_succ_cons, List.take_zero, List.drop_succ_cons, List.drop_zero]
    repeat still_step
    refine wpStill_nil ?_
    go_wp2_with fail
    refine (HG.out _).mono ?_
    rintro e w1 ⟨rfl, hb1⟩
    go_wp2
    go_ret
    simp only [Bool.false_eq_true, if_false]
    have hb2 := ((Below.refl w.heap.size w).drew).trans hb1
    exact ⟨rfl, H2.out.below hb2 hB2, Kept.of_below hb2⟩
  · rw [hgd] at HG
    simp only [Bool.true_and, if_true]
    have y1 : w.cell? ⟨Y, 1, none⟩ = some (.int .i64 y.o.m) := by rw [Cells.cell HY.out]; rfl
    have y9 : w.cell? ⟨Y, 9, none⟩ = some (.int .i64 y.l) := by rw [Cells.cell HY.out]; rfl
    have b2 : w.cell? ⟨B2, 0, none⟩ = some (.int .i64 need) := by rw [H2.out.cell]; rfl
    have b3 : w.frozen? ⟨B2, 0, none⟩ = false := H2.out.frozen 0
    by_cases hm : y.o.m = x.o.m
    · have e1 : (y.o.m == x.o.m) = true := by simpa using hm
      have e2 : (y.o.m != x.o.m) = false := by simpa using hm
      have hn1 : need1 x.o y need = need := by unfold need1; rw [if_neg (by simpa using hm)]
      rw [hn1]
      clear hm hn1
      go_enter Try.func91, Try.ntmps91
      go_wp2
      refine region_tail 9 (by kernel_rfl) (by kernel_rfl) ?_
      simp only [List.take_succ_cons, List.take_zero, List.drop_succ_cons, List.drop_zero]
      repeat still_step
      refine wpStill_nil ?_
      go_wp2_with fail
      refine (HG.out _).mono ?_
      rintro e w1 ⟨rfl, hb1⟩
      have hb2 := ((Below.refl w.heap.size w).drew).trans hb1
      clear hb1
      obtain ⟨hc1, hc2⟩ := bcell hb2
      have hz1 := hb2.size
      go_wp2
      go_quiet (fail)
      go_wp2
      go_ret
      exact ⟨rfl, (H2.out.below hb2 hB2).drewN _, (Kept.of_below hb2).drewN _⟩
    · have e1 : (y.o.m == x.o.m) = false := by simpa using hm
      have e2 : (y.o.m != x.o.m) = true := by simpa using hm
      have hn1 : need1 x.o y need = need - min need y.l := by unfold need1; rw [if_pos (by simpa using hm)]
      rw [hn1]
      clear hm hn1
      go_enter Try.func91, Try.ntmps91
      go_wp2
      refine region_tail 9 (by kernel_rfl) (by kernel_rfl) ?_
      simp only [List.take_succ_cons, List.take_zero, List.drop_succ_cons, List.drop_zero]
      repeat still_step
      refine wpStill_nil ?_
      go_wp2_with fail
      refine (HG.out _).mono ?_
      rintro e w1 ⟨rfl, hb1⟩
      have hb2 := ((Below.refl w.heap.size w).drew).trans hb1
      clear hb1
      obtain ⟨hc1, hc2⟩ := bcell hb2
      have hz1 := hb2.size
      go_wp2
      go_quiet (fail)
      go_wp2
      go_region
      all_goals go_wp2
      all_goals go_ret
      · have hlt : y.l < need := by assumption
        rw [show min need y.l = y.l by omega]
        refine ⟨by rw [decide_eq_true hlt]; rfl, ?_, Kept.set (X := fun k => k = B2) ((Kept.of_below hb2).drewN _) (C := B2) rfl 0 _⟩
        exact ((H2.out.below hb2 hB2).drewN (nq + 1)).set 0 (.int .i64 (need - y.l))
      · have hlt : need ≤ y.l := by assumption
        rw [show min need y.l = need by omega, show need - need = 0 by omega]
        refine ⟨by rw [decide_eq_false (Int.lt_irrefl need)]; rfl, ?_, Kept.set (X := fun k => k = B2) ((Kept.of_below hb2).drewN _) (C := B2) rfl 0 _⟩
        exact ((H2.out.below hb2 hB2).drewN (nq + 1)).set 0 (.int .i64 0)
end Go.Proofs.Ytdjhpldiifdifaa
