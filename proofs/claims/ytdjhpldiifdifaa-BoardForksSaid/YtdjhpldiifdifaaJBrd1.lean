/- board.other, board.tell, board.meets, board.isDue, board.done. board.meets, board.isDue, board.done. board.enough. -/
import Derived.Test.YtdjhpldiifdifaaJHalf
import Derived.Test.YtdjhpldiifdifaaJBrd0
namespace Go.Proofs.Ytdjhpldiifdifaa
set_option linter.unusedSimpArgs false
set_option linter.unusedVariables false
open Go.RowKit Go.Shelf
attribute [local go_sem] Oper.semAt_some
attribute [local go_sem ↓] Go.wp_at_zero Go.wp_at_succ

def Mm.H (G : Mm) (s : Int) : Nat := if s = 1 then G.hb else G.hs
def Mm.L (G : Mm) (s : Int) : List Lv := if s = 1 then G.lb else G.ls
def colS (q : Nat) (s : Int) : Nat := if s = 1 then q + 1 else q + 2
theorem BdC.side {O : Nat → Nat} {q : Nat} {w : World} {b : Nat} {G : Mm} {nums last : Int} {evs : List Ev} (h : BdC O q w b G nums last evs) {s : Int} (hs : s = 1 ∨ s = 2) : HlfC O (colS q s) w (G.H s) s (G.L s) G.en := by
  rcases hs with rfl | rfl
  · exact h.buy
  · exact h.sell
theorem BdC.sok {O : Nat → Nat} {q : Nat} {w : World} {b : Nat} {G : Mm} {nums last : Int} {evs : List Ev} (h : BdC O q w b G nums last evs) {s : Int} (hs : s = 1 ∨ s = 2) : HOk s nums (plainH (G.L s) G.en) := by
  rcases hs with rfl | rfl
  · exact h.ok.buy
  · exact h.ok.sell
theorem TopC.half {O : Nat → Nat} {c : Nat} {w : World} {b hb hs mb : Nat} {wt : List Nat} {nums last : Int} {evs : List Ev} (h : TopC O c w b hb hs mb wt nums last evs) : w.cell? ⟨b, 1, none⟩ = some (pt hb) ∧ w.cell? ⟨b, 2, none⟩ = some (pt hs) ∧ w.cell? ⟨b, 3, none⟩ = some (.map (some mb)) ∧ w.cell? ⟨b, 5, none⟩ = some (.int .i64 nums) ∧ w.cell? ⟨b, 6, none⟩ = some (.int .i64 last) := by
  obtain ⟨vw, ve, h1, _⟩ := h.cell
  refine ⟨?_, ?_, ?_, ?_, ?_⟩ <;> (rw [h1.cell]; rfl)

set_option maxRecDepth 100000 in
theorem other_calls {O : Nat → Nat} {c : Nat} {w : World} {b hb hs mb : Nat} {wt : List Nat} {nums last : Int} {evs : List Ev} (h : TopC O c w b hb hs mb wt nums last evs) {s : Int} (h1 : s = 1 ∨ s = 2) :
    Calls Try.prog 49 #[pt b, .int .i64 s] w fun e w' => e = .returned (pt (if s = 1 then hs else hb)) ∧ w' = w := by
  obtain ⟨c1, c2, _⟩ := h.half
  have hl := h.lt
  clear h
  rcases h1 with rfl | rfl
  · go_enter Try.func49, Try.ntmps49
    go_wp2
    go_ret
    exact ⟨rfl, rfl⟩
  · go_enter Try.func49, Try.ntmps49
    go_wp2
    go_ret
    exact ⟨rfl, rfl⟩

theorem infoEv : (Try.prog.info? 40).map (fun i => (i.zero, i.size, i.bytes)) = some (some (.agg #[.int .i64 0, .int .i64 0, .int .i64 0, .int .i64 0, .int .i64 0]), 5, 40) := by kernel_rfl
theorem info_ev : ∃ i, Try.prog.info? 40 = some i ∧ i.zero = some (.agg #[.int .i64 0, .int .i64 0, .int .i64 0, .int .i64 0, .int .i64 0]) ∧ i.size = 5 ∧ i.bytes = 40 := by
  have h := infoEv
  cases hi : Try.prog.info? 40 with
  | none => rw [hi] at h; cases h
  | some i =>
    rw [hi] at h
    simp only [Option.map_some, Option.some.injEq, Prod.mk.injEq] at h
    exact ⟨i, rfl, h.1, h.2.1, h.2.2⟩
theorem undEvs : Try.prog.underlying 30 = some (.slice 40) := by kernel_rfl
theorem encEv_one (e : Ev) : ∀ u ∈ encEv e, u.oneCell' = true := by
  intro u hu
  simp only [encEv, List.mem_cons, List.not_mem_nil, or_false] at hu
  rcases hu with rfl | rfl | rfl | rfl | rfl <;> rfl
/-- append(events, ev) -/
theorem ev_append {w : World} {v : Value} {l : List Ev} (h : OwnE encEv 5 40 0 w v l) (hlen : l.length ≤ 3000000000000) (ev : Ev) {B : Nat} (hB : Cells w B (encEv ev).toArray 40) (ty : TypeId) :
    ∃ v' w', (Builtin.append_ #[30, 30] ty #[v, .slice (some ⟨B, 0, none⟩) 1 1]).run Try.prog w = .ok v' w' ∧ OwnE encEv 5 40 0 w' v' (l ++ [ev]) ∧ Kept (fun k => some k = v.ownBlock) w w' ∧ (v'.ownBlock = v.ownBlock ∨ v'.ownBlock = some w.heap.size) := by
  obtain ⟨i, h1, h2, h3, h4⟩ := info_ev
  obtain ⟨v', w', r1, r2, r3, _, r5⟩ := run_append_own_at w 0 30 ty 40 i _ 5 40 undEvs h1 h2 h3 h4 rfl (by omega) v l.length (flatE encEv l) h ⟨B, 0, none⟩ 1 1 (encEv ev) rfl
    (fun j u hu => news_of hB j u (by simpa using hu)) (encEv_one ev) (by unfold maxLen; omega) (by omega) (by omega)
  refine ⟨v', w', r1, ?_, Kept.of_grown r3, r5⟩
  unfold OwnE
  rw [flatE_snoc, List.length_append]
  exact r2

/-- What tell comes to. -/
def Told (O : Nat → Nat) (c : Nat) (w : World) (b hb hs mb : Nat) (wt : List Nat) (nums last : Int) (evs : List Ev) (e : Ending) (w' : World) : Prop :=
  e = .returned (.tuple #[]) ∧ TopC (grow O w c) c w' b hb hs mb wt nums last evs ∧ Kept (fun k => O k = c) w w'
set_option maxRecDepth 100000 in
set_option maxHeartbeats 2000000 in
theorem tell_calls {O : Nat → Nat} {c : Nat} {w : World} {b hb hs mb : Nat} {wt : List Nat} {nums last : Int} {evs : List Ev} (h : TopC O c w b hb hs mb wt nums last evs) (hlen : evs.length ≤ 3000000000000) {X : Nat} {x : En} {wts : Bool} {pl : Option Nat} (hX : EnC w X x wts pl) (what other price qty : Int) :
    Calls Try.prog 41 #[pt b, .int .i64 what, pt X, .int .i64 other, .int .i64 price, .int .i64 qty] w (Told O c w b hb hs mb wt nums last (evs ++ [⟨what, x.n, other, price, qty⟩])) := by
  obtain ⟨vw, ve, h1, h2, h3, h4, h5⟩ := h.cell
  have hl := h.lt
  have hXl := hX.lt
  have c1 : w.cell? ⟨X, 0, none⟩ = some (.int .i64 x.n) := by rw [Cells.cell hX]; rfl
  have c2 : w.cell? ⟨b, 7, none⟩ = some ve := by rw [h1.cell]; rfl
  obtain ⟨v', w1, r1, r2, r3, r4⟩ := ev_append (h3.drew.alloc (.cells (encEv ⟨what, x.n, other, price, qty⟩).toArray 40)) hlen ⟨what, x.n, other, price, qty⟩ (Cells.new _ _ _) 30
  have hbe : ∀ g, ve.ownBlock = some g → g ≠ b := fun g hg => by
    obtain ⟨cs, hcs⟩ := own_lt h3 hg
    exact hcs.ne h1 (by decide)
  have hB1 := ((h1.drew).alloc (.cells (encEv ⟨what, x.n, other, price, qty⟩).toArray 40)).kept r3 (fun e => hbe b e.symm rfl)
  have hl1 := hB1.lt
  obtain ⟨u1, d1⟩ : ∃ u, w1.cell? ⟨b, 7, none⟩ = some u := ⟨_, by rw [hB1.cell]; rfl⟩
  have d2 : w1.frozen? ⟨b, 7, none⟩ = false := hB1.frozen 7
  have R1 := hid r1
  have fin : Told O c w b hb hs mb wt nums last (evs ++ [⟨what, x.n, other, price, qty⟩]) (.returned (.tuple #[])) (w1.setCell ⟨b, 7, none⟩ v') := by
    have k0 : Kept (fun k => O k = c) w (w.drew.alloc (.cells (encEv ⟨what, x.n, other, price, qty⟩).toArray 40)) := ((Kept.refl _ w).drew).alloc _
    have k1 : Kept (fun k => O k = c) w w1 := k0.trans r3 (fun k _ hk => h5 k hk.symm)
    have hvw : ∀ g, vw.ownBlock = some g → ∃ cs, Cells w g cs 92 := fun g hg => own_lt h2 hg
    have n1 : ∀ g, vw.ownBlock = some g → ve.ownBlock ≠ some g := fun g hg he => by
      obtain ⟨cs, hcs⟩ := hvw g hg
      obtain ⟨cs', hcs'⟩ := own_lt h3 he
      exact hcs.ne hcs' (by decide) rfl
    have h2' := OwnE.kept ((h2.drew).alloc (.cells (encEv ⟨what, x.n, other, price, qty⟩).toArray 40)) r3 (fun g hg he => n1 g hg he.symm)
    refine ⟨rfl, ⟨⟨vw, v', hB1.set 7 v', h2'.set hB1 (by decide) 7 v', r2.set hB1 (by decide) 7 v', fun g hg => grow_same (h4 g hg), fun g hg => ?_⟩, grow_same h.col⟩, k1.set (C := b) h.col 7 v'⟩
    rcases r4 with r4 | r4
    · rw [r4] at hg; exact grow_same (h5 g hg)
    · rw [r4] at hg
      injection hg with hg
      rw [← hg]
      exact grow_new (by simp [World.alloc])
  have FIN := hid fin
  obtain ⟨pn, capn, hv', _⟩ := r2.form
  generalize (evs ++ [(⟨what, x.n, other, price, qty⟩ : Ev)]).length = nn at hv'
  subst hv'
  clear fin r1 r2 r3 r4 hbe hB1 h h1 h2 h3 h4 h5 hX
  generalize Told O c w b hb hs mb wt nums last (evs ++ [⟨what, x.n, other, price, qty⟩]) = R at *
  go_enter Try.func41, Try.ntmps41
  go_wp2
  go_region_law (refine step_append_run rfl (.tmp 16) (.tmp 26) 30 rfl _ _ (.slice pn nn capn) w1 (by simp [Act.eval, Act.put]) (by simp [Act.eval, Act.put]) R1.out ?_)
  all_goals go_wp2
  all_goals go_end0
  all_goals exact FIN.out
end Go.Proofs.Ytdjhpldiifdifaa
namespace Go.Proofs.Ytdjhpldiifdifaa
set_option linter.unusedSimpArgs false
set_option linter.unusedVariables false
open Go.RowKit Go.Shelf
attribute [local go_sem] Oper.semAt_some
attribute [local go_sem ↓] Go.wp_at_zero Go.wp_at_succ

theorem colS_cases (q : Nat) {s : Int} (hs : s = 1 ∨ s = 2) : q < colS q s ∧ colS q s ≤ q + 6 := by rcases hs with rfl | rfl <;> simp [colS]
theorem Mm.other (G : Mm) {s : Int} (hs : s = 1 ∨ s = 2) : G.H (3 - s) = if s = 1 then G.hs else G.hb := by rcases hs with rfl | rfl <;> rfl
theorem Mm.plain (G : Mm) {s : Int} (hs : s = 1 ∨ s = 2) (nums last : Int) : (G.bd nums last).half s = plainH (G.L s) G.en := by rcases hs with rfl | rfl <;> rfl
theorem few_side {G : Mm} {s : Int} (hs : s = 1 ∨ s = 2) : (ensL (G.L s)).length ≤ G.live.length := by
  rcases hs with rfl | rfl <;> simp [Mm.live, Mm.L] <;> omega
theorem bcell {W w1 : World} (hb : Below W.heap.size W w1) : (∀ b o, b < W.heap.size → w1.cell? ⟨b, o, none⟩ = W.cell? ⟨b, o, none⟩) ∧ (∀ b o, b < W.heap.size → w1.frozen? ⟨b, o, none⟩ = W.frozen? ⟨b, o, none⟩) :=
  ⟨fun b o h => hb.cell (p := ⟨b, o, none⟩) h, fun b o h => hb.frozen (p := ⟨b, o, none⟩) h⟩
theorem Below.of_drewN (w : World) (m : Nat) : Below w.heap.size w (w.drewN m) := ⟨rfl, rfl, rfl, Nat.le_refl _, fun _ _ => rfl⟩

set_option maxRecDepth 100000 in
set_option maxHeartbeats 2000000 in
theorem meets_calls {O : Nat → Nat} {c c' : Nat} {w : World} {b mb : Nat} {G : Mm} {wt : List Nat} {nums last : Int} {evs : List Ev} (ht : TopC O c' w b G.hb G.hs mb wt nums last evs) (o : Od) (hs : o.s = 1 ∨ o.s = 2) (hh : HlfC O c w (G.H (3 - o.s)) (3 - o.s) (G.L (3 - o.s)) G.en) (hok : HSh (3 - o.s) (plainH (G.L (3 - o.s)) G.en)) (hl2 : (ensL (G.L (3 - o.s))).length ≤ 5000) :
    Calls Try.prog 44 #[pt b, .agg o.vals] w fun e w' => e = .returned (.bool (meetsH o (plainH (G.L (3 - o.s)) G.en))) ∧ Below w.heap.size w w' := by
  have ho := other_side hs
  have st0 : Step (fun _ => False) O w O (w.alloc (.cells o.vals 38)) := Step.of_below ((Below.refl _ w).alloc (Nat.le_refl _) (.cells o.vals 38)) (fun _ => False)
  have hot := other_calls (ht.step st0 not_false) hs
  rw [← G.other hs] at hot
  have hsd := hh.step st0 not_false (fun _ _ => rfl)
  have hl1 := lv_len hok
  have hfr := front_calls hsd (full_ls hok) (by omega)
  have hp := front_plain hok
  unfold meetsH
  rw [hp]
  have hg := fun X w => good_calls o (G.en X).o.p w
  unfold Od.vals at hot hfr hsd hg ⊢
  have HO := hid hot
  have HG := hid hg
  generalize hX : frontL (G.L (3 - o.s)) = F at *
  cases F with
  | none =>
    rw [op_none] at hfr
    have HF := hid hfr
    clear ht hh hot hsd hok hl1 hl2 hfr hp hX hg st0
    simp only [Option.map_none]
    go_enter Try.func44, Try.ntmps44
    go_wp2_with (first | (go_at_call 49; refine HO.out.mono ?_; rintro e w1 ⟨rfl, rfl⟩) | (go_at_call 73; refine HF.out.mono ?_; rintro e w1 ⟨rfl, m, rfl⟩))
    go_quiet (fail)
    go_wp2
    go_ret
    exact ⟨rfl, drewN_below (drewN_below (Below.alloc (Below.refl _ _) (Nat.le_refl _) _) _) _⟩
  | some X =>
    simp only [Option.map_some]
    obtain ⟨hOX, E, hE⟩ := hsd.front hX
    rw [op_some] at hfr
    have HF := hid hfr
    have x5 := hE.lt
    have x6 : (w.alloc (.cells #[.int .i64 o.m, .int .i64 o.s, .int .i64 o.k, .int .i64 o.f, .int .i64 o.p, .int .i64 o.t, .int .i64 o.q, .int .i64 o.pk] 38)).cell? ⟨X, 5, none⟩ = some (.int .i64 (G.en X).o.p) := by rw [Cells.cell hE]; rfl
    clear hE
    clear ht hh hot hsd hok hl1 hl2 hfr hp hX hg st0
    go_enter Try.func44, Try.ntmps44
    go_wp2_with (first | (go_at_call 49; refine HO.out.mono ?_; rintro e w1 ⟨rfl, rfl⟩) | (go_at_call 73; refine HF.out.mono ?_; rintro e w1 ⟨rfl, m, rfl⟩))
    refine region_tail 9 (by kernel_rfl) (by kernel_rfl) ?_
    simp only [List.take_succ_cons, List.take_zero, List.drop_succ_cons, List.drop_zero]
    repeat still_step
    refine wpStill_nil ?_
    go_wp2_with fail
    refine (HG.out X _).mono ?_
    rintro e w1 ⟨rfl, hb1⟩
    go_wp2
    go_ret
    exact ⟨rfl, (drewN_below (Below.alloc (Below.refl _ _) (Nat.le_refl _) _) _).trans (hb1.mono (by simp))⟩

set_option maxHeartbeats 2000000 in
theorem isDue_calls {w : World} {b X : Nat} {x : En} {wts : Bool} {pl : Option Nat} {last : Int} (hl : w.cell? ⟨b, 6, none⟩ = some (.int .i64 last)) (hb : b < w.heap.size) (hX : EnC w X x wts pl) :
    Calls Try.prog 79 #[pt b, pt X] w fun e w' => e = .returned (.bool (dueB last x)) ∧ ∃ m, w' = w.drewN m := by
  have x2 : w.cell? ⟨X, 2, none⟩ = some (.int .i64 x.o.s) := by rw [Cells.cell hX]; rfl
  have x6 : w.cell? ⟨X, 6, none⟩ = some (.int .i64 x.o.t) := by rw [Cells.cell hX]; rfl
  have hXl := hX.lt
  clear hX
  unfold dueB
  by_cases h1 : last = 0
  · have e1 : (last == 0) = true := by simpa using h1
    rw [if_pos h1]
    clear h1
    go_enter Try.func79, Try.ntmps79
    go_wp2
    go_ret
    exact ⟨rfl, 0, rfl⟩
  · have e1 : (last == 0) = false := by simpa using h1
    rw [if_neg h1]
    clear h1
    by_cases h2 : x.o.s = 1
    · have e2 : (x.o.s == 1) = true := by simpa using h2
      rw [if_pos h2]
      clear h2
      go_enter Try.func79, Try.ntmps79
      go_wp2
      go_quiet (fail)
      go_wp2
      go_ret
      exact ⟨rfl, _, rfl⟩
    · have e2 : (x.o.s == 1) = false := by simpa using h2
      rw [if_neg h2]
      clear h2
      go_enter Try.func79, Try.ntmps79
      go_wp2
      go_quiet (fail)
      go_wp2
      go_ret
      exact ⟨rfl, _, rfl⟩

/-- What done comes to. -/
def DoneR (O : Nat → Nat) (c : Nat) (w : World) (b hb hs mb : Nat) (wt : List Nat) (nums last : Int) (evs : List Ev) (e : Ending) (w' : World) : Prop :=
  ∃ v, e = .returned v ∧ OwnE encEv 5 40 0 w' v evs ∧ (∀ g, v.ownBlock = some g → O g = c) ∧ TopC O c w' b hb hs mb wt nums last [] ∧ Kept (fun k => O k = c) w w'
set_option maxHeartbeats 2000000 in
theorem done_calls {O : Nat → Nat} {c : Nat} {w : World} {b hb hs mb : Nat} {wt : List Nat} {nums last : Int} {evs : List Ev} (h : TopC O c w b hb hs mb wt nums last evs) :
    Calls Try.prog 42 #[pt b] w (DoneR O c w b hb hs mb wt nums last evs) := by
  obtain ⟨vw, ve, h1, h2, h3, h4, h5⟩ := h.cell
  have hl := h.lt
  have c2 : w.cell? ⟨b, 7, none⟩ = some ve := by rw [h1.cell]; rfl
  have c3 : w.frozen? ⟨b, 7, none⟩ = false := h1.frozen 7
  have fin : DoneR O c w b hb hs mb wt nums last evs (.returned ve) (w.setCell ⟨b, 7, none⟩ (.slice none 0 0)) :=
    ⟨ve, rfl, h3.set h1 (by decide) 7 _, h5, ⟨⟨vw, _, h1.set 7 (.slice none 0 0), h2.set h1 (by decide) 7 _, OwnE.nil _ _, h4, fun x hx => by cases hx⟩, h.col⟩, (Kept.refl (fun k => O k = c) w).set (C := b) h.col 7 _⟩
  have FIN := hid fin
  obtain ⟨pn, capn, hv, _⟩ := h3.form
  generalize evs.length = nn at hv
  subst hv
  clear fin h h1 h2 h3 h4 h5
  generalize DoneR O c w b hb hs mb wt nums last evs = R at *
  go_enter Try.func42, Try.ntmps42
  go_wp2
  exact FIN.out

/-- One step of a whole order's search. -/
def need1 (o : Od) (y : En) (need : Int) : Int := if y.o.m ≠ o.m then need - min need y.l else need
set_option maxRecDepth 100000 in
set_option maxHeartbeats 4000000 in
theorem enough1_calls {w : World} {X Y B1 B2 : Nat} {x y : En} {wx wy : Bool} {px py : Option Nat} {need : Int} (hX : EnC w X x wx px) (hY : EnC w Y y wy py) (h1 : Cells w B1 #[pt X] 92) (h2 : Cells w B2 #[.int .i64 need] 2)
    (hn : 0 ≤ need ∧ need ≤ 1000000000) (hy : 0 ≤ y.l ∧ y.l ≤ 1000000000) :
    Calls Try.prog 91 #[pt Y, pt B1, pt B2] w fun e w' => e = .returned (.bool (x.o.good y.o.p && decide (0 < need1 x.o y need))) ∧ Cells w' B2 #[.int .i64 (if x.o.good y.o.p = true then need1 x.o y need else need)] 2 ∧ Kept (fun k => k = B2) w w' := by
  obtain ⟨x1, x2, x3, x4, x5, x6, x7, x8⟩ : w.cell? ⟨X, 1, none⟩ = some (.int .i64 x.o.m) ∧ w.cell? ⟨X, 2, none⟩ = some (.int .i64 x.o.s) ∧ w.cell? ⟨X, 3, none⟩ = some (.int .i64 x.o.k) ∧ w.cell? ⟨X, 4, none⟩ = some (.int .i64 x.o.f) ∧ w.cell? ⟨X, 5, none⟩ = some (.int .i64 x.o.p) ∧ w.cell? ⟨X, 6, none⟩ = some (.int .i64 x.o.t) ∧ w.cell? ⟨X, 7, none⟩ = some (.int .i64 x.o.q) ∧ w.cell? ⟨X, 8, none⟩ = some (.int .i64 x.o.pk) := by
    refine ⟨?_, ?_, ?_, ?_, ?_, ?_, ?_, ?_⟩ <;> (rw [Cells.cell hX]; rfl)
  have y5 : w.cell? ⟨Y, 5, none⟩ = some (.int .i64 y.o.p) := by rw [Cells.cell hY]; rfl
  have b1 : w.cell? ⟨B1, 0, none⟩ = some (pt X) := by rw [h1.cell]; rfl
  have hXl := hX.lt
  have hYl := hY.lt
  have hB1 := h1.lt
  have hB2 := h2.lt
  have hBX : B2 ≠ X := h2.ne hX (by decide)
  have hBY : B2 ≠ Y := h2.ne hY (by decide)
  have hBB : B2 ≠ B1 := h2.ne h1 (by decide)
  have hg := fun w => good_calls x.o y.o.p w
  unfold Od.vals at hg
  have HG := hid hg
  have HX := hid hX
  have HY := hid hY
  have H1 := hid h1
  have H2 := hid h2
  clear hX hY h1 h2 hg
  cases hgd : x.o.good y.o.p
  · rw [hgd] at HG
    simp only [Bool.false_and]
    go_enter Try.func91, Try.ntmps91
    go_wp2
    refine region_tail 9 (by kernel_rfl) (by kernel_rfl) ?_
    simp only [List.take_succ_cons, List.take_zero, List.drop_succ_cons, List.drop_zero]
    repeat still_step
    refine wpStill_nil ?_
    go_wp2_with fail
    refine (HG.out _).mono ?_
    rintro e w1 ⟨rfl, hb1⟩
    go_wp2
    go_ret
    simp only [Bool.false_eq_true, if_false]
    have hb2 := ((Below.refl w.heap.size w).drew).trans hb1
    exact ⟨rfl, H2.out.below hb2 hB2, Kept.of_below hb2⟩
  · rw [hgd] at HG
    simp only [Bool.true_and, if_true]
    have y1 : w.cell? ⟨Y, 1, none⟩ = some (.int .i64 y.o.m) := by rw [Cells.cell HY.out]; rfl
    have y9 : w.cell? ⟨Y, 9, none⟩ = some (.int .i64 y.l) := by rw [Cells.cell HY.out]; rfl
    have b2 : w.cell? ⟨B2, 0, none⟩ = some (.int .i64 need) := by rw [H2.out.cell]; rfl
    have b3 : w.frozen? ⟨B2, 0, none⟩ = false := H2.out.frozen 0
    by_cases hm : y.o.m = x.o.m
    · have e1 : (y.o.m == x.o.m) = true := by simpa using hm
      have e2 : (y.o.m != x.o.m) = false := by simpa using hm
      have hn1 : need1 x.o y need = need := by unfold need1; rw [if_neg (by simpa using hm)]
      rw [hn1]
      clear hm hn1
      go_enter Try.func91, Try.ntmps91
      go_wp2
      refine region_tail 9 (by kernel_rfl) (by kernel_rfl) ?_
      simp only [List.take_succ_cons, List.take_zero, List.drop_succ_cons, List.drop_zero]
      repeat still_step
      refine wpStill_nil ?_
      go_wp2_with fail
      refine (HG.out _).mono ?_
      rintro e w1 ⟨rfl, hb1⟩
      have hb2 := ((Below.refl w.heap.size w).drew).trans hb1
      clear hb1
      obtain ⟨hc1, hc2⟩ := bcell hb2
      have hz1 := hb2.size
      go_wp2
      go_quiet (fail)
      go_wp2
      go_ret
      exact ⟨rfl, (H2.out.below hb2 hB2).drewN _, (Kept.of_below hb2).drewN _⟩
    · have e1 : (y.o.m == x.o.m) = false := by simpa using hm
      have e2 : (y.o.m != x.o.m) = true := by simpa using hm
      have hn1 : need1 x.o y need = need - min need y.l := by unfold need1; rw [if_pos (by simpa using hm)]
      rw [hn1]
      clear hm hn1
      go_enter Try.func91, Try.ntmps91
      go_wp2
      refine region_tail 9 (by kernel_rfl) (by kernel_rfl) ?_
      simp only [List.take_succ_cons, List.take_zero, List.drop_succ_cons, List.drop_zero]
      repeat still_step
      refine wpStill_nil ?_
      go_wp2_with fail
      refine (HG.out _).mono ?_
      rintro e w1 ⟨rfl, hb1⟩
      have hb2 := ((Below.refl w.heap.size w).drew).trans hb1
      clear hb1
      obtain ⟨hc1, hc2⟩ := bcell hb2
      have hz1 := hb2.size
      go_wp2
      go_quiet (fail)
      go_wp2
      go_region
      all_goals go_wp2
      all_goals go_ret
      · have hlt : y.l < need := by assumption
        rw [show min need y.l = y.l by omega]
        refine ⟨by rw [decide_eq_true hlt]; rfl, ?_, Kept.set (X := fun k => k = B2) ((Kept.of_below hb2).drewN _) (C := B2) rfl 0 _⟩
        exact ((H2.out.below hb2 hB2).drewN (nq + 1)).set 0 (.int .i64 (need - y.l))
      · have hlt : need ≤ y.l := by assumption
        rw [show min need y.l = need by omega, show need - need = 0 by omega]
        refine ⟨by rw [decide_eq_false (Int.lt_irrefl need)]; rfl, ?_, Kept.set (X := fun k => k = B2) ((Kept.of_below hb2).drewN _) (C := B2) rfl 0 _⟩
        exact ((H2.out.below hb2 hB2).drewN (nq + 1)).set 0 (.int .i64 0)
end Go.Proofs.Ytdjhpldiifdifaa
namespace Go.Proofs.Ytdjhpldiifdifaa
set_option linter.unusedSimpArgs false
set_option linter.unusedVariables false
open Go.RowKit Go.Shelf
attribute [local go_sem] Oper.semAt_some
attribute [local go_sem ↓] Go.wp_at_zero Go.wp_at_succ

theorem needF_cons (o : Od) (y : En) (r : List En) (need : Int) : needF o (y :: r) need = if o.good y.o.p = true then (if 0 < need1 o y need then needF o r (need1 o y need) else need1 o y need) else need := by
  show (if o.good y.o.p = false then need else _) = _
  cases o.good y.o.p <;> rfl
/-- The search stands before the k-th entry. -/
structure EnJ (w : World) (B1 B2 X : Nat) (o : Od) (all : List En) (l : Int) (k : Nat) (W : World) : Prop where
  below : Below B1 w W
  one : Cells W B1 #[pt X] 92
  two : ∃ n, Cells W B2 #[.int .i64 n] 2 ∧ 0 ≤ n ∧ n ≤ 1000000000 ∧ needF o (all.drop k) n = needF o all l
theorem HlfC.entry {O : Nat → Nat} {c : Nat} {w : World} {H : Nat} {side : Int} {ls : List Lv} {en : Nat → En} (h : HlfC O c w H side ls en) {E : Nat} (hE : E ∈ ensL ls) : O E = c ∧ ∃ P, EnC w E (en E) false (some P) := by
  obtain ⟨x, hx, hm⟩ := List.mem_flatMap.1 hE
  obtain ⟨y, hy, rfl⟩ := List.mem_map.1 hm
  obtain ⟨b1, b2, b3⟩ := (h.lv x hx).2.2 y hy
  exact ⟨b2, _, b3⟩

set_option maxRecDepth 100000 in
set_option maxHeartbeats 4000000 in
theorem enough_calls {O : Nat → Nat} {q : Nat} {w : World} {b : Nat} {G : Mm} {nums last : Int} {evs : List Ev} (h : BdC O q w b G nums last evs) {X : Nat} {x : En} {wx : Bool} {px : Option Nat} (hX : EnC w X x wx px) (hs : x.o.s = 1 ∨ x.o.s = 2) (hl : 0 ≤ x.l ∧ x.l ≤ 1000000000) :
    Calls Try.prog 75 #[pt b, pt X] w fun e w' => e = .returned (.bool (decide (needF x.o (plainH (G.L (3 - x.o.s)) G.en).all x.l = 0))) ∧ Below w.heap.size w w' := by
  have ho := other_side hs
  have hok := h.sok ho
  have hl1 := lv_len hok.sh
  have hl2 := few_side (G := G) ho
  have hfew := h.few
  obtain ⟨w1, hw1⟩ : ∃ w1, w1 = (w.alloc (.cells #[pt X] 92)).alloc (.cells #[.int .i64 x.l] 2) := ⟨_, rfl⟩
  have hk1 : Below w.heap.size w w1 := by rw [hw1]; exact ((Below.refl _ w).alloc (Nat.le_refl _) _).alloc (by simp) _
  have b1 : Cells w1 w.heap.size #[pt X] 92 := by rw [hw1]; exact (Cells.new w _ _).alloc _
  have b2 : Cells w1 (w.heap.size + 1) #[.int .i64 x.l] 2 := by rw [hw1]; have := Cells.new (w.alloc (.cells #[pt X] 92)) #[.int .i64 x.l] 2; simpa using this
  have st : Step (fun k => k = q) O w (grow O w q) w1 := Step.grow (Kept.of_below hk1)
  have h1 := h.step st (fun c hc => by have := hc.1; omega)
  have hot := other_calls h1.top hs
  rw [← G.other hs] at hot
  have hsd := h1.side ho
  rw [plainH_all]
  have hgr1 : grow O w q w.heap.size = q := grow_new (Nat.le_refl _)
  have hgr2 : grow O w q (w.heap.size + 1) = q := grow_new (by omega)
  have hcol := colS_cases q ho
  have hjs : ∀ k W, EnJ w w.heap.size (w.heap.size + 1) X x.o ((ensL (G.L (3 - x.o.s))).map G.en) x.l k W → Stays (grow O w q) (colS q (3 - x.o.s)) w1 W := fun k W hJ => by
    have hsz : w1.heap.size = w.heap.size + 1 + 1 := by rw [hw1]; simp
    obtain ⟨n, hn, _⟩ := hJ.two
    refine ⟨by have := hn.lt; omega, fun k hk hO => ?_⟩
    have hk2 : k < w.heap.size := by
      rcases Nat.lt_trichotomy k w.heap.size with g | g | g
      · exact g
      · rw [g, hgr1] at hO; omega
      · have : k = w.heap.size + 1 := by omega
        rw [this, hgr2] at hO; omega
    rw [hJ.below.block k hk2, hk1.block k hk2]
  have hea := each_calls hsd (by omega) 91 #[pt w.heap.size, pt (w.heap.size + 1)] (enters_of Try.func91 (by kernel_rfl) rfl)
    (EnJ w w.heap.size (w.heap.size + 1) X x.o ((ensL (G.L (3 - x.o.s))).map G.en) x.l)
    (fun _ W => Below w.heap.size w W ∧ Cells W (w.heap.size + 1) #[.int .i64 (needF x.o ((ensL (G.L (3 - x.o.s))).map G.en) x.l)] 2)
    ⟨hk1, b1, x.l, b2, hl.1, hl.2, rfl⟩ hjs (fun k E W hE hJ => by
      have hJs := hjs k W hJ
      obtain ⟨n, hn, hn0, hn1, hnf⟩ := hJ.two
      have hEm : E ∈ ensL (G.L (3 - x.o.s)) := List.mem_of_getElem? hE
      obtain ⟨hOE, P, eE⟩ := hsd.entry hEm
      have hEok : EnOk (3 - x.o.s) nums (G.en E) := hok.mem _ (by rw [plainH_all]; exact List.mem_map.2 ⟨E, hEm, rfl⟩)
      have eE2 : EnC W E (G.en E) false (some P) := (hJs.block E eE.lt hOE).trans eE
      have eX2 : EnC W X x wx px := Cells.below hX hJ.below hX.lt
      have hq := okQ hEok.ok
      have hEl := hEok.l
      refine (enough1_calls eX2 eE2 hJ.one hn ⟨hn0, hn1⟩ (by omega)).mono ?_
      rintro e W' ⟨rfl, r2, r3⟩
      have hbW : Below w.heap.size w W' := hJ.below.trans (r3.below hJ.below.size (fun k hk => by omega))
      have hdrop : ((ensL (G.L (3 - x.o.s))).map G.en).drop k = G.en E :: ((ensL (G.L (3 - x.o.s))).map G.en).drop (k + 1) := by
        have hlt := (List.getElem?_eq_some_iff.1 hE).1
        rw [List.drop_eq_getElem_cons (by simpa using hlt)]
        congr 1
        rw [List.getElem_map, (List.getElem?_eq_some_iff.1 hE).2]
      rw [hdrop, needF_cons] at hnf
      cases hgd : x.o.good (G.en E).o.p
      · right
        rw [hgd] at r2 hnf
        simp only [Bool.false_eq_true, if_false] at r2 hnf
        exact ⟨by simp, hbW, by rw [← hnf]; exact r2⟩
      · rw [hgd] at r2 hnf
        simp only [if_true] at r2 hnf
        by_cases hp : 0 < need1 x.o (G.en E) n
        · left
          rw [if_pos hp] at hnf
          refine ⟨by simp [hp], hbW, hJ.one.kept r3 (by omega), _, r2, by omega, ?_, hnf⟩
          unfold need1
          split <;> omega
        · right
          rw [if_neg hp] at hnf
          exact ⟨by simp [hp], hbW, by rw [← hnf]; exact r2⟩)
  have x2 : w.cell? ⟨X, 2, none⟩ = some (.int .i64 x.o.s) := by rw [Cells.cell hX]; rfl
  have x9 : w.cell? ⟨X, 9, none⟩ = some (.int .i64 x.l) := by rw [Cells.cell hX]; rfl
  have hXl := hX.lt
  have hfin : ∀ w', (EnJ w w.heap.size (w.heap.size + 1) X x.o ((ensL (G.L (3 - x.o.s))).map G.en) x.l (ensL (G.L (3 - x.o.s))).length w' ∨ ∃ k, k < (ensL (G.L (3 - x.o.s))).length ∧ Below w.heap.size w w' ∧ Cells w' (w.heap.size + 1) #[.int .i64 (needF x.o ((ensL (G.L (3 - x.o.s))).map G.en) x.l)] 2) → Below w.heap.size w w' ∧ Cells w' (w.heap.size + 1) #[.int .i64 (needF x.o ((ensL (G.L (3 - x.o.s))).map G.en) x.l)] 2 := by
    rintro w' (hJ | ⟨_, _, h1, h2⟩)
    · obtain ⟨n, hn, _, _, hf⟩ := hJ.two
      rw [List.drop_of_length_le (by simp)] at hf
      refine ⟨hJ.below, ?_⟩
      rw [← hf]
      exact hn
    · exact ⟨h1, h2⟩
  have hea := hea.mono (R' := fun e w' => e = .returned (.tuple #[]) ∧ Below w.heap.size w w' ∧ Cells w' (w.heap.size + 1) #[.int .i64 (needF x.o ((ensL (G.L (3 - x.o.s))).map G.en) x.l)] 2) (fun e w' ⟨h1, h2⟩ => ⟨h1, hfin w' h2⟩)
  rw [hw1] at hot hea
  have HO := hid hot
  have HE := hid hea
  generalize needF x.o ((ensL (G.L (3 - x.o.s))).map G.en) x.l = N at *
  clear hea hot h h1 hsd hjs hok hl1 hl2 hfew st hk1 hw1 hX hfin b1 b2 hgr1 hgr2 hcol
  go_enter Try.func75, Try.ntmps75
  go_wp2_with fail
  refine HO.out.mono ?_
  rintro e w2 ⟨rfl, rfl⟩
  go_wp2_with fail
  refine HE.out.mono ?_
  rintro e w2 ⟨rfl, hb, hc⟩
  have c0 : w2.cell? ⟨w.heap.size + 1, 0, none⟩ = some (.int .i64 N) := by rw [hc.cell]; rfl
  have hlt := hc.lt
  clear hc
  go_wp2
  go_ret
  exact ⟨rfl, hb⟩
end Go.Proofs.Ytdjhpldiifdifaa
