/- board.other, board.tell, board.meets, board.isDue, board.done. -/
import Derived.Test.YtdjhpldiifdifaaJHalf
namespace Go.Proofs.Ytdjhpldiifdifaa
set_option linter.unusedSimpArgs false
set_option linter.unusedVariables false
open Go.RowKit Go.Shelf
attribute [local go_sem] Oper.semAt_some
attribute [local go_sem ↓] Go.wp_at_zero Go.wp_at_succ

def Mm.H (G : Mm) (s : Int) : Nat := if s = 1 then G.hb else G.hs
def Mm.L (G : Mm) (s : Int) : List Lv := if s = 1 then G.lb else G.ls
def colS (q : Nat) (s : Int) : Nat := if s = 1 then q + 1 else q + 2
theorem BdC.side {O : Nat → Nat} {q : Nat} {w : World} {b : Nat} {G : Mm} {nums last : Int} {evs : List Ev} (h : BdC O q w b G nums last evs) {s : Int} (hs : s = 1 ∨ s = 2) : HlfC O (colS q s) w (G.H s) s (G.L s) G.en := by
  rcases hs with rfl | rfl
  · exact h.buy
  · exact h.sell
theorem BdC.sok {O : Nat → Nat} {q : Nat} {w : World} {b : Nat} {G : Mm} {nums last : Int} {evs : List Ev} (h : BdC O q w b G nums last evs) {s : Int} (hs : s = 1 ∨ s = 2) : HOk s nums (plainH (G.L s) G.en) := by
  rcases hs with rfl | rfl
  · exact h.ok.buy
  · exact h.ok.sell
theorem TopC.half {O : Nat → Nat} {c : Nat} {w : World} {b hb hs mb : Nat} {wt : List Nat} {nums last : Int} {evs : List Ev} (h : TopC O c w b hb hs mb wt nums last evs) : w.cell? ⟨b, 1, none⟩ = some (pt hb) ∧ w.cell? ⟨b, 2, none⟩ = some (pt hs) ∧ w.cell? ⟨b, 3, none⟩ = some (.map (some mb)) ∧ w.cell? ⟨b, 5, none⟩ = some (.int .i64 nums) ∧ w.cell? ⟨b, 6, none⟩ = some (.int .i64 last) := by
  obtain ⟨vw, ve, h1, _⟩ := h.cell
  refine ⟨?_, ?_, ?_, ?_, ?_⟩ <;> (rw [h1.cell]; rfl)

set_option maxRecDepth 100000 in
theorem other_calls {O : Nat → Nat} {c : Nat} {w : World} {b hb hs mb : Nat} {wt : List Nat} {nums last : Int} {evs : List Ev} (h : TopC O c w b hb hs mb wt nums last evs) {s : Int} (h1 : s = 1 ∨ s = 2) :
    Calls Try.prog 49 #[pt b, .int .i64 s] w fun e w' => e = .returned (pt (if s = 1 then hs else hb)) ∧ w' = w := by
  obtain ⟨c1, c2, _⟩ := h.half
  have hl := h.lt
  clear h
  rcases h1 with rfl | rfl
  · go_enter Try.func49, Try.ntmps49
    go_wp2
    go_ret
    exact ⟨rfl, rfl⟩
  · go_enter Try.func49, Try.ntmps49
    go_wp2
    go_ret
    exact ⟨rfl, rfl⟩

theorem infoEv : (Try.prog.info? 40).map (fun i => (i.zero, i.size, i.bytes)) = some (some (.agg #[.int .i64 0, .int .i64 0, .int .i64 0, .int .i64 0, .int .i64 0]), 5, 40) := by kernel_rfl
theorem info_ev : ∃ i, Try.prog.info? 40 = some i ∧ i.zero = some (.agg #[.int .i64 0, .int .i64 0, .int .i64 0, .int .i64 0, .int .i64 0]) ∧ i.size = 5 ∧ i.bytes = 40 := by
  have h := infoEv
  cases hi : Try.prog.info? 40 with
  | none => rw [hi] at h; cases h
  | some i =>
    rw [hi] at h
    simp only [Option.map_some, Option.some.injEq, Prod.mk.injEq] at h
    exact ⟨i, rfl, h.1, h.2.1, h.2.2⟩
theorem undEvs : Try.prog.underlying 30 = some (.slice 40) := by kernel_rfl
theorem encEv_one (e : Ev) : ∀ u ∈ encEv e, u.oneCell' = true := by
  intro u hu
  simp only [encEv, List.mem_cons, List.not_mem_nil, or_false] at hu
  rcases hu with rfl | rfl | rfl | rfl | rfl <;> rfl
/-- append(events, ev) -/
theorem ev_append {w : World} {v : Value} {l : List Ev} (h : OwnE encEv 5 40 0 w v l) (hlen : l.length ≤ 3000000000000) (ev : Ev) {B : Nat} (hB : Cells w B (encEv ev).toArray 40) (ty : TypeId) :
    ∃ v' w', (Builtin.append_ #[30, 30] ty #[v, .slice (some ⟨B, 0, none⟩) 1 1]).run Try.prog w = .ok v' w' ∧ OwnE encEv 5 40 0 w' v' (l ++ [ev]) ∧ Kept (fun k => some k = v.ownBlock) w w' ∧ (v'.ownBlock = v.ownBlock ∨ v'.ownBlock = some w.heap.size) := by
  obtain ⟨i, h1, h2, h3, h4⟩ := info_ev
  obtain ⟨v', w', r1, r2, r3, _, r5⟩ := run_append_own_at w 0 30 ty 40 i _ 5 40 undEvs h1 h2 h3 h4 rfl (by omega) v l.length (flatE encEv l) h ⟨B, 0, none⟩ 1 1 (encEv ev) rfl
    (fun j u hu => news_of hB j u (by simpa using hu)) (encEv_one ev) (by unfold maxLen; omega) (by omega) (by omega)
  refine ⟨v', w', r1, ?_, Kept.of_grown r3, r5⟩
  unfold OwnE
  rw [flatE_snoc, List.length_append]
  exact r2

/-- What tell comes to. -/
def Told (O : Nat → Nat) (c : Nat) (w : World) (b hb hs mb : Nat) (wt : List Nat) (nums last : Int) (evs : List Ev) (e : Ending) (w' : World) : Prop :=
  e = .returned (.tuple #[]) ∧ TopC (grow O w c) c w' b hb hs mb wt nums last evs ∧ Kept (fun k => O k = c) w w'
set_option maxRecDepth 100000 in
set_option maxHeartbeats 2000000 in
theorem tell_calls {O : Nat → Nat} {c : Nat} {w : World} {b hb hs mb : Nat} {wt : List Nat} {nums last : Int} {evs : List Ev} (h : TopC O c w b hb hs mb wt nums last evs) (hlen : evs.length ≤ 3000000000000) {X : Nat} {x : En} {wts : Bool} {pl : Option Nat} (hX : EnC w X x wts pl) (what other price qty : Int) :
    Calls Try.prog 41 #[pt b, .int .i64 what, pt X, .int .i64 other, .int .i64 price, .int .i64 qty] w (Told O c w b hb hs mb wt nums last (evs ++ [⟨what, x.n, other, price, qty⟩])) := by
  obtain ⟨vw, ve, h1, h2, h3, h4, h5⟩ := h.cell
  have hl := h.lt
  have hXl := hX.lt
  have c1 : w.cell? ⟨X, 0, none⟩ = some (.int .i64 x.n) := by rw [Cells.cell hX]; rfl
  have c2 : w.cell? ⟨b, 7, none⟩ = some ve := by rw [h1.cell]; rfl
  obtain ⟨v', w1, r1, r2, r3, r4⟩ := ev_append (h3.drew.alloc (.cells (encEv ⟨what, x.n, other, price, qty⟩).toArray 40)) hlen ⟨what, x.n, other, price, qty⟩ (Cells.new _ _ _) 30
  have hbe : ∀ g, ve.ownBlock = some g → g ≠ b := fun g hg => by
    obtain ⟨cs, hcs⟩ := own_lt h3 hg
    exact hcs.ne h1 (by decide)
  have hB1 := ((h1.drew).alloc (.cells (encEv ⟨what, x.n, other, price, qty⟩).toArray 40)).kept r3 (fun e => hbe b e.symm rfl)
  have hl1 := hB1.lt
  obtain ⟨u1, d1⟩ : ∃ u, w1.cell? ⟨b, 7, none⟩ = some u := ⟨_, by rw [hB1.cell]; rfl⟩
  have d2 : w1.frozen? ⟨b, 7, none⟩ = false := hB1.frozen 7
  have R1 := hid r1
  have fin : Told O c w b hb hs mb wt nums last (evs ++ [⟨what, x.n, other, price, qty⟩]) (.returned (.tuple #[])) (w1.setCell ⟨b, 7, none⟩ v') := by
    have k0 : Kept (fun k => O k = c) w (w.drew.alloc (.cells (encEv ⟨what, x.n, other, price, qty⟩).toArray 40)) := ((Kept.refl _ w).drew).alloc _
    have k1 : Kept (fun k => O k = c) w w1 := k0.trans r3 (fun k _ hk => h5 k hk.symm)
    have hvw : ∀ g, vw.ownBlock = some g → ∃ cs, Cells w g cs 92 := fun g hg => own_lt h2 hg
    have n1 : ∀ g, vw.ownBlock = some g → ve.ownBlock ≠ some g := fun g hg he => by
      obtain ⟨cs, hcs⟩ := hvw g hg
      obtain ⟨cs', hcs'⟩ := own_lt h3 he
      exact hcs.ne hcs' (by decide) rfl
    have h2' := OwnE.kept ((h2.drew).alloc (.cells (encEv ⟨what, x.n, other, price, qty⟩).toArray 40)) r3 (fun g hg he => n1 g hg he.symm)
    refine ⟨rfl, ⟨⟨vw, v', hB1.set 7 v', h2'.set hB1 (by decide) 7 v', r2.set hB1 (by decide) 7 v', fun g hg => grow_same (h4 g hg), fun g hg => ?_⟩, grow_same h.col⟩, k1.set (C := b) h.col 7 v'⟩
    rcases r4 with r4 | r4
    · rw [r4] at hg; exact grow_same (h5 g hg)
    · rw [r4] at hg
      injection hg with hg
      rw [← hg]
      exact grow_new (by simp [World.alloc])
  have FIN := hid fin
  obtain ⟨pn, capn, hv', _⟩ := r2.form
  generalize (evs ++ [(⟨what, x.n, other, price, qty⟩ : Ev)]).length = nn at hv'
  subst hv'
  clear fin r1 r2 r3 r4 hbe hB1 h h1 h2 h3 h4 h5 hX
  generalize Told O c w b hb hs mb wt nums last (evs ++ [⟨what, x.n, other, price, qty⟩]) = R at *
  go_enter Try.func41, Try.ntmps41
  go_wp2
  go_region_law (refine step_append_run rfl (.tmp 16) (.tmp 26) 30 rfl _ _ (.slice pn nn capn) w1 (by simp [Act.eval, Act.put]) (by simp [Act.eval, Act.put]) R1.out ?_)
  all_goals go_wp2
  all_goals go_end0
  all_goals exact FIN.out
end Go.Proofs.Ytdjhpldiifdifaa
