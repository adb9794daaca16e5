/- board.New, board.Get. board.levels. board.level.seen. board.Best. board.Best of a side. BoardKeeps: the plain part, and the row of quantities. No function of the program in sight. -/
import Derived.Test.YtepldjidkomclaaGreatJBStop
namespace Go.Proofs.YtepldjidkomclaaGreat.Bo
set_option linter.unusedSimpArgs false
set_option linter.unusedVariables false
open Go.RowKit Go.Shelf
attribute [local go_sem] Oper.semAt_some
attribute [local go_sem ↓] Go.wp_at_zero Go.wp_at_succ

theorem newHalf_calls (s : Int) (hs : s = 1 ∨ s = 2) (w : World) : Calls Tryz.prog 20 #[.int .i64 s] w fun e w' => e = .returned (pt w.heap.size) ∧ w' = w.alloc (.cells #[betV s, .slice none 0 0] 121) := by
  rcases hs with rfl | rfl
  · have e : betV 1 = .func (.func 48) #[] #[] := rfl
    rw [e]
    go_enter Tryz.func20, Tryz.ntmps20
    go_wp2
    go_ret
    exact ⟨rfl, rfl⟩
  · have e : betV 2 = .func (.func 49) #[] #[] := rfl
    rw [e]
    go_enter Tryz.func20, Tryz.ntmps20
    go_wp2
    go_ret
    exact ⟨rfl, rfl⟩
/-- What New comes to. -/
def NewP (O : Nat → Nat) (q : Nat) (w : World) (e : Ending) (w' : World) : Prop :=
  ∃ O' b G, e = .returned (pt b) ∧ BdC O' q w' b G 0 0 [] ∧ G.bd 0 0 = ⟨[], [], [], 0, 0⟩ ∧ Below w.heap.size w w' ∧ ∀ k, k < w.heap.size → O' k = O k
theorem new_fin (O : Nat → Nat) (q : Nat) (w : World) : NewP O q w (.returned (pt (w.heap.size + 1 + 1 + 1))) ((((w.alloc (Obj.cells #[betV 1, Value.slice none 0 0] 121)).alloc (Obj.cells #[betV 2, Value.slice none 0 0] 121)).alloc (Obj.map #[] 0)).alloc
      (Obj.cells #[Value.pointer none, pt w.heap.size, pt (w.heap.size + 1), Value.map (some (w.heap.size + 1 + 1)), Value.slice none 0 0, Value.int IntKind.i64 0, Value.int IntKind.i64 0, Value.slice none 0 0] 70)) := by
  obtain ⟨n, hn⟩ : ∃ n, n = w.heap.size := ⟨_, rfl⟩
  rw [← hn]
  obtain ⟨w1, h1⟩ : ∃ w1, w1 = w.alloc (Obj.cells #[betV 1, Value.slice none 0 0] 121) := ⟨_, rfl⟩
  obtain ⟨w2, h2⟩ : ∃ w2, w2 = w1.alloc (Obj.cells #[betV 2, Value.slice none 0 0] 121) := ⟨_, rfl⟩
  obtain ⟨w3, h3⟩ : ∃ w3, w3 = w2.alloc (Obj.map #[] 0) := ⟨_, rfl⟩
  rw [← h1, ← h2, ← h3]
  obtain ⟨w4, h4⟩ : ∃ w4, w4 = w3.alloc (Obj.cells #[Value.pointer none, pt n, pt (n + 1), Value.map (some (n + 1 + 1)), Value.slice none 0 0, Value.int IntKind.i64 0, Value.int IntKind.i64 0, Value.slice none 0 0] 70) := ⟨_, rfl⟩
  rw [← h4]
  have z1 : w1.heap.size = n + 1 := by rw [h1, hn]; simp
  have z2 : w2.heap.size = n + 1 + 1 := by rw [h2]; simp [z1]
  have z3 : w3.heap.size = n + 1 + 1 + 1 := by rw [h3]; simp [z2]
  have c1 : Cells w4 n #[betV 1, .slice none 0 0] 121 := by
    have := Cells.new w #[betV 1, Value.slice none 0 0] 121
    rw [← hn, ← h1] at this
    rw [h4, h3, h2]
    exact ((this.alloc _).alloc _).alloc _
  have c2 : Cells w4 (n + 1) #[betV 2, .slice none 0 0] 121 := by
    have := Cells.new w1 #[betV 2, Value.slice none 0 0] 121
    rw [z1, ← h2] at this
    rw [h4, h3]
    exact (this.alloc _).alloc _
  have c3 : MapC w4 (n + 1 + 1) [] := by
    have := MapC.new w2
    rw [z2, ← h3] at this
    rw [h4]
    exact this.kept (X := fun _ => False) ((Kept.refl _ w3).alloc _) not_false
  have c4 : Cells w4 (n + 1 + 1 + 1) #[Value.pointer none, pt n, pt (n + 1), Value.map (some (n + 1 + 1)), Value.slice none 0 0, Value.int IntKind.i64 0, Value.int IntKind.i64 0, Value.slice none 0 0] 70 := by
    have := Cells.new w3 #[Value.pointer none, pt n, pt (n + 1), Value.map (some (n + 1 + 1)), Value.slice none 0 0, Value.int IntKind.i64 0, Value.int IntKind.i64 0, Value.slice none 0 0] 70
    rw [z3, ← h4] at this
    exact this
  have hb : Below w.heap.size w w4 := by
    rw [h4, h3, h2, h1]
    exact ((((Below.refl _ w).alloc (Nat.le_refl _) _).alloc (by simp) _).alloc (by simp; omega) _).alloc (by simp; omega) _
  have hcol : ∀ k, k < n → (fun k => if k = n then q + 1 else if k = n + 1 then q + 2 else if k = n + 1 + 1 then q + 6 else if k = n + 1 + 1 + 1 then q + 3 else O k) k = O k := fun k hk => by
    simp only
    rw [if_neg (by omega), if_neg (by omega), if_neg (by omega), if_neg (by omega)]
  have e1 : (fun k => if k = n then q + 1 else if k = n + 1 then q + 2 else if k = n + 1 + 1 then q + 6 else if k = n + 1 + 1 + 1 then q + 3 else O k) n = q + 1 := if_pos rfl
  have e2 : (fun k => if k = n then q + 1 else if k = n + 1 then q + 2 else if k = n + 1 + 1 then q + 6 else if k = n + 1 + 1 + 1 then q + 3 else O k) (n + 1) = q + 2 := by
    simp only
    rw [if_neg (by omega), if_pos trivial]
  have e3 : (fun k => if k = n then q + 1 else if k = n + 1 then q + 2 else if k = n + 1 + 1 then q + 6 else if k = n + 1 + 1 + 1 then q + 3 else O k) (n + 1 + 1) = q + 6 := by
    simp only
    rw [if_neg (by omega), if_neg (by omega), if_pos trivial]
  have e4 : (fun k => if k = n then q + 1 else if k = n + 1 then q + 2 else if k = n + 1 + 1 then q + 6 else if k = n + 1 + 1 + 1 then q + 3 else O k) (n + 1 + 1 + 1) = q + 3 := by
    simp only
    rw [if_neg (by omega), if_neg (by omega), if_neg (by omega), if_pos trivial]
  refine ⟨fun k => if k = n then q + 1 else if k = n + 1 then q + 2 else if k = n + 1 + 1 then q + 6 else if k = n + 1 + 1 + 1 then q + 3 else O k, n + 1 + 1 + 1, ⟨n, n + 1, n + 1 + 1, [], [], [], fun _ => ⟨0, ⟨0, 0, 0, 0, 0, 0, 0, 0⟩, 0, 0⟩⟩, rfl,
    ⟨⟨⟨_, _, c4, OwnE.nil _ _, OwnE.nil _ _, fun x (hx : none = some x) => (by cases hx), fun x (hx : none = some x) => (by cases hx)⟩, e4⟩, ⟨⟨_, c1, OwnE.nil _ _, fun x (hx : none = some x) => (by cases hx)⟩, e1, by simp, by simp, by simp [elsL], by simp [ensL]⟩, ⟨⟨_, c2, OwnE.nil _ _, fun x (hx : none = some x) => (by cases hx)⟩, e2, by simp, by simp, by simp [elsL], by simp [ensL]⟩, ⟨c3, e3⟩, ⟨by simp, List.nodup_nil⟩, ?_, by simp [Mm.live, ensL]⟩, rfl, hb, by rw [← hn]; exact hcol⟩
  exact ⟨⟨Int.le_refl 0, (by decide : (0 : Int) ≤ 1000000)⟩, ⟨Int.le_refl 0, (by decide : (0 : Int) ≤ 1000000)⟩, HOk.nil _ _, HOk.nil _ _, by simp [Mm.bd], List.Pairwise.nil, by simp [Mm.bd, Bd.live, plainH, Half.all, numsL]⟩
set_option maxHeartbeats 4000000 in
theorem new_calls (O : Nat → Nat) (q : Nat) (w : World) : Calls Tryz.prog 6 #[] w (NewP O q w) := by
  have h1 := newHalf_calls 1 (.inl rfl) w
  have h2 := newHalf_calls 2 (.inr rfl) (w.alloc (.cells #[betV 1, .slice none 0 0] 121))
  have H1 := hid h1
  have H2 := hid h2
  clear h1 h2
  have hmm := @run_makeMap Tryz.prog
  go_enter Tryz.func6, Tryz.ntmps6
  go_wp2_with fail
  refine H1.out.mono ?_
  rintro e w1 ⟨rfl, rfl⟩
  go_wp2_with fail
  refine H2.out.mono ?_
  rintro e w1 ⟨rfl, rfl⟩
  go_wp2
  exact bodyPost_ret (v := pt (w.heap.size + 1 + 1 + 1)) (by simp [results, Tryz.results6, go_sem]) rfl (new_fin O q w)

/-- A status' cells. -/
def statA (o : Od) (l h : Int) (b : Bool) : Value := .agg #[.int .i64 o.m, .int .i64 o.s, .int .i64 o.k, .int .i64 o.f, .int .i64 o.p, .int .i64 o.t, .int .i64 o.q, .int .i64 o.pk, .int .i64 l, .int .i64 h, .bool b]
def od0 : Od := ⟨0, 0, 0, 0, 0, 0, 0, 0⟩
/-- What Get comes to. -/
def GetP (w : World) (G : Mm) (n : Int) (e : Ending) (w' : World) : Prop :=
  Below w.heap.size w w' ∧ ((∃ E ∈ G.live, (G.en E).n = n ∧ ∃ wts, e = .returned (.tuple #[statA (G.en E).o (G.en E).l (G.en E).h wts, .int .i64 0])) ∨ (n ∉ G.live.map (fun E => (G.en E).n) ∧ e = .returned (.tuple #[statA od0 0 0 false, .int .i64 4])))
end Go.Proofs.YtepldjidkomclaaGreat.Bo
namespace Go.Proofs.YtepldjidkomclaaGreat.Bo
set_option linter.unusedSimpArgs false
set_option linter.unusedVariables false
open Go.RowKit Go.Shelf
attribute [local go_sem] Oper.semAt_some
attribute [local go_sem ↓] Go.wp_at_zero Go.wp_at_succ

set_option maxRecDepth 100000 in
set_option maxHeartbeats 8000000 in
theorem levels_calls {O : Nat → Nat} {q : Nat} {w : World} {b : Nat} {G : Mm} {nums last : Int} (h : BdC O q w b G nums last []) {s : Int} (hs : s = 1 ∨ s = 2) :
    ∃ v, OwnE (fun b : Nat => [pt b]) 1 86 0 w v ((G.L s).map fun x => x.2.1) ∧ (∀ g, v.ownBlock = some g → O g = colS q s) ∧ Calls Tryz.prog 31 #[pt b, .int .i64 s] w fun e w' => e = .returned v ∧ w' = w := by
  obtain ⟨v, c1, c2, c3⟩ := (h.side hs).cell
  refine ⟨v, c2, c3, ?_⟩
  obtain ⟨cB, _, _, _, hbl, _, _⟩ := h.parts.cells hs
  have cV : w.cell? ⟨G.H s, 1, none⟩ = some v := by rw [c1.cell]; rfl
  have hHl := c1.lt
  have SD := hid (isSide_calls s w)
  have hS : sideB s = true := by rcases hs with rfl | rfl <;> rfl
  rw [hS] at SD
  obtain ⟨p, cp, hv, _⟩ := c2.form
  subst hv
  clear c1 c2 c3 h hS
  generalize G.H s = H at *
  generalize ((G.L s).map fun x => x.2.1).length = N at *
  obtain ⟨j, hj⟩ : ∃ j, j = s.toNat := ⟨_, rfl⟩
  rw [← hj] at cB
  rcases hs with rfl | rfl
  all_goals (
    have hj' := hj
    simp at hj'
    subst hj'
    clear hj
    go_enter Tryz.func31, Tryz.ntmps31
    go_wp2_with fail
    refine SD.out.mono ?_
    rintro e w1 ⟨rfl, rfl⟩
    go_wp2
    exact bodyPost_ret (v := .slice p N cp) (by simp [results, Tryz.results31, go_sem]) rfl ⟨rfl, rfl⟩)
set_option maxRecDepth 100000 in
set_option maxHeartbeats 8000000 in
/-- No side: no levels. -/
theorem levels_none (w : World) (b : Nat) {s : Int} (hs : sideB s = false) :
    Calls Tryz.prog 31 #[pt b, .int .i64 s] w fun e w' => e = .returned (.slice none 0 0) ∧ w' = w := by
  have SD := hid (isSide_calls s w)
  rw [hs] at SD
  clear hs
  go_enter Tryz.func31, Tryz.ntmps31
  go_wp2_with fail
  refine SD.out.mono ?_
  rintro e w1 ⟨rfl, rfl⟩
  go_wp2
  exact bodyPost_ret (v := .slice none 0 0) (by simp [results, Tryz.results31, go_sem]) rfl ⟨rfl, rfl⟩
end Go.Proofs.YtepldjidkomclaaGreat.Bo
namespace Go.Proofs.YtepldjidkomclaaGreat.Bo
set_option linter.unusedSimpArgs false
set_option linter.unusedVariables false
open Go.RowKit Go.Shelf
attribute [local go_sem] Oper.semAt_some
attribute [local go_sem ↓] Go.wp_at_zero Go.wp_at_succ

/-- What is shown of entries. -/
def shownL (l : List En) : Int := (l.map En.h).sum
theorem shownL_nat {l : List En} (h : ∀ e ∈ l, 0 ≤ e.h ∧ e.h ≤ 1000000000) : 0 ≤ shownL l ∧ shownL l ≤ 1000000000 * l.length := by
  induction l with
  | nil => exact ⟨Int.le_refl _, by simp [shownL]⟩
  | cons e l ih =>
    have h1 := h e List.mem_cons_self
    have h2 := ih (fun x hx => h x (List.mem_cons_of_mem _ hx))
    have e1 : shownL (e :: l) = e.h + shownL l := rfl
    rw [e1, List.length_cons]
    omega
theorem shownL_take {l : List En} {j : Nat} (h : j < l.length) : shownL (l.take (j + 1)) = shownL (l.take j) + l[j].h := by
  unfold shownL
  rw [List.take_succ_eq_append_getElem h, List.map_append, List.sum_append]
  simp

set_option maxRecDepth 100000 in
set_option maxHeartbeats 8000000 in
theorem seen_calls {w : World} {L : Nat} {P : Int} {es : List (Nat × Nat)} {en : Nat → En} (hL : Lst w L P es) (ents : ∀ y ∈ es, EnC w y.2 (en y.2) false (some y.1)) (sm : ∀ e ∈ es.map (fun y => en y.2), 0 ≤ e.h ∧ e.h ≤ 1000000000) (hlen : es.length ≤ 4096) :
    Calls Tryz.prog 32 #[pt L] w fun e w' => e = .returned (.agg #[.int .i64 P, .int .i64 (shownL (es.map fun y => en y.2)), .int .i64 es.length]) ∧ Below w.heap.size w w' := by
  have c0 : w.cell? ⟨L, 0, none⟩ = some (.int .i64 P) := by rw [hL.c.cell]; rfl
  have c1 : w.cell? ⟨L, 1, none⟩ = some (op (headO es none)) := by rw [hL.c.cell]; rfl
  have c3 : w.cell? ⟨L, 3, none⟩ = some (.int .i64 es.length) := by rw [hL.c.cell]; rfl
  have hLl := hL.c.lt
  have HL := hid hL
  have EN := hid ents
  have SM := hid sm
  clear hL ents sm
  obtain ⟨ln, hln⟩ : ∃ ln, ln = es.length := ⟨_, rfl⟩
  rw [← hln] at c3 hlen
  have HN := hid hln
  rw [← hln]
  clear hln
  obtain ⟨N, hNw⟩ : ∃ N, N = w.heap.size := ⟨_, rfl⟩
  go_enter Tryz.func32, Tryz.ntmps32
  go_wp2
  go_region
  all_goals go_wp2
  all_goals (
    go_loopg [4] ln (fun k s4 wr => ∃ j : Nat, s4 = op (headO (es.drop j) none) ∧ j ≤ ln ∧ k = ln - j ∧ Cells wr (w.heap.size + 1) #[.int .i64 P, .int .i64 (shownL ((es.map fun y => en y.2).take j)), .int .i64 ln] 85 ∧ Cells wr w.heap.size #[.int .i64 0, .int .i64 0, .int .i64 0] 85 ∧ Below w.heap.size w wr)
    case atStart =>
      refine ⟨0, rfl, by omega, by omega, ?_, ?_, (Below.alloc (Below.alloc (Below.refl _ w) (Nat.le_refl _) _) (by simp) _).drew⟩
      · have e := (Cells.new (w.alloc (.cells #[.int .i64 0, .int .i64 0, .int .i64 0] 85)) #[.int .i64 P, .int .i64 0, .int .i64 ln] 85).drew
        simpa [shownL] using e
      · exact ((Cells.new w #[.int .i64 0, .int .i64 0, .int .i64 0] 85).alloc _).drew
    case round =>
      obtain ⟨j, rfl, hj, hk, d1, d2, d3⟩ := hrel
      have HK := hid hk
      have HB := hid d3
      have D1 := hid d1
      have D2 := hid d2
      have e1 : wr.cell? ⟨w.heap.size + 1, 1, none⟩ = some (.int .i64 (shownL ((es.map fun y => en y.2).take j))) := by rw [d1.cell]; rfl
      have e0 : wr.cell? ⟨w.heap.size + 1, 0, none⟩ = some (.int .i64 P) := by rw [d1.cell]; rfl
      have e2 : wr.cell? ⟨w.heap.size + 1, 2, none⟩ = some (.int .i64 ln) := by rw [d1.cell]; rfl
      have l1 := d1.lt
      have l2 := d2.lt
      have z1 := d1.frozen 1
      have y0 : wr.cell? ⟨w.heap.size, 0, none⟩ = some (.int .i64 0) := by rw [d2.cell]; rfl
      have y1 : wr.cell? ⟨w.heap.size, 1, none⟩ = some (.int .i64 0) := by rw [d2.cell]; rfl
      have y2 : wr.cell? ⟨w.heap.size, 2, none⟩ = some (.int .i64 0) := by rw [d2.cell]; rfl
      have x0 := d2.frozen 0
      have x1 := d2.frozen 1
      have x2 := d2.frozen 2
      clear hk d1 d2 d3
      by_cases hjl : j < es.length
      · have e0 := HL.out.l.nth j hjl
        have eX := EN.out _ (List.getElem_mem hjl)
        obtain ⟨E, hE⟩ : ∃ E, E = es[j].1 := ⟨_, rfl⟩
        obtain ⟨X, hX⟩ : ∃ X, X = es[j].2 := ⟨_, rfl⟩
        rw [← hE, ← hX] at e0
        rw [← hE, ← hX] at eX
        have hd : headO (es.drop j) none = some E := by rw [List.drop_eq_getElem_cons hjl, hE]; rfl
        rw [hd]
        have hElt := e0.lt
        have hXlt := eX.lt
        have m1 : wr.cell? ⟨E, 1, none⟩ = some (op (headO (es.drop (j + 1)) none)) := by rw [HB.out.cell (p := ⟨E, 1, none⟩) hElt, e0.cell]; rfl
        have m2 : wr.cell? ⟨E, 2, none⟩ = some (pt X) := by rw [HB.out.cell (p := ⟨E, 2, none⟩) hElt, e0.cell]; rfl
        have m3 : wr.cell? ⟨X, 10, none⟩ = some (.int .i64 (en X).h) := by rw [HB.out.cell (p := ⟨X, 10, none⟩) hXlt]; exact eX.cells.2.2.2.2.2.2.1
        have hE2 := Nat.lt_of_lt_of_le hElt HB.out.size
        have hX2 := Nat.lt_of_lt_of_le hXlt HB.out.size
        have hEc : E ≠ w.heap.size + 1 := by omega
        have hXc : X ≠ w.heap.size + 1 := by omega
        have tk := shownL_take (l := es.map fun y => en y.2) (j := j) (by simpa using hjl)
        have tk2 : shownL ((es.map fun y => en y.2).take (j + 1)) = shownL ((es.map fun y => en y.2).take j) + (en X).h := by rw [tk]; simp [hX]
        have b1 := shownL_nat (l := (es.map fun y => en y.2).take (j + 1)) (fun e he => SM.out e (List.mem_of_mem_take he))
        have b2 : ((es.map fun y => en y.2).take (j + 1)).length ≤ 4096 := by rw [List.length_take, List.length_map, ← HN.out]; omega
        have wfs : (Lit.int .i64 (shownL ((es.map fun y => en y.2).take j) + (en X).h)).wf = true := WalkArith.wf_i64 (by omega)
        have hwr : wrap64 (shownL ((es.map fun y => en y.2).take j) + (en X).h) = shownL ((es.map fun y => en y.2).take j) + (en X).h := by unfold wrap64; omega
        have TK := hid tk2
        have WR := hid hwr
        have HJ := hid hjl
        generalize shownL ((es.map fun y => en y.2).take j) = S at *
        clear hwr e0 eX hd tk tk2 b1 b2 hE hX hElt hXlt
        simp only [op_some, op_none]
        go_wp2
        go_region
        all_goals go_wp2
        all_goals (
          go_roundg (ln - (j + 1))
          · refine ⟨j + 1, rfl, by have := HN.out; have := HJ.out; omega, rfl, ?_, ?_, ?_⟩
            · rw [TK.out, WR.out]
              exact (D1.out.set 1 (.int .i64 (S + (en X).h)))
            · exact D2.out.set_far 1 _ (by omega)
            · exact (HB.out.setCell (by simp) _).drew
          · have := HN.out; have := HJ.out; have := HK.out; omega)
      · have hd : headO (es.drop j) none = none := by rw [List.drop_of_length_le (by omega)]; rfl
        have hjj : j = es.length := by have := HN.out; omega
        rw [hd]
        have hT : (es.map fun y => en y.2).take j = es.map fun y => en y.2 := List.take_of_length_le (by simp; omega)
        rw [hT] at e1
        clear hd hT
        simp only [op_some, op_none]
        go_wp2
        refine bodyPost_ret (v := .agg #[.int .i64 P, .int .i64 (shownL (es.map fun y => en y.2)), .int .i64 ln]) (by simp [results, Tryz.results32, go_sem, y0, y1, y2, l2]) rfl ?_
        exact ⟨rfl, ((HB.out.setCell (Nat.le_refl _) _).setCell (Nat.le_refl _) _).setCell (Nat.le_refl _) _⟩)
end Go.Proofs.YtepldjidkomclaaGreat.Bo
namespace Go.Proofs.YtepldjidkomclaaGreat.Bo
set_option linter.unusedSimpArgs false
set_option linter.unusedVariables false
open Go.RowKit Go.Shelf
attribute [local go_sem] Oper.semAt_some
attribute [local go_sem ↓] Go.wp_at_zero Go.wp_at_succ

/-- The best price of a side, what is shown there, and whether there is one. -/
def bestF (h : Half) : Int × Int × Bool := match h with
  | [] => (0, 0, false)
  | x :: _ => (x.1, shownL x.2, true)
set_option maxRecDepth 100000 in
set_option maxHeartbeats 8000000 in
theorem best_none (w : World) (b : Nat) {s : Int} (hs : sideB s = false) :
    Calls Tryz.prog 10 #[pt b, .int .i64 s] w fun e w' => e = .returned (.tuple #[.int .i64 0, .int .i64 0, .bool false]) ∧ w' = w := by
  have LV := hid (levels_none w b hs)
  clear hs
  obtain ⟨R, hR⟩ : ∃ R : Ending → World → Prop, R = fun e w' => e = .returned (.tuple #[.int .i64 0, .int .i64 0, .bool false]) ∧ w' = w := ⟨_, rfl⟩
  have FIN := hid (show R (.returned (.tuple #[.int .i64 0, .int .i64 0, .bool false])) w by rw [hR]; exact ⟨rfl, rfl⟩)
  rw [← hR]
  clear hR
  go_enter Tryz.func10, Tryz.ntmps10
  go_wp2_with fail
  refine LV.out.mono ?_
  rintro e w1 ⟨rfl, rfl⟩
  go_wp2
  first | exact FIN.out | (refine bodyPost_ret (v := .tuple #[.int .i64 0, .int .i64 0, .bool false]) (by simp [results, Tryz.results10, go_sem]) rfl FIN.out)
end Go.Proofs.YtepldjidkomclaaGreat.Bo
namespace Go.Proofs.YtepldjidkomclaaGreat.Bo
set_option linter.unusedSimpArgs false
set_option linter.unusedVariables false
open Go.RowKit Go.Shelf
attribute [local go_sem] Oper.semAt_some
attribute [local go_sem ↓] Go.wp_at_zero Go.wp_at_succ

set_option maxRecDepth 100000 in
set_option maxHeartbeats 8000000 in
theorem best_side {O : Nat → Nat} {q : Nat} {w : World} {b : Nat} {G : Mm} {nums last : Int} (h : BdC O q w b G nums last []) {s : Int} (hs : s = 1 ∨ s = 2) :
    Calls Tryz.prog 10 #[pt b, .int .i64 s] w fun e w' => e = .returned (.tuple #[.int .i64 (bestF ((G.bd nums last).half s)).1, .int .i64 (bestF ((G.bd nums last).half s)).2.1, .bool (bestF ((G.bd nums last).half s)).2.2]) ∧ Below w.heap.size w w' := by
  obtain ⟨v, c2, c3, lv⟩ := levels_calls h hs
  obtain ⟨p, cap, b1, rfl, hp, hc⟩ := OwnE.cells (sz := 1) (fun _ => rfl) c2
  have LV := hid lv
  rw [Mm.plain G hs]
  have sd := h.side hs
  cases hls : G.L s with
  | nil =>
    rw [hls] at LV
    obtain ⟨R, hR⟩ : ∃ R : Ending → World → Prop, R = fun e w' => e = .returned (.tuple #[.int .i64 0, .int .i64 0, .bool false]) ∧ Below w.heap.size w w' := ⟨_, rfl⟩
    have FIN := hid (show R (.returned (.tuple #[.int .i64 0, .int .i64 0, .bool false])) w by rw [hR]; exact ⟨rfl, Below.refl _ _⟩)
    show Calls _ _ _ _ fun e w' => e = .returned (.tuple #[.int .i64 0, .int .i64 0, .bool false]) ∧ Below w.heap.size w w'
    rw [← hR]
    clear hR h hs c2 c3 lv hp hc sd hls
    go_enter Tryz.func10, Tryz.ntmps10
    go_wp2_with fail
    refine LV.out.mono ?_
    rintro e w1 ⟨rfl, rfl⟩
    go_wp2
    first | exact FIN.out | (refine bodyPost_ret (v := .tuple #[.int .i64 0, .int .i64 0, .bool false]) (by simp [results, Tryz.results10, go_sem]) rfl FIN.out)
  | cons x ls =>
    have hm : x ∈ G.L s := by rw [hls]; exact List.mem_cons_self
    obtain ⟨k1, k2, k3⟩ := sd.lv x hm
    have sok := h.sok hs
    have hmem : ∀ y ∈ x.2.2, y.2 ∈ ensL (G.L s) := fun y hy => mem_ens hm hy
    have hln : x.2.2.length ≤ 4096 := by
      have e := few_side (G := G) hs
      have e2 : (ensL (G.L s)).length = x.2.2.length + (ensL ls).length := by rw [hls]; simp [ensL]
      have := h.few
      omega
    have sm : ∀ e ∈ x.2.2.map (fun y => G.en y.2), 0 ≤ e.h ∧ e.h ≤ 1000000000 := by
      intro e he
      obtain ⟨y, hy, rfl⟩ := List.mem_map.1 he
      have ok := sok.mem (G.en y.2) (by rw [plainH_all]; exact List.mem_map.2 ⟨y.2, hmem y hy, rfl⟩)
      have := okQ ok.ok
      have := ok.h
      have := ok.l
      omega
    have SE := hid (seen_calls k1 (fun y hy => (k3 y hy).2.2) sm hln)
    rw [hls] at LV hp hc
    have hpp := (hp (by simp)).1
    have hb1 := (hp (by simp)).2.2
    have hcc : w.cell? ⟨b1, 0, none⟩ = some (pt x.2.1) := by simpa using hc 0 (by simp) 0 (by omega)
    subst hpp
    obtain ⟨R, hR⟩ : ∃ R : Ending → World → Prop, R = fun e w' => e = .returned (.tuple #[.int .i64 x.1, .int .i64 (shownL (x.2.2.map fun y => G.en y.2)), .bool true]) ∧ Below w.heap.size w w' := ⟨_, rfl⟩
    show Calls _ _ _ _ fun e w' => e = .returned (.tuple #[.int .i64 x.1, .int .i64 (shownL (x.2.2.map fun y => G.en y.2)), .bool true]) ∧ Below w.heap.size w w'
    obtain ⟨n, hn⟩ : ∃ n, n = ((x :: ls).map fun x : Lv => x.2.1).length := ⟨_, rfl⟩
    have hn1 : 1 ≤ n := by rw [hn]; simp
    rw [← hn] at LV
    rw [← hR]
    have HR := hid hR
    clear hR h hs c2 c3 lv hp hc sd hls hm k1 k2 k3 sok hmem hln sm hn
    go_enter Tryz.func10, Tryz.ntmps10
    go_wp2_with fail
    refine LV.out.mono ?_
    rintro e w1 ⟨rfl, rfl⟩
    have hne : ((n : Int) == 0) = false := by simp; omega
    go_wp2_with fail
    refine SE.out.mono ?_
    rintro e w2 ⟨rfl, hb⟩
    have hbs := hb.size
    go_wp2
    go_region
    all_goals go_wp2
    all_goals exact bodyPost_ret (v := .tuple #[.int .i64 x.1, .int .i64 (shownL (x.2.2.map fun y => G.en y.2)), .bool true]) (by simp [results, Tryz.results10, go_sem]) rfl (by rw [HR.out]; exact ⟨rfl, (hb.alloc hbs _).drew⟩)
end Go.Proofs.YtepldjidkomclaaGreat.Bo
namespace Go.Proofs.YtepldjidkomclaaGreat.Bo
set_option linter.unusedSimpArgs false
set_option linter.unusedVariables false
open Go.RowKit Go.Shelf

/-! ### what a number has -/
theorem sumL_none {n : Int} : ∀ {l : List En}, n ∉ numsL l → sumL n l = 0
  | [], _ => rfl
  | e :: l, h => by
    simp only [numsL, List.map_cons, List.mem_cons, not_or] at h
    rw [sumL, if_neg (fun e => h.1 e.symm), sumL_none (l := l) h.2]
    rfl
theorem sumL_one {e : En} : ∀ {l : List En}, (numsL l).Nodup → e ∈ l → sumL e.n l = e.l
  | [], _, h => by simp at h
  | a :: l, hn, h => by
    obtain ⟨h1, h2⟩ := List.nodup_cons.1 (show (a.n :: numsL l).Nodup from hn)
    rcases List.mem_cons.1 h with rfl | h
    · rw [sumL, if_pos rfl, sumL_none h1]; omega
    · have hne : ¬ a.n = e.n := fun he => h1 (by rw [he]; exact List.mem_map.2 ⟨e, h, rfl⟩)
      rw [sumL, if_neg hne, sumL_one h2 h]; omega
theorem live_ok {S : Bd} (hS : BdOk S) {e : En} (he : e ∈ S.live) : (1 ≤ e.n ∧ e.n ≤ S.nums) ∧ 0 ≤ e.l ∧ e.l ≤ 1000000000 := by
  unfold Bd.live at he
  rcases List.mem_append.1 he with he | he
  · have k := hS.buy.mem e he; have := okQ k.ok; have := k.l; exact ⟨k.n, by omega, by omega⟩
  · rcases List.mem_append.1 he with he | he
    · have k := hS.sell.mem e he; have := okQ k.ok; have := k.l; exact ⟨k.n, by omega, by omega⟩
    · have k := hS.wait e he; have := okQ k.ok; have := k.l; exact ⟨k.n, by omega, by omega⟩
theorem sumL_bd {S : Bd} (hS : BdOk S) (n : Int) : 0 ≤ sumL n S.live ∧ sumL n S.live ≤ 1000000000 := by
  by_cases h : n ∈ numsL S.live
  · obtain ⟨e, he, rfl⟩ := List.mem_map.1 h
    rw [sumL_one hS.once he]
    exact (live_ok hS he).2
  · rw [sumL_none h]; omega
theorem pigeon : ∀ (N : Nat) (l : List Int), l.Nodup → (∀ x ∈ l, 1 ≤ x ∧ x ≤ N) → l.length ≤ N
  | 0, l, _, h => by
    cases l with
    | nil => simp
    | cons a l => have := h a (by simp); omega
  | N + 1, l, hn, h => by
    have h1 : (l.filter fun x => decide (x ≠ (N : Int) + 1)).length ≤ N := pigeon N _ (hn.sublist List.filter_sublist) (fun x hx => by
      obtain ⟨hx1, hx2⟩ := List.mem_filter.1 hx
      have := h x hx1
      simp only [ne_eq, decide_not, Bool.not_eq_eq_eq_not, Bool.not_true, decide_eq_false_iff_not] at hx2
      omega)
    have h2 : l.length ≤ (l.filter fun x => decide (x ≠ (N : Int) + 1)).length + 1 := by
      clear h1 h
      induction l with
      | nil => simp
      | cons a l ih =>
        obtain ⟨g1, g2⟩ := List.nodup_cons.1 hn
        by_cases ha : a = (N : Int) + 1
        · have : l.filter (fun x => decide (x ≠ (N : Int) + 1)) = l := List.filter_eq_self.2 (fun x hx => by
            have : x ≠ (N : Int) + 1 := fun e => g1 (by rw [ha, ← e]; exact hx)
            simpa using this)
          rw [List.filter_cons, if_neg (by simp [ha]), this]
          simp
        · rw [List.filter_cons, if_pos (by simp [ha])]
          have := ih g2
          simp only [List.length_cons]
          omega
    omega
theorem live_few {S : Bd} (hS : BdOk S) {N : Nat} (hN : S.nums ≤ N) : S.live.length ≤ N := by
  have := pigeon N (numsL S.live) hS.once (fun x hx => by
    obtain ⟨e, he, rfl⟩ := List.mem_map.1 hx
    have := (live_ok hS he).1
    omega)
  simpa [numsL] using this
theorem sizeL_le {l : List En} (h : ∀ e ∈ l, e.l ≤ 1000000000) : sizeL l ≤ l.length * 1000000001 := by
  induction l with
  | nil => exact Nat.zero_le _
  | cons a l ih =>
    rw [sizeL_cons, List.length_cons]
    have := ih (fun e he => h e (List.mem_cons_of_mem _ he))
    have := h a (by simp)
    omega
theorem live_size {S : Bd} (hS : BdOk S) {N : Nat} (hN : S.nums ≤ N) (h40 : N ≤ 100) : sizeL S.live ≤ 1000000000000 := by
  have h1 := live_few hS hN
  have h2 := sizeL_le (l := S.live) (fun e he => (live_ok hS he).2.2)
  have h3 : S.live.length * 1000000001 ≤ 100 * 1000000001 := Nat.mul_le_mul_right _ (by omega)
  omega
theorem takesE_nonneg {nums : Int} {e : Ev} (h : EvOk nums e) (m : Int) : 0 ≤ takesE m e := by
  have := h.2.2.1
  unfold takesE
  split
  · split <;> split <;> omega
  · split
    · split <;> omega
    · omega
theorem takes_nonneg {nums : Int} (m : Int) : ∀ {l : List Ev}, (∀ e ∈ l, EvOk nums e) → 0 ≤ takes m l
  | [], _ => by simp [takes]
  | e :: l, h => by
    have h1 := takesE_nonneg (h e (by simp)) m
    have h2 := takes_nonneg m (l := l) (fun x hx => h x (List.mem_cons_of_mem _ hx))
    simp only [takes]; omega
theorem takes_split (m : Int) (l : List Ev) (k : Nat) : takes m (l.take k) + takes m (l.drop k) = takes m l := by
  rw [← takes_append, List.take_append_drop]
end Go.Proofs.YtepldjidkomclaaGreat.Bo
