/- slices.Repeat, Sort, Clone; bid.newMatching. bid.reserves, all. bid.crowd. bid.smallest. bid.rise, leastPrices and its closure. bid.leastPrices and its closure. bid.balanced: its state, in memory. -/
import Derived.Sort.OwnSortedInts
import Derived.Lib.OwnBridge
import Derived.Laws.CopyRow
import Derived.Maps.AppendAt
import Derived.Test.YtojednnciknhpaaDoorJRowx
import Derived.Test.YtojednnciknhpaaDoorJShelf
import Derived.Test.YtojednnciknhpaaDoorJCf
import Derived.Test.YtojednnciknhpaaDoorJAu7
import Derived.Test.YtojednnciknhpaaDoorJMem
namespace Go.Proofs.YtojednnciknhpaaDoor
set_option linter.unusedSimpArgs false
set_option linter.unusedVariables false
open Go.RowKit
attribute [local go_sem] Oper.semAt_some
attribute [local go_sem ↓] Go.wp_at_zero Go.wp_at_succ
theorem mul_calls (x y : Nat) (hx : x < 18446744073709551616) (hy : y < 18446744073709551616) (w : World) :
    Calls Tryd.prog 132 #[.int .u64 x, .int .u64 y] w fun e w' => e = .returned (.tuple #[.int .u64 ((x * y / 18446744073709551616 : Nat) : Int), .int .u64 ((x * y % 18446744073709551616 : Nat) : Int)]) ∧ w' = w := Any.bits_Mul Tryd.lays212 x y hx hy w
theorem setRow_kept (w : World) (g : Nat) (cs : Array Value) : Kept (fun k => k = g) w (w.setRow g cs) := by
  refine ⟨rfl, rfl, rfl, by simp [World.setRow], fun k _ hk => ?_⟩
  simp only [World.setRow]
  rw [Array.getElem?_modify, if_neg (fun e => hk e.symm)]
theorem setRow_row {w : World} {g : Nat} {l l' : List Int} (h : RN w g l) (cs : Array Value) (hc : cs = (l'.map fun z => Value.int .i64 z).toArray) : RN (w.setRow g cs) g l' := by
  subst hc
  exact setRow_heap w g _ _ _ _ h
theorem wpList_copy_run {P : Program} {w : World} {ops : Array Oper} {rest : List Oper} {o : Oper} {a : Act} {Q : Exit → Act → World → Prop} (hgd : o.guard = none) (s x : Operand) (t : TypeId)
    (ho : o.op = .call { callee := .builtin .copy, args := #[s, x], argTypes := #[t, t] }) (sv xv v : Value) (w' : World) (hs : a.eval s = sv) (hx : a.eval x = xv) (hrun : (Builtin.copy_ #[t, t] o.type #[sv, xv]).run P w = .ok v w') (h : wpList P ops Q rest (a.put o.dst v) w') :
    wpList P ops Q (o :: rest) a w := by
  refine wpList_plain hgd fun K hK => ?_
  unfold Oper.wp
  simp [execOp, ho, resolve, invoke, builtin, hs, hx, hrun, Result.andThen]
  exact hK _ _ h
theorem step_copy_run {P : Program} {ops : Array Oper} {o : Oper} {a : Act} {w : World} {K : Act → World → Prop} {Q : Exit → Act → World → Prop} {E : Prop} (hgd : o.guard = none) (s x : Operand) (t : TypeId)
    (ho : o.op = .call { callee := .builtin .copy, args := #[s, x], argTypes := #[t, t] }) (sv xv v : Value) (w' : World) (hs : a.eval s = sv) (hx : a.eval x = xv) (hrun : (Builtin.copy_ #[t, t] o.type #[sv, xv]).run P w = .ok v w') (hK : K (a.put o.dst v) w') :
    if Region.wanted o (yielded ops a.tmps) = true then Oper.wp P o a w K Q else E := by
  have hw : Region.wanted o (yielded ops a.tmps) = true := by simp [Region.wanted, hgd]
  rw [if_pos hw]
  unfold Oper.wp
  simp [execOp, ho, resolve, invoke, builtin, hs, hx, hrun, Result.andThen]
  exact hK
theorem addr_add0 (b j : Nat) : (⟨b, 0, none⟩ : Addr).add j = ⟨b, j, none⟩ := by unfold Addr.add; split <;> simp_all
theorem sizeN : (Tryd.prog.info? 3).map (·.size) = some 1 := by kernel_rfl
/-- A part of a row is copied behind itself. -/
theorem copy_fill {w : World} {g c d capS capD : Nat} {x y : Int} (h : RN w g (List.replicate c x ++ List.replicate d y)) (ty : TypeId) :
    ∃ w', (Builtin.copy_ #[27, 27] ty #[.slice (some ⟨g, c, none⟩) d capD, .slice (some ⟨g, 0, none⟩) c capS]).run Tryd.prog w = .ok (.int .i64 (min c d : Nat)) w' ∧ RN w' g (List.replicate (c + min c d) x ++ List.replicate (d - min c d) y) ∧ Kept (fun k => k = g) w w' := by
  have hr := run_copy_row (P := Tryd.prog) w 27 27 ty 3 g c d capD ⟨g, 0, none⟩ c capS _ 3 (List.replicate (min c d) (.int .i64 x)) undN sizeN h (by simp [Nat.min_def]) (fun j v hv => by
    obtain ⟨hj, e⟩ := List.getElem?_eq_some_iff.1 hv
    simp at hj e
    rw [addr_add0, h.cell (i := j) (by simp; omega), ← e]
    simp [List.getElem_append, show j < c by omega]) (by simp; omega) (by intro v hv; rw [(List.mem_replicate.1 hv).2]; rfl)
  rw [List.length_replicate] at hr
  refine ⟨_, hr, setRow_row h _ ?_, setRow_kept _ _ _⟩
  refine congrArg List.toArray ?_
  obtain ⟨k, hk⟩ : ∃ k, k = min c d := ⟨_, rfl⟩
  rw [← hk]
  obtain ⟨X, hX⟩ : ∃ X, X = Value.int IntKind.i64 x := ⟨_, rfl⟩
  obtain ⟨Y, hY⟩ : ∃ Y, Y = Value.int IntKind.i64 y := ⟨_, rfl⟩
  simp only [List.map_append, List.map_replicate, ← hX, ← hY]
  have t1 : (List.replicate c X ++ List.replicate d Y).take c = List.replicate c X := by rw [List.take_append_of_le_length (by simp), List.take_of_length_le (by simp)]
  have t2 : (List.replicate c X ++ List.replicate d Y).drop (c + k) = List.replicate (d - k) Y := by
    rw [List.drop_append, List.drop_of_length_le (by simp), List.drop_replicate, List.length_replicate, Nat.add_sub_cancel_left, List.nil_append]
  rw [t1, t2, List.replicate_append_replicate]

set_option maxRecDepth 100000 in
set_option maxHeartbeats 4000000 in
theorem repeat_calls {w : World} {g : Nat} (hx : w.cell? ⟨g, 0, none⟩ = some (.int .i64 (-1))) {n : Nat} (h1 : 1 ≤ n) (hn : n ≤ 5000) :
    Calls Tryd.prog 118 #[.slice (some ⟨g, 0, none⟩) 1 1, .int .i64 n] w fun e w' => e = .returned (.slice (some ⟨w.heap.size, 0, none⟩) n n) ∧ RN w' w.heap.size (List.replicate n (-1)) ∧ Below w.heap.size w w' := by
  obtain ⟨R, hR⟩ : ∃ R : Ending → World → Prop, R = fun e w' => e = .returned (.slice (some ⟨w.heap.size, 0, none⟩) n n) ∧ RN w' w.heap.size (List.replicate n (-1)) ∧ Below w.heap.size w w' := ⟨_, rfl⟩
  rw [← hR]
  have FN := hid (show ∀ w', RN w' w.heap.size (List.replicate n (-1)) → Below w.heap.size w w' → R (.returned (.slice (some ⟨w.heap.size, 0, none⟩) n n)) w' from fun w' h1 h2 => by rw [hR]; exact ⟨rfl, h1, h2⟩)
  have MU := hid (mul_calls 1 n (by omega) (by omega) w)
  rw [show 1 * n / 18446744073709551616 = 0 by omega, show 1 * n % 18446744073709551616 = n by omega] at MU
  have hmk := mk_N w n hn
  have hn0 : (0 : Int) ≤ (n : Int) := by omega
  have ec : IntKind.u64.wrap (n : Int) = (n : Int) := IntWalk.u64_in _ (by omega)
  have ec2 : IntKind.i64.wrap (n : Int) = (n : Int) := IntWalk.i64_in _ (by omega)
  obtain ⟨w1, hw1⟩ : ∃ w1, w1 = w.alloc (.cells (madeCells #[.int .i64 0] n) 3) := ⟨_, rfl⟩
  have B1 := hid (show Below w.heap.size w w1 by rw [hw1]; exact (Below.refl _ _).alloc (Nat.le_refl _) _)
  have R1 : RN w1 w.heap.size (List.replicate n 0) := by rw [hw1]; exact RowX.made w n 0 _ rfl
  have hlt : g < w.heap.size := World.block_lt_of_cell? _ _ hx
  have hx1 : w1.cell? ⟨g, 0, none⟩ = some (.int .i64 (-1)) := (B1.out.cell (p := ⟨g, 0, none⟩) hlt).trans hx
  have hm1 : min 1 n = 1 := by omega
  obtain ⟨w2, r2, R2, K2⟩ : ∃ w', (Builtin.copy_ #[27, 27] 3 #[.slice (some ⟨w.heap.size, 0, none⟩) n n, .slice (some ⟨g, 0, none⟩) 1 1]).run Tryd.prog w1 = .ok (.int .i64 1) w' ∧ RN w' w.heap.size (List.replicate 1 (-1) ++ List.replicate (n - 1) 0) ∧ Kept (fun k => k = w.heap.size) w1 w' := by
    have hr := run_copy_row (P := Tryd.prog) w1 27 27 3 3 w.heap.size 0 n n ⟨g, 0, none⟩ 1 1 _ 3 [.int .i64 (-1)] undN sizeN R1 (by simp [Nat.min_def]; omega) (fun j v hv => by
      obtain ⟨hj, e⟩ := List.getElem?_eq_some_iff.1 hv
      obtain rfl : j = 0 := by simpa using hj
      rw [addr_add0, hx1, ← e]; rfl) (by simp; omega) (by intro v hv; rw [List.mem_singleton.1 hv]; rfl)
    refine ⟨_, hr, setRow_row R1 _ ?_, setRow_kept _ _ _⟩
    congr 1
    simp
  have RR2 := hid R2
  have BB2 := hid (B1.out.trans (K2.below B1.out.size (fun k hk => by omega)))
  have RUN2 := hid r2
  have HW1 := hid hw1
  clear hR hw1 R1 hx1 hx hlt r2 R2 K2 hm1
  go_enter Tryd.func118, Tryd.ntmps118
  go_wp2_with fail
  refine MU.out.mono ?_
  rintro e w3 ⟨rfl, hw3⟩
  rw [hw3]
  clear hw3
  go_upto_region 7 with fail
  rw [← HW1.out]
  have r2 := RUN2.out
  go_upto_region 8 with fail
  clear r2
  go_loopg [8] (n - 1) (fun k s8 wr => ∃ c : Nat, n - c = k ∧ 1 ≤ c ∧ c ≤ n ∧ s8 = .int .i64 c ∧ RN wr w.heap.size (List.replicate c (-1) ++ List.replicate (n - c) 0) ∧ Below w.heap.size w wr)
  case atStart => exact ⟨1, rfl, Nat.le_refl _, h1, rfl, RR2.out, BB2.out⟩
  case round =>
    obtain ⟨c, hck, hc1, hcn, rfl, hrow, hb⟩ := hrel
    have HCK := hid hck
    have B := hid hb
    have HROW := hid hrow
    clear hck hb
    by_cases hlt : c < n
    · obtain ⟨w4, r4, R4, K4⟩ := copy_fill (w := wr.drew) (capS := n) (capD := n - c) (hrow.drewN 1) 3
      have RUN4 := hid r4
      obtain ⟨k4, hk4⟩ : ∃ k4, k4 = min c (n - c) := ⟨_, rfl⟩
      rw [← hk4] at R4 RUN4
      have RR4 := hid R4
      have BB4 := hid (B.out.drew.trans (K4.below (w := wr.drew) B.out.size (fun k hk => by omega)))
      have HK4 := hid hk4
      have k41 : 1 ≤ k4 := by omega
      have k42 : c + k4 ≤ n := by omega
      have g1 : (c : Int) < (n : Int) := by omega
      have g2 : (c : Int) ≤ (n : Int) := by omega
      have g3 : (0 : Int) ≤ (c : Int) := by omega
      clear hrow r4 R4 K4 hk4 hmk
      go_upto_region 9 with fail
      have r5 := RUN4.out
      go_region
      all_goals (
        clear r5
        go_wp2
        go_roundg (n - (c + k4))
        · exact ⟨c + k4, rfl, by omega, by omega, by go_num, by rw [show n - (c + k4) = n - c - k4 by omega]; exact RR4.out, BB4.out⟩
        · have := HCK.out; omega)
    · have hcn' : c = n := by omega
      subst hcn'
      have g1 : decide ((c : Int) < (c : Int)) = false := by simp
      have F := hid (FN.out wr (by
        have := HROW.out
        rw [Nat.sub_self] at this
        simpa using this) B.out)
      go_wp2
      first | exact F.out | (go_ret; exact F.out)

set_option maxRecDepth 100000 in
set_option maxHeartbeats 4000000 in
theorem newMatching_calls {w : World} {p : Option Addr} {nw cap n : Nat} (h1 : 1 ≤ nw) (h2 : 1 ≤ n) (h3 : nw ≤ 5000) (h4 : n ≤ 5000) :
    Calls Tryd.prog 104 #[.slice p nw cap, .int .i64 n] w fun e w' => ∃ gm gl gb, e = .returned (.pointer (some ⟨gm, 0, none⟩)) ∧ MgC w' w.heap.size gm gl gb (.slice p nw cap) ⟨List.replicate nw (-1), List.replicate n (-1), []⟩ ∧ Below w.heap.size w w' := by
  obtain ⟨R, hR⟩ : ∃ R : Ending → World → Prop, R = fun e w' => ∃ gm gl gb, e = .returned (.pointer (some ⟨gm, 0, none⟩)) ∧ MgC w' w.heap.size gm gl gb (.slice p nw cap) ⟨List.replicate nw (-1), List.replicate n (-1), []⟩ ∧ Below w.heap.size w w' := ⟨_, rfl⟩
  rw [← hR]
  have FN := hid (show ∀ gl gb w', RN w' gl (List.replicate nw (-1)) → RN w' gb (List.replicate n (-1)) → gl ≠ gb → w.heap.size ≤ gl → w.heap.size ≤ gb → Below w.heap.size w w' → R (.returned (.pointer (some ⟨w'.heap.size, 0, none⟩))) (w'.alloc (.cells #[.slice p nw cap, .slice (some ⟨gl, 0, none⟩) nw nw, .slice (some ⟨gb, 0, none⟩) n n] 149)) from fun gl gb w' a1 a2 a3 a4 a5 a6 => by
    rw [hR]
    refine ⟨w'.heap.size, gl, gb, rfl, ⟨?_, a1.alloc _, a2.alloc _, a6.size, a4, a5, a3⟩, a6.alloc a6.size _⟩
    simp only [List.length_replicate]
    exact Cells.new w' _ _)
  clear hR
  obtain ⟨w1, hw1⟩ : ∃ w1, w1 = w.alloc (.cells #[.int .i64 (-1)] 3) := ⟨_, rfl⟩
  have B1 := hid (show Below w.heap.size w w1 by rw [hw1]; exact (Below.refl _ _).alloc (Nat.le_refl _) _)
  have c1 : w1.cell? ⟨w.heap.size, 0, none⟩ = some (.int .i64 (-1)) := by rw [hw1]; exact cell_one (Cells.new w _ _)
  have RP1 := hid (repeat_calls c1 h1 h3)
  have hs1 : w1.heap.size = w.heap.size + 1 := by rw [hw1]; simp
  have HW1 := hid hw1
  clear hw1 c1
  go_enter Tryd.func104, Tryd.ntmps104
  go_wp2_with fail
  rw [← HW1.out]
  refine RP1.out.mono ?_
  rintro e w2 ⟨rfl, hr2, hb2⟩
  have R2 := hid hr2
  have B2 := hid (B1.out.trans (hb2.mono B1.out.size))
  have hl2 := hr2.lt
  obtain ⟨w3, hw3⟩ : ∃ w3, w3 = w2.alloc (.cells #[.int .i64 (-1)] 3) := ⟨_, rfl⟩
  have c3 : w3.cell? ⟨w2.heap.size, 0, none⟩ = some (.int .i64 (-1)) := by rw [hw3]; exact cell_one (Cells.new w2 _ _)
  have RP3 := hid (repeat_calls c3 h2 h4)
  have B3 := hid (show Below w.heap.size w w3 by rw [hw3]; exact B2.out.alloc B2.out.size _)
  have R3 := hid (show RN w3 w1.heap.size (List.replicate nw (-1)) by rw [hw3]; exact hr2.alloc _)
  have HW3 := hid hw3
  clear hw3 c3 hr2 hb2
  go_wp2_with fail
  rw [← HW3.out]
  refine RP3.out.mono ?_
  rintro e w4 ⟨rfl, hr4, hb4⟩
  have F := hid (FN.out w1.heap.size w3.heap.size w4 (R3.out.below hb4 R3.out.lt) hr4 (by have := R3.out.lt; omega) (by omega) B3.out.size (B3.out.trans (hb4.mono B3.out.size)))
  rw [hs1] at F
  clear hr4 hb4
  go_wp2
  first | exact F.out | (go_ret; exact F.out)
/-- Sort. -/
theorem sort_calls {B : Nat} {w : World} {v : Value} {l : List Int} (h : RowN B w v l) (hl : l.length ≤ 1000000) :
    Calls Tryd.prog 98 #[v] w fun e w' => e = .returned (.tuple #[]) ∧ RowN B w' v (sortN l) ∧ Kept (fun k => some k = v.ownBlock) w w' := by
  rw [← sort_sortN]
  unfold RowN OwnE at h ⊢
  rw [flatI] at h
  by_cases hv : v = .slice none 0 0
  · subst hv
    have h0 : l = [] := by
      rcases h.2 with ⟨_, h2⟩ | ⟨g, cap, cur, h3, _⟩
      · exact List.length_eq_zero_iff.1 h2
      · cases h3
    subst h0
    refine (AnyM.slices_Sort_int_none Tryd.sortA none 0 w).mono ?_
    rintro e w' ⟨rfl, rfl⟩
    exact ⟨rfl, by rw [flatI]; simpa using h, Kept.refl _ _⟩
  · obtain ⟨g, cap, rfl, hB, hlt, hc, hm, _, hH⟩ := Lib.holds_of_ownsRow h hv
    refine (AnyM.slices_Sort_int Tryd.sortA g 0 cap l w hH hlt (by omega)).mono ?_
    rintro e w' ⟨rfl, n, os, rfl⟩
    rcases h.2 with ⟨h0, _⟩ | ⟨g', cap', cur, e0, hb, hg, hn, hm', hs, ht⟩
    · cases h0
    · cases e0
      refine ⟨rfl, ?_, ?_⟩
      · rw [flatI]
        have := ownsRow_sortedI (n := n) (os := os) (ts := l.mergeSort fun x y => decide (x ≤ y)) (List.length_mergeSort l) hb hg hc hm hs
        rw [List.length_mergeSort]
        exact this
      · have := grownBy_sortedI (w := w) (g := g) (n := n) (os := os) (l.mergeSort fun x y => decide (x ≤ y)).toArray
        exact ⟨this.os, this.tape, this.output, this.size, fun k hk hx => this.block k hk (fun e => hx (by rw [e]; rfl))⟩
end Go.Proofs.YtojednnciknhpaaDoor
namespace Go.Proofs.YtojednnciknhpaaDoor
set_option linter.unusedSimpArgs false
set_option linter.unusedVariables false
open Go.RowKit
attribute [local go_sem] Oper.semAt_some
attribute [local go_sem ↓] Go.wp_at_zero Go.wp_at_succ
/-- The library's table of trailing zeros lies as its text lays it. -/
def TabOk (w : World) : Prop := TabAt (Tryd.lays28_ren.g 0) Lib.deBruijn32tab w
theorem TabOk.below {w w' : World} (h : TabOk w) (hb : Below w.heap.size w w') : TabOk w' := fun j hj => (hb.cell (p := ⟨Tryd.lays28_ren.g 0, j, none⟩) (World.block_lt_of_cell? _ _ (h j hj))).trans (h j hj)
theorem tz_calls (x : Nat) (hx : x < 4294967296) (w : World) (hT : TabOk w) : Calls Tryd.prog 112 #[.int .u32 x] w fun e w' => e = .returned (.int .i64 (Lib.ctz 32 x)) ∧ w' = w := Any7.bits_TrailingZeros32 Tryd.lays28 x hx w fun _ => hT
/-- A valid auction, as the walks want it. -/
structure OkA (a : Au) (g : Nat) : Prop where
  hg : a.g = (g : Int)
  g1 : 1 ≤ g
  g10 : g ≤ 10
  rl : a.res.length = g
  rk : okW a.res
  bl : a.bid.length ≤ 12
  ol : ∀ l ∈ a.bid, l.length ≤ 64
  ok : ∀ l ∈ a.bid, ∀ o ∈ l, o.lots ≠ 0 ∧ o.lots < 2 ^ g ∧ 0 ≤ o.w ∧ o.w ≤ 1000000000
theorem OkA.of {a : Au} (h : chkA a = 0) : ∃ g, OkA a g := by
  unfold chkA at h
  split at h
  · cases h
  · rename_i h1
    split at h
    · cases h
    · rename_i h2
      split at h
      · cases h
      · rename_i h3
        split at h
        · cases h
        · rename_i h4
          split at h
          · cases h
          · rename_i h5
            refine ⟨a.g.toNat, by omega, by omega, by omega, by omega, fun x hx => ?_, by omega, fun l hl => ?_, fun l hl o ho => ?_⟩
            · simp only [List.any_eq_true, not_exists, not_and] at h3
              exact isW_ok.1 (by simpa using h3 x hx)
            · have h6 : ¬ (a.bid.any fun l => decide (64 < l.length)) = true := fun q => h4 (.inr q)
              simp only [List.any_eq_true, not_exists, not_and] at h6
              have := h6 l hl
              simp only [decide_eq_true_eq] at this
              omega
            · simp only [List.any_eq_true, not_exists, not_and] at h5
              have h7 := h5 l hl o ho
              simp only [Bool.not_eq_true', Bool.not_eq_false, okO, Bool.and_eq_true, decide_eq_true_eq] at h7
              obtain ⟨⟨h8, h9⟩, h10⟩ := h7
              refine ⟨h8, ?_, isW_ok.1 h10⟩
              have := Nat.div_eq_zero_iff.1 h9
              rcases this with q | q
              · have := Nat.two_pow_pos a.g.toNat; omega
              · exact q
theorem pow10 {g : Nat} (h : g ≤ 10) : 2 ^ g ≤ 1024 := Nat.le_trans (Nat.pow_le_pow_right (by omega) h) (by decide)

set_option maxRecDepth 100000 in
set_option maxHeartbeats 4000000 in
theorem reserves_calls {w : World} {vr vb : Value} {a : Au} {g : Nat} (h : AuV w vr vb a) (ok : OkA a g) (hT : TabOk w) {set : Nat} (hs : set < 2 ^ g) :
    Calls Tryd.prog 82 #[.agg #[.int .i64 a.g, vr, vb], .int .u32 set] w fun e w' => e = .returned (.int .i64 (rsvF a.res set)) ∧ Below w.heap.size w w' := by
  obtain ⟨R, hR⟩ : ∃ R : Ending → World → Prop, R = fun e w' => e = .returned (.int .i64 (rsvF a.res set)) ∧ Below w.heap.size w w' := ⟨_, rfl⟩
  rw [← hR]
  have FN := hid (show ∀ z w', z = rsvF a.res set → Below w.heap.size w w' → R (.returned (.int .i64 z)) w' from fun z w' a b => by rw [hR, a]; exact ⟨rfl, b⟩)
  clear hR
  have hp := pow10 ok.g10
  obtain ⟨hmr, pr, cr, br, offr, hvr, hpr, hcr⟩ := h.res
  obtain ⟨vs, ⟨hmb, pb, cbp, bb, offb, hvb, hpb, hcb⟩, hvl, hvk⟩ := h.bid
  have hrl := ok.rl
  rw [hrl] at hvr hpr
  obtain ⟨nb, hnb⟩ : ∃ nb, nb = vs.length := ⟨_, rfl⟩
  rw [← hnb] at hvb
  subst hvr hvb
  obtain ⟨rfl, hbr⟩ := hpr (by have := ok.g1; omega)
  obtain ⟨ag, hag⟩ : ∃ ag, ag = a.g := ⟨_, rfl⟩
  rw [← hag]
  obtain ⟨w1, hw1⟩ : ∃ w1, w1 = w.alloc (.cells #[.int .i64 ag, .slice (some ⟨br, offr, none⟩) g cr, .slice pb nb cbp] 35) := ⟨_, rfl⟩
  have B1 := hid (show Below w.heap.size w w1 by rw [hw1]; exact (Below.refl _ _).alloc (Nat.le_refl _) _)
  have CA := hid (show Cells w1 w.heap.size #[.int .i64 ag, .slice (some ⟨br, offr, none⟩) g cr, .slice pb nb cbp] 35 by rw [hw1]; exact Cells.new w _ _)
  have k1 : w1.cell? ⟨w.heap.size, 1, none⟩ = some (.slice (some ⟨br, offr, none⟩) g cr) := by rw [CA.out.cell]; rfl
  have HW1 := hid hw1
  have T1 := hid (hT.below B1.out)
  have RC := hid (show ∀ i, (hi : i < a.res.length) → w1.cell? ⟨br, offr + i, none⟩ = some (.int .i64 a.res[i]) from fun i hi => by
    have := (B1.out.cell (p := ⟨br, offr + i * 1 + 0, none⟩) hbr).trans (hcr i hi 0 (by omega))
    simpa [encI] using this)
  have OK := hid ok
  have RB := hid (fun s => rsvF_bound (l := a.res) s fun x hx => ok.rk x hx)
  have hg10 := ok.g10
  clear hmr hpr hcr hw1 hag ok hT hnb h hmb hpb hcb hvl hvk
  go_enter Tryd.func82, Tryd.ntmps82
  go_upto_region 1 with fail
  rw [← HW1.out]
  go_upto_region 2 with fail
  go_loopg [1, 5] set (fun k s1 s5 wr => ∃ (s : Nat), s = k ∧ s ≤ set ∧ s1 = .int .u32 s ∧ s5 = .int .i64 (rsvF a.res set - rsvF a.res s) ∧ Below w1.heap.size w1 wr)
  case atStart => exact ⟨set, rfl, Nat.le_refl _, rfl, by simp, Below.refl _ _⟩
  case round =>
  obtain ⟨s, hsk, hss, rfl, rfl, hb⟩ := hrel
  have HSK := hid hsk
  have B := hid hb
  have BW := hid (B1.out.trans (hb.mono B1.out.size))
  have k1' := (hb.cell (p := ⟨w.heap.size, 1, none⟩) (World.block_lt_of_cell? _ _ k1)).trans k1
  clear hsk hb
  rcases Nat.eq_zero_or_pos s with h0 | h0
  · subst h0
    have F := hid (FN.out (rsvF a.res set - rsvF a.res 0) wr (by rw [rsv_zero, Int.sub_zero]) BW.out)
    go_wp2
    first | exact F.out | (go_ret; exact F.out)
  · have e1 : ((s : Int) == 0) = false := by simp; omega
    have e2 : ((s : Int) != 0) = true := by simp; omega
    have hc := ctz_lt h0 (show s < 2 ^ g by omega) (by omega)
    have hcl : Lib.ctz 32 s < a.res.length := by rw [hrl]; exact hc
    have ST := hid (rsv_ctz a.res h0 (by omega))
    have eD : a.res.getD (Lib.ctz 32 s) 0 = a.res[Lib.ctz 32 s] := by simp [hcl]
    rw [eD] at ST
    have cx0 := RC.out _ hcl
    have cx := (B.out.cell (p := ⟨br, offr + Lib.ctz 32 s, none⟩) (World.block_lt_of_cell? _ _ cx0)).trans cx0
    clear cx0
    obtain ⟨b1, b2⟩ := RB.out set
    obtain ⟨b3, b4⟩ := RB.out s
    obtain ⟨b5, b6⟩ := RB.out (s &&& (s - 1))
    rw [hrl] at b2 b4 b6
    have TZ := hid (fun q => tz_calls s (by omega) (wr.drewN q) (T1.out.below (drewN_below B.out q)))
    have hlt := and_pred_lt (x := s) (by omega)
    have ew : IntKind.u32.wrap ((s : Int) - 1) = (s : Int) - 1 := IntWalk.u32_in _ (by omega)
    have eb : bits .and .u32 (s : Int) ((s : Int) - 1) = ((s &&& (s - 1) : Nat) : Int) := by
      rw [show (s : Int) - 1 = ((s - 1 : Nat) : Int) by omega]
      exact bits_and_u32 (by omega) (by omega)
    obtain ⟨c, hcc⟩ : ∃ c, c = Lib.ctz 32 s := ⟨_, rfl⟩
    obtain ⟨y, hy⟩ : ∃ y, y = a.res[Lib.ctz 32 s] := ⟨_, rfl⟩
    rw [← hy] at cx ST
    rw [← hcc] at hc cx TZ
    obtain ⟨A, hA⟩ : ∃ A, A = rsvF a.res set := ⟨_, rfl⟩
    have HA := hid hA
    obtain ⟨D, hD⟩ : ∃ D, D = rsvF a.res s := ⟨_, rfl⟩
    obtain ⟨s2, hs2⟩ : ∃ s2, s2 = s &&& (s - 1) := ⟨_, rfl⟩
    rw [← hs2] at hlt eb ST b5 b6
    obtain ⟨D2, hD2⟩ : ∃ D2, D2 = rsvF a.res s2 := ⟨_, rfl⟩
    rw [← hA] at b1 b2 ⊢
    rw [← hD] at b3 b4 ST ⊢
    rw [← hD2] at b5 b6 ST
    have HD2 := hid hD2
    have hst := ST.out
    have gc0 : (0 : Int) ≤ (c : Int) := by omega
    have gcg : (c : Int) < (g : Int) := by omega
    have ea : IntKind.i64.wrap (A - D + y) = A - D + y := IntWalk.i64_in _ (by omega)
    have EY := hid (show A - D + y = A - D2 by omega)
    clear hcl eD b1 b2 b3 b4 b5 b6 hcc hy hA hD hs2 hD2 hst
    go_upto_region 4 with fail
    go_quiet (first | (go_at_call 112; refine Calls.quiet_of_same (TZ.out _)) | fail)
    go_wp2
    go_roundg s2
    · exact ⟨s2, rfl, by omega, rfl, by rw [EY.out, HD2.out, HA.out], drewN_below B.out nq⟩
    · have := HSK.out; omega

set_option maxRecDepth 100000 in
set_option maxHeartbeats 4000000 in
theorem all_calls {g : Nat} (h1 : 1 ≤ g) (h10 : g ≤ 10) (pr pb : Option Addr) (nr cr nb cb : Nat) (w : World) :
    Calls Tryd.prog 81 #[.agg #[.int .i64 g, .slice pr nr cr, .slice pb nb cb]] w fun e w' => e = .returned (.int .u32 (2 ^ g - 1 : Nat)) ∧ Below w.heap.size w w' := by
  obtain ⟨R, hR⟩ : ∃ R : Ending → World → Prop, R = fun e w' => e = .returned (.int .u32 (2 ^ g - 1 : Nat)) ∧ Below w.heap.size w w' := ⟨_, rfl⟩
  rw [← hR]
  have FN := hid (show ∀ w', Below w.heap.size w w' → R (.returned (.int .u32 (2 ^ g - 1 : Nat))) w' from fun w' b => by rw [hR]; exact ⟨rfl, b⟩)
  clear hR
  have hp := pow10 h10
  have hp1 := Nat.two_pow_pos g
  have hg0 : (0 : Int) ≤ (g : Int) := by omega
  obtain ⟨w1, hw1⟩ : ∃ w1, w1 = w.alloc (.cells #[.int .i64 g, .slice pr nr cr, .slice pb nb cb] 35) := ⟨_, rfl⟩
  have B1 := hid (show Below w.heap.size w w1 by rw [hw1]; exact (Below.refl _ _).alloc (Nat.le_refl _) _)
  have k0 : w1.cell? ⟨w.heap.size, 0, none⟩ = some (.int .i64 g) := by rw [hw1, (Cells.new w _ _).cell]; rfl
  have HW1 := hid hw1
  have F := hid (FN.out w1 B1.out)
  clear hw1 FN
  go_enter Tryd.func81, Tryd.ntmps81
  go_upto_region 1 with fail
  rw [← HW1.out]
  have E : ((2 : Int) ^ g % 4294967296 - 1) % 4294967296 = ((2 ^ g - 1 : Nat) : Int) := by
    have e : ((2 : Int) ^ g) = ((2 ^ g : Nat) : Int) := by simp
    rw [e]
    omega
  rw [← E] at F
  clear E
  go_wp2
  first | exact F.out | (go_ret; exact F.out)
end Go.Proofs.YtojednnciknhpaaDoor
namespace Go.Proofs.YtojednnciknhpaaDoor
set_option linter.unusedSimpArgs false
set_option linter.unusedVariables false
open Go.RowKit
attribute [local go_sem] Oper.semAt_some
attribute [local go_sem ↓] Go.wp_at_zero Go.wp_at_succ
/-- A crowd as two slices. -/
def CrV (B : Nat) (w : World) (r : Option (List Int × List Nat)) (vb vl : Value) : Prop := match r with
  | none => vb = .slice none 0 0 ∧ vl = .slice none 0 0
  | some (b, l) => RowN B w vb b ∧ RowN B w vl (zl l) ∧ b ≠ []
def CrowdP (w : World) (r : Option (List Int × List Nat)) (e : Ending) (w' : World) : Prop := ∃ vb vl, e = .returned (.tuple #[vb, vl]) ∧ CrV w.heap.size w' r vb vl ∧ Below w.heap.size w w'
theorem eql_nil (w : World) : (binOp BinOp.eql 27 (Value.slice none 0 0) (Value.slice none 0 0)).run Tryd.prog w = .ok (.bool true) w := by kernel_rfl
theorem eql_some (a : Addr) (n c : Nat) (w : World) : (binOp BinOp.eql 27 (Value.slice (some a) n c) (Value.slice none 0 0)).run Tryd.prog w = .ok (.bool false) w := by kernel_rfl
theorem neq_nil (w : World) : (binOp BinOp.neq 27 (Value.slice none 0 0) (Value.slice none 0 0)).run Tryd.prog w = .ok (.bool false) w := by kernel_rfl
theorem neq_some (a : Addr) (n c : Nat) (w : World) : (binOp BinOp.neq 27 (Value.slice (some a) n c) (Value.slice none 0 0)).run Tryd.prog w = .ok (.bool true) w := by kernel_rfl
theorem range_drop {n i : Nat} (h : i < n) : (List.range n).drop i = i :: (List.range n).drop (i + 1) := by
  rw [List.drop_eq_getElem_cons (by simpa using h)]; simp
/-- Two rows that grow beside each other. -/
structure TwoR (B : Nat) (w : World) (v4 v5 : Value) (b : List Int) (l : List Int) : Prop where
  rb : RowN B w v4 b
  rl : RowN B w v5 l
  ne : ∀ x, v4.ownBlock = some x → v5.ownBlock = some x → False
theorem own_ltN {B : Nat} {w : World} {v : Value} {l : List Int} (h : RowN B w v l) {x : Nat} (hx : v.ownBlock = some x) : B ≤ x ∧ x < w.heap.size := by
  obtain ⟨p, c, rfl, hh⟩ := h.form
  rcases hh with ⟨rfl, _⟩ | ⟨g, rfl, hg, hl⟩
  · cases hx
  · injection hx with hx
    have hx : g = x := hx
    omega
theorem TwoR.below {B : Nat} {w w' : World} {v4 v5 : Value} {b l : List Int} (h : TwoR B w v4 v5 b l) (hb : Below w.heap.size w w') : TwoR B w' v4 v5 b l := ⟨h.rb.below hb, h.rl.below hb, h.ne⟩
theorem TwoR.app5 {B : Nat} {w : World} {v4 v5 : Value} {b l : List Int} (h : TwoR B w v4 v5 b l) (hB : B ≤ w.heap.size) (x : Int) (hl : l.length ≤ 1000000) :
    ∃ v' w', (Builtin.append_ #[27, 27] 27 #[v5, .slice (some ⟨w.heap.size, 0, none⟩) 1 1]).run Tryd.prog (w.alloc (.cells #[.int .i64 x] 3)) = .ok v' w' ∧ TwoR B w' v4 v' b (l ++ [x]) ∧ Below B w w' := by
  have ha := (Below.refl w.heap.size w).alloc (Nat.le_refl _) (.cells #[.int .i64 x] 3)
  have hs : (w.alloc (.cells #[.int .i64 x] 3)).heap.size = w.heap.size + 1 := by simp
  obtain ⟨v', w', r1, r2, r3, r4⟩ := rown_app (h.rl.below ha) (by omega) (cell_one (Cells.new w #[.int .i64 x] 3)) hl
  refine ⟨v', w', r1, ⟨OwnE.kept (h.rb.below ha) r3 (fun y hy e => h.ne y hy e.symm), r2, fun y hy hy2 => ?_⟩, (ha.mono hB).trans (kept_own (h.rl.below ha) (by omega) r3)⟩
  rcases r4 with r4 | r4
  · exact h.ne y hy (r4 ▸ hy2)
  · rw [r4] at hy2
    injection hy2 with hy2
    have := (own_ltN h.rb hy).2
    omega
theorem TwoR.app4 {B : Nat} {w : World} {v4 v5 : Value} {b l : List Int} (h : TwoR B w v4 v5 b l) (hB : B ≤ w.heap.size) (x : Int) (hl : b.length ≤ 1000000) :
    ∃ v' w', (Builtin.append_ #[27, 27] 27 #[v4, .slice (some ⟨w.heap.size, 0, none⟩) 1 1]).run Tryd.prog (w.alloc (.cells #[.int .i64 x] 3)) = .ok v' w' ∧ TwoR B w' v' v5 (b ++ [x]) l ∧ Below B w w' := by
  obtain ⟨v', w', r1, r2, r3⟩ := (⟨h.rl, h.rb, fun y a b => h.ne y b a⟩ : TwoR B w v5 v4 l b).app5 hB x hl
  exact ⟨v', w', r1, ⟨r2.rl, r2.rb, fun y a b => r2.ne y b a⟩, r3⟩
/-- The state between two buyers. -/
structure CwS (w1 w : World) (v1 : Value) (E : List (List Nat)) (n gm gl gb : Nat) (m : Mg) : Prop where
  b0 : Below w1.heap.size w1 w
  mg : MgC w w1.heap.size gm gl gb v1 m
  ok : MgOk E.length n { m with seen := noB n }
theorem CwS.give {w1 w : World} {v1 : Value} {E : List (List Nat)} {n gm gl gb : Nat} {m : Mg} (h : CwS w1 w v1 E n gm gl gb m) (hN : NestN w1 v1 E) {w3 : World} {gs gr : Nat} {bar : List Bool} (hb : Below w.heap.size w w3) (h1 : RB w3 gs (noB n)) (h2 : RB w3 gr bar) (h3 : bar.length = n) (h4 : w.heap.size ≤ gs) (h5 : gs ≠ gr) :
    GvI w1 w3 v1 E n gm gl gb gs gr bar { m with seen := noB n } :=
  ⟨hN, h.b0.trans (hb.mono h.b0.size), (h.mg.kept (Kept.of_below (X := fun _ => False) hb) id id id).see _, h.ok, h1, Nat.le_trans h.b0.size h4, h2, h3, h5⟩
theorem CwS.drew {w1 w : World} {v1 : Value} {E : List (List Nat)} {n gm gl gb : Nat} {m : Mg} (h : CwS w1 w v1 E n gm gl gb m) : CwS w1 w.drew v1 E n gm gl gb m := ⟨h.b0.drew, h.mg.kept ((Kept.refl (fun _ => False) w).drew) id id id, h.ok⟩
theorem CwS.drewN {w1 w : World} {v1 : Value} {E : List (List Nat)} {n gm gl gb : Nat} {m : Mg} (h : CwS w1 w v1 E n gm gl gb m) (k : Nat) : CwS w1 (w.drewN k) v1 E n gm gl gb m := ⟨drewN_below h.b0 k, h.mg.kept ((Kept.refl (fun _ => False) w).drewN k) id id id, h.ok⟩
theorem CwS.of {w1 w : World} {v1 : Value} {E : List (List Nat)} {n gm gl gb gs gr : Nat} {bar : List Bool} {m : Mg} (h : GvI w1 w v1 E n gm gl gb gs gr bar m) : CwS w1 w v1 E n gm gl gb m := ⟨h.b0, h.mg, h.ok.fresh⟩
theorem crowdL_cons {E : List (List Nat)} {n i : Nat} (h : i < E.length) (is : List Nat) (m : Mg) : crowdL E n (i :: is) m = if E[i] = [] then crowdL E n is m
    else if (giveF E (noB n) (n + 1) i { m with seen := noB n }).1 = true then crowdL E n is (giveF E (noB n) (n + 1) i { m with seen := noB n }).2
    else some (sortN ((i : Int) :: ((List.range n).filter fun j => (giveF E (noB n) (n + 1) i { m with seen := noB n }).2.seen.getD j false).map fun j => (giveF E (noB n) (n + 1) i { m with seen := noB n }).2.bu.getD j (-1)), (List.range n).filter fun j => (giveF E (noB n) (n + 1) i { m with seen := noB n }).2.seen.getD j false) := by
  have hD : E.getD i [] = E[i] := by rw [List.getD_eq_getElem?_getD, List.getElem?_eq_getElem h]; rfl
  rw [crowdL, hD]
theorem noB_len (n : Nat) : (noB n).length = n := by simp [noB]
theorem noB_left (n : Nat) (m : Mg) : ({ m with seen := noB n } : Mg).left < n + 1 := by simp [Mg.left, noB]

set_option maxRecDepth 100000 in
set_option maxHeartbeats 8000000 in
theorem crowd_calls {w : World} {vw vp : Value} {worth : List (List Int)} {prices : List Int} (hw : NestE encI 1 w vw worth) (hp : ReadsE encI 1 w vp prices) (ok : OkH worth prices.length) (okp : okW prices) (h1 : 1 ≤ worth.length) (h2 : 1 ≤ prices.length) :
    Calls Tryd.prog 70 #[vw, vp] w (CrowdP w (crowdF worth prices)) := by
  have EC := hid (eager_calls hw hp ok okp)
  obtain ⟨R, hR⟩ : ∃ R, R = CrowdP w (crowdF worth prices) := ⟨_, rfl⟩
  rw [← hR]
  obtain ⟨E, hE⟩ : ∃ E, E = eagerF worth prices := ⟨_, rfl⟩
  have EO := eagerF_ok ok (prices := prices)
  have EL := eagerF_len worth prices
  obtain ⟨nw, hnw⟩ : ∃ nw, nw = worth.length := ⟨_, rfl⟩
  obtain ⟨n, hn⟩ : ∃ n, n = prices.length := ⟨_, rfl⟩
  have FN := hid (show ∀ vb vl w', CrV w.heap.size w' (crowdL E n (List.range nw) ⟨List.replicate nw (-1), List.replicate n (-1), []⟩) vb vl → Below w.heap.size w w' → R (.returned (.tuple #[vb, vl])) w' from fun vb vl w' a b => by
    rw [hR]
    refine ⟨vb, vl, rfl, ?_, b⟩
    unfold crowdF
    rw [← hE, ← hnw, ← hn]
    exact a)
  obtain ⟨RES, hRES⟩ : ∃ RES, RES = crowdL E n (List.range nw) ⟨List.replicate nw (-1), List.replicate n (-1), []⟩ := ⟨_, rfl⟩
  rw [← hRES] at FN
  have HRES := hid hRES
  clear hRES
  have hc := ok.cols
  have hr := ok.rows
  rw [← hE] at EC EO EL
  rw [← hnw] at h1 EL hr
  rw [← hn] at h2 EO hc
  have EO' := hid EO
  have EL' := hid EL
  have HN := hid hn
  obtain ⟨hm, p, cap, bb, off, hvp, hpp, hcp⟩ := hp
  rw [← hn] at hvp
  subst hvp
  have hn0 : (0 : Int) ≤ (n : Int) := by omega
  clear hR hE hnw hn hw ok okp hm hpp hcp EO EL
  go_enter Tryd.func70, Tryd.ntmps70
  go_wp2_with fail
  refine EC.out.mono ?_
  rintro e w1 ⟨v1, rfl, hN, hb1⟩
  have N1 := hid hN
  have B1 := hid hb1
  obtain ⟨vs, hvs, hvl, hvk⟩ := hN
  obtain ⟨hm, p1, cap1, bb1, off1, hv1, hp1, hc1⟩ := hvs
  have hvn : vs.length = nw := by rw [hvl]; exact EL'.out
  rw [hvn] at hv1 hp1
  subst hv1
  have NM := hid (newMatching_calls (w := w1) (p := p1) (nw := nw) (cap := cap1) (n := n) h1 h2 (by omega) (by omega))
  have VC := hid (show ∀ wx, Below w1.heap.size w1 wx → ∀ i, (hi : i < vs.length) → ∃ g o, p1 = some ⟨g, o, none⟩ ∧ wx.cell? ⟨g, o + i, none⟩ = some vs[i] from fun wx hb i hi => by
    obtain ⟨rfl, hl⟩ := hp1 (by omega)
    refine ⟨bb1, off1, rfl, ?_⟩
    have := (hb.cell (p := ⟨bb1, off1 + i * 1 + 0, none⟩) hl).trans (hc1 i hi 0 (by omega))
    simpa using this)
  have VK := hid hvk
  have VN := hid hvn
  clear hb1 EC hm hp1 hc1 hvl hvk hvn
  go_wp2_with fail
  refine NM.out.mono ?_
  rintro e w2 ⟨gm, gl, gb, rfl, hM, hb2⟩
  have EOK := hid (show ∀ j ∈ List.replicate n (-1 : Int), -1 ≤ j ∧ j < (E.length : Int) from fun j hj => by rw [(List.mem_replicate.1 hj).2]; omega)
  have S2 := hid (show CwS w1 w2 (.slice p1 nw cap1) E n gm gl gb ⟨List.replicate nw (-1), List.replicate n (-1), []⟩ from ⟨hb2, hM, ⟨by simp [EL'.out], by simp, noB_len n, EOK.out⟩⟩)
  have cm0 : w2.cell? ⟨gm, 0, none⟩ = some (.slice p1 nw cap1) := by rw [hM.mt.cell]; rfl
  have WO := hid (show wOk E n from fun l hl j hj => (EO'.out l hl).2 j hj)
  have hmkB := fun w => mk_B w n (by omega)
  clear hM hb2 NM
  go_upto_region 4 with fail
  go_loopg [25, 4, 5] nw (fun k s25 s4 s5 wr => ∃ (i : Nat) (m : Mg), i + k = nw ∧ s25 = .int .i64 i ∧ s4 = .slice none 0 0 ∧ s5 = .slice none 0 0 ∧ CwS w1 wr (.slice p1 nw cap1) E n gm gl gb m ∧ RES = crowdL E n ((List.range nw).drop i) m)
  case atStart => exact ⟨0, _, by omega, rfl, rfl, rfl, S2.out, HRES.out⟩
  case round =>
    obtain ⟨i, m, hik, rfl, rfl, rfl, hS, heq⟩ := hrel
    have HIK := hid hik
    have S := hid hS
    have EQ := hid heq
    clear hik hS heq S2 cm0
    by_cases hin : i < nw
    · have hiv : i < vs.length := by rw [VN.out]; exact hin
      have hie : i < E.length := by rw [EL'.out]; exact hin
      obtain ⟨g1, o1, rfl, ci⟩ := VC.out wr S.out.b0 i hiv
      have VI := hid (VK.out i hiv hie)
      have HIE := hid hie
      obtain ⟨x, hx⟩ : ∃ x, x = vs[i] := ⟨_, rfl⟩
      rw [← hx] at ci VI
      have gi : (i : Int) < (nw : Int) := by omega
      have gi0 : (0 : Int) ≤ (i : Int) := by omega
      rw [range_drop hin, crowdL_cons hie] at EQ
      clear hx
      by_cases h0 : E[i] = []
      · have hx0 := VI.out.2 h0
        subst hx0
        have EQ2 := hid (EQ.out.trans (if_pos h0))
        have e0 := eql_nil wr
        clear EQ h0
        go_wp2
        go_roundg (nw - (i + 1))
        · exact ⟨i + 1, m, by omega, by go_num, rfl, rfl, S.out, EQ2.out⟩
        · have := HIK.out; omega
      · obtain ⟨hmx, px, capx, bx, ox, rfl, hpx, _⟩ := VI.out.1
        rw [zl_len] at hpx
        obtain ⟨rfl, _⟩ := hpx (List.length_pos_iff.2 h0)
        replace EQ := hid (EQ.out.trans (if_neg h0))
        have HL := hid (zl_len E[i])
        have e0 := fun a n c => eql_some a n c wr
        have hs := S.out.b0.size
        have HH := hid (show ∀ o1 o2, (wr.alloc o1).heap.size = wr.heap.size + 1 ∧ ((wr.alloc o1).alloc o2).heap.size = wr.heap.size + 2 from fun o1 o2 => by simp)
        obtain ⟨w3, hw3⟩ : ∃ w3, w3 = (wr.alloc (.cells (madeCells #[.bool false] n) 4)).alloc (.cells (madeCells #[.bool false] n) 4) := ⟨_, rfl⟩
        have a1 : RB (wr.alloc (.cells (madeCells #[.bool false] n) 4)) wr.heap.size (noB n) := RowX.made wr n false _ rfl
        have I3 := hid (show GvI w1 w3 (.slice (some ⟨g1, o1, none⟩) nw cap1) E n gm gl gb wr.heap.size (wr.heap.size + 1) (noB n) { m with seen := noB n } from S.out.give N1.out (by rw [hw3]; exact ((Below.refl _ _).alloc (Nat.le_refl _) _).alloc (by simp) _) (by rw [hw3]; exact a1.alloc _) (by
          rw [hw3]
          have := RowX.made (ty := 4) (mk := fun b => Value.bool b) (wr.alloc (.cells (madeCells #[.bool false] n) 4)) n false _ rfl
          rw [(HH.out _ (.cells #[] 0)).1] at this
          exact this) (noB_len n) (Nat.le_refl _) (by omega))
        have GV := hid (give_calls (n + 1) I3.out WO.out HIE.out (noB_left n m) (by rw [EL'.out]; omega) (by omega) (fun l hl => by have := (EO'.out l hl).1; omega))
        have HW3 := hid hw3
        obtain ⟨r, hr⟩ : ∃ r, r = giveF E (noB n) (n + 1) i { m with seen := noB n } := ⟨_, rfl⟩
        rw [← hr] at GV EQ
        obtain ⟨rb, M⟩ := r
        have hk1 := mk_B wr n (by omega)
        have hk2 := mk_B (wr.alloc (.cells (madeCells #[.bool false] n) 4)) n (by omega)
        rw [(HH.out _ (.cells #[] 0)).1] at hk2
        have cm0 : wr.cell? ⟨gm, 0, none⟩ = some (.slice (some ⟨g1, o1, none⟩) nw cap1) := by rw [S.out.mg.mt.cell]; rfl
        clear h0 hw3 a1 hr
        go_upto_region 8 with fail
        go_wp2_with fail
        rw [← HW3.out]
        refine GV.out.mono ?_
        rintro e w4 ⟨rfl, hI4, hk4⟩
        have I4 := hid hI4
        clear hI4 hk4 GV hk1 hk2
        cases rb with
        | true =>
          have EQ2 := hid (EQ.out.trans (if_pos rfl))
          clear EQ
          go_wp2
          go_roundg (nw - (i + 1))
          · exact ⟨i + 1, M, by omega, by go_num, rfl, rfl, CwS.of I4.out, EQ2.out⟩
          · have := HIK.out; omega
        | false =>
          have EQ2 := hid (EQ.out.trans (if_neg (by simp)))
          clear EQ
          obtain ⟨gs, hgs⟩ : ∃ gs, gs = wr.heap.size := ⟨_, rfl⟩
          rw [← hgs] at I4 ⊢
          clear hgs
          obtain ⟨v6, w6, r6, T6, b6⟩ := (⟨OwnE.nil _ _, OwnE.nil _ _, fun x h => by cases h⟩ : TwoR w4.heap.size w4 (.slice none 0 0) (.slice none 0 0) [] []).app4 (Nat.le_refl _) (i : Int) (by simp)
          have R6 := hid r6
          have TT6 := hid T6
          have BB6 := hid b6
          clear r6 T6 b6
          go_wp2_with (at_builtin; refine wpList_append_run rfl (.tmp 40) (.tmp 42) 27 rfl _ _ v6 w6 rfl rfl R6.out ?_)
          go_upto_region 11 with fail
          go_loopg [46, 4, 5] n (fun k s46 s4 s5 wx => ∃ (j : Nat) (b4 b5 : Value), j + k = n ∧ s46 = .int .i64 j ∧ b4 = s4 ∧ b5 = s5 ∧ TwoR w4.heap.size wx b4 b5 ((i : Int) :: ((List.range j).filter fun j => M.seen.getD j false).map fun j => M.bu.getD j (-1)) (zl ((List.range j).filter fun j => M.seen.getD j false)) ∧ Below w4.heap.size w4 wx)
          case atStart => exact ⟨0, _, _, by omega, rfl, rfl, rfl, TT6.out, BB6.out⟩
          case round =>
            obtain ⟨j, b4, b5, hjk, rfl, rfl, rfl, hT, hb⟩ := hrel
            have HJK := hid hjk
            have T := hid hT
            have B := hid hb
            clear hjk hT hb TT6 BB6 R6
            by_cases hjn : j < n
            · have cs := (B.out.cell (p := ⟨gs, j, none⟩) I4.out.sn.lt).trans (I4.out.sn.cellD (i := j) (by rw [I4.out.ok.sn]; exact hjn) false)
              have gj : (j : Int) < (n : Int) := by omega
              have gj0 : (0 : Int) ≤ (j : Int) := by omega
              have RS := hid (show ((List.range (j + 1)).filter fun j => M.seen.getD j false) = ((List.range j).filter fun j => M.seen.getD j false) ++ if M.seen.getD j false = true then [j] else [] by
                rw [List.range_succ, List.filter_append]
                congr 1
                rw [List.filter_cons]
                rfl)
              have LF := hid (show ((List.range j).filter fun j => M.seen.getD j false).length ≤ j from Nat.le_trans (List.length_filter_le _ _) (by simp))
              obtain ⟨FL, hFL⟩ : ∃ FL, FL = (List.range j).filter fun j => M.seen.getD j false := ⟨_, rfl⟩
              rw [← hFL] at RS LF T
              obtain ⟨t, ht⟩ : ∃ t, t = M.seen.getD j false := ⟨_, rfl⟩
              rw [← ht] at cs RS
              clear hFL ht
              cases t with
              | false =>
                rw [if_neg (by simp), List.append_nil] at RS
                go_wp2
                go_roundg (n - (j + 1))
                · exact ⟨j + 1, _, _, by omega, by go_num, rfl, rfl, by rw [RS.out]; exact T.out, B.out⟩
                · have := HJK.out; omega
              | true =>
                rw [if_pos rfl] at RS
                obtain ⟨v7, w7, r7, T7, b7⟩ := T.out.app5 B.out.size (j : Int) (by rw [zl_len]; have := LF.out; omega)
                obtain ⟨qj, hqj⟩ : ∃ qj, qj = M.bu.getD j (-1) := ⟨_, rfl⟩
                obtain ⟨v8, w8, r8, T8, b8⟩ := T7.app4 (B.out.trans b7).size qj (by simp; have := LF.out; omega)
                have B7 := hid (B.out.trans b7)
                have B8 := hid ((B.out.trans b7).trans b8)
                have R7 := hid r7
                have R8 := hid r8
                have T9 := hid (show TwoR w4.heap.size w8 v8 v7 ((i : Int) :: ((List.range (j + 1)).filter fun j => M.seen.getD j false).map fun j => M.bu.getD j (-1)) (zl ((List.range (j + 1)).filter fun j => M.seen.getD j false)) by
                  rw [RS.out, zl_append, List.map_append, ← List.cons_append, List.map_cons, List.map_nil, ← hqj]
                  exact T8)
                have ck := (B7.out.cell (p := ⟨gm, 2, none⟩) I4.out.mg.mt.lt).trans (I4.out.mg.mt.cell 2)
                simp [I4.out.ok.bu] at ck
                have cq := (B7.out.cell (p := ⟨gb, j, none⟩) I4.out.mg.bu.lt).trans (I4.out.mg.bu.cellD (i := j) (by rw [I4.out.ok.bu]; exact hjn) (-1))
                rw [← hqj] at cq
                clear r7 T7 b7 r8 T8 b8 hqj
                go_wp2_with (first | (at_builtin; refine wpList_append_run rfl (.tmp 52) (.tmp 54) 27 rfl _ _ v7 w7 rfl rfl R7.out ?_) | (at_builtin; refine wpList_append_run rfl (.tmp 56) (.tmp 64) 27 rfl _ _ v8 w8 rfl rfl R8.out ?_))
                go_roundg (n - (j + 1))
                · exact ⟨j + 1, _, _, by omega, by go_num, rfl, rfl, T9.out, B8.out⟩
                · have := HJK.out; omega
            · have hjn' : j = n := by have := HJK.out; omega
              subst hjn'
              have g3 : decide ((j : Int) < (j : Int)) = false := by simp
              have SO := hid (sort_calls T.out.rb (by simp; exact Nat.le_trans (List.length_filter_le _ _) (by simp; omega)))
              have F := hid (show ∀ w9, RowN w4.heap.size w9 b4 (sortN ((i : Int) :: ((List.range j).filter fun j => M.seen.getD j false).map fun j => M.bu.getD j (-1))) → Kept (fun k => some k = b4.ownBlock) wr w9 → R (.returned (.tuple #[b4, b5])) w9 from fun w9 a b => FN.out b4 b5 w9 (by
                have hh : w.heap.size ≤ w4.heap.size := Nat.le_trans B1.out.size I4.out.b0.size
                rw [EQ2.out]
                exact ⟨OwnE.mono a hh, OwnE.mono (OwnE.kept T.out.rl b (fun x hx e => T.out.ne x e.symm hx)) hh, fun h => by have := sortN_len ((i : Int) :: ((List.range j).filter fun j => M.seen.getD j false).map fun j => M.bu.getD j (-1)); rw [h] at this; simp at this⟩) (by
                have hh : Below w.heap.size w w4 := B1.out.trans (I4.out.b0.mono B1.out.size)
                exact hh.trans ((B.out.trans (kept_own T.out.rb B.out.size b)).mono hh.size)))
              go_wp2_with fail
              refine SO.out.mono ?_
              rintro e w9 ⟨rfl, hr9, hk9⟩
              have F2 := hid (F.out w9 hr9 hk9)
              clear hr9 hk9
              go_wp2
              first | exact F2.out | (go_ret; exact F2.out)
    · have hin' : i = nw := by have := HIK.out; omega
      subst hin'
      have g2 : decide ((i : Int) < (i : Int)) = false := by simp
      have F := hid (FN.out (.slice none 0 0) (.slice none 0 0) wr (by
        rw [EQ.out, List.drop_of_length_le (by simp)]
        exact ⟨rfl, rfl⟩) (B1.out.trans (S.out.b0.mono B1.out.size)))
      go_wp2
      first | exact F.out | (go_ret; exact F.out)
end Go.Proofs.YtojednnciknhpaaDoor
namespace Go.Proofs.YtojednnciknhpaaDoor
set_option linter.unusedSimpArgs false
set_option linter.unusedVariables false
open Go.RowKit
attribute [local go_sem] Oper.semAt_some
attribute [local go_sem ↓] Go.wp_at_zero Go.wp_at_succ
theorem guard_nil (x y : Operand) (w : World) : (eqGuard BinOp.neq 27 x y (Value.slice none 0 0) (Value.slice none 0 0)).run Tryd.prog w = .ok () w := by kernel_rfl
theorem guard_some (x y : Operand) (a : Addr) (n c : Nat) (w : World) : (eqGuard BinOp.neq 27 x y (Value.slice (some a) n c) (Value.slice none 0 0)).run Tryd.prog w = .ok () w := by kernel_rfl
/-- Rows of a part of a hall, filled in one after the other. -/
structure PtS (w0 : World) (vs : List Value) (n : Nat) (F : Nat → Bool) (gp : Nat) (w : World) (i : Nat) (us : List Value) : Prop where
  row : RV 22 w gp us
  len : us.length = vs.length
  g0 : w0.heap.size ≤ gp
  b0 : Below w0.heap.size w0 w
  lo : ∀ k (h1 : k < us.length) (h2 : k < vs.length), k < i → (F k = true → us[k] = vs[k]) ∧ (F k = false → ∃ g, gp < g ∧ us[k] = .slice (some ⟨g, 0, none⟩) n n ∧ RI w g (List.replicate n 0))
theorem PtS.zero {w0 : World} {vs : List Value} {n : Nat} {F : Nat → Bool} {gp : Nat} {w : World} {i : Nat} {us : List Value} (h : PtS w0 vs n F gp w i us) :
    PtS w0 vs n F gp ((w.setCell ⟨gp, i, none⟩ (.slice (some ⟨w.heap.size, 0, none⟩) n n)).alloc (.cells (madeCells #[.int .i64 0] n) 2)) i (us.set i (.slice (some ⟨w.heap.size, 0, none⟩) n n)) ∧ RI ((w.setCell ⟨gp, i, none⟩ (.slice (some ⟨w.heap.size, 0, none⟩) n n)).alloc (.cells (madeCells #[.int .i64 0] n) 2)) w.heap.size (List.replicate n 0) := by
  have hg := h.row.lt
  have hs := size_setCell w ⟨gp, i, none⟩ (.slice (some ⟨w.heap.size, 0, none⟩) n n)
  have r1 : RI ((w.setCell ⟨gp, i, none⟩ (.slice (some ⟨w.heap.size, 0, none⟩) n n)).alloc (.cells (madeCells #[.int .i64 0] n) 2)) (w.setCell ⟨gp, i, none⟩ (.slice (some ⟨w.heap.size, 0, none⟩) n n)).heap.size (List.replicate n 0) := RowX.made _ n 0 _ rfl
  rw [hs] at r1
  have hk : Below w0.heap.size w0 (w.setCell ⟨gp, i, none⟩ (.slice (some ⟨w.heap.size, 0, none⟩) n n)) := h.b0.trans (Kept.below ((Kept.refl (fun k => k = gp) w).set (C := gp) rfl _ _) h.b0.size (fun k hk => by have := h.g0; omega))
  refine ⟨⟨(h.row.set i _).alloc _, by simp [h.len], h.g0, hk.alloc hk.size _, fun k h1 h2 hk => ?_⟩, r1⟩
  rw [set_get_ne h1 (by omega)]
  obtain ⟨a, b⟩ := h.lo k (by simpa using h1) h2 hk
  refine ⟨a, fun hf => ?_⟩
  obtain ⟨g, c1, c2, c3⟩ := b hf
  exact ⟨g, c1, c2, (c3.set_far i _ (by omega)).alloc _⟩
theorem PtS.next {w0 : World} {vs : List Value} {n : Nat} {F : Nat → Bool} {gp : Nat} {w : World} {i g : Nat} {us : List Value} (h : PtS w0 vs n F gp w i us) (hf : F i = false) (hg : gp < g) (hu : ∀ (h : i < us.length), us[i] = .slice (some ⟨g, 0, none⟩) n n) (hr : RI w g (List.replicate n 0)) : PtS w0 vs n F gp w (i + 1) us :=
  ⟨h.row, h.len, h.g0, h.b0, fun k h1 h2 hk => by
    by_cases e : k = i
    · subst e
      exact ⟨fun q => by (rw [hf] at q; cases q), fun _ => ⟨g, hg, hu h1, hr⟩⟩
    · exact h.lo k h1 h2 (by omega)⟩
theorem PtS.put {w0 : World} {vs : List Value} {n : Nat} {F : Nat → Bool} {gp : Nat} {w : World} {i : Nat} {us : List Value} (h : PtS w0 vs n F gp w i us) (hf : F i = true) (hi : i < vs.length) : PtS w0 vs n F gp (w.setCell ⟨gp, i, none⟩ vs[i]) (i + 1) (us.set i vs[i]) := by
  refine ⟨h.row.set i _, by simp [h.len], h.g0, ?_, fun k h1 h2 hk => ?_⟩
  · exact h.b0.trans (Kept.below ((Kept.refl (fun k => k = gp) w).set (C := gp) rfl _ _) h.b0.size (fun k hk => by have := h.g0; omega))
  · by_cases e : k = i
    · rw [set_get_same h1 e]
      subst e
      exact ⟨fun _ => rfl, fun q => by (rw [hf] at q; cases q)⟩
    · rw [set_get_ne h1 e]
      obtain ⟨a, b⟩ := h.lo k (by simpa using h1) h2 (by omega)
      refine ⟨a, fun hf => ?_⟩
      obtain ⟨g, c1, c2, c3⟩ := b hf
      exact ⟨g, c1, c2, c3.set_far i _ (by omega)⟩
def inPart (b : List Int) (out : Int) (i : Nat) : Bool := b.contains (i : Int) && decide (¬ (i : Int) = out)
theorem partF_len (worth : List (List Int)) (n : Nat) (b : List Int) (out : Int) : (partF worth n b out).length = worth.length := by simp [partF]
theorem partF_get {worth : List (List Int)} {n : Nat} {b : List Int} {out : Int} {k : Nat} (h : k < worth.length) (h' : k < (partF worth n b out).length) : (partF worth n b out)[k] = if inPart b out k = true then worth[k] else List.replicate n 0 := by
  simp [partF, inPart, h]
theorem PtS.nest {w0 : World} {vs : List Value} {n : Nat} {b : List Int} {out : Int} {gp : Nat} {w : World} {us : List Value} {worth : List (List Int)} (h : PtS w0 vs n (inPart b out) gp w vs.length us) (hl : vs.length = worth.length) (hr : ∀ k (h1 : k < vs.length) (h2 : k < worth.length), ReadsE encI 1 w0 vs[k] worth[k]) (hs : vs.length ≤ 5000) (hn : n ≤ 5000) :
    NestE encI 1 w (.slice (some ⟨gp, 0, none⟩) vs.length vs.length) (partF worth n b out) := by
  refine ⟨us, ?_, by rw [h.len, partF_len, hl], fun k h1 h2 => ?_⟩
  · have := h.row.reads (by rw [h.len]; omega) vs.length
    rw [h.len] at this
    exact this
  · have hkv : k < vs.length := by rw [← h.len]; exact h1
    have hkw : k < worth.length := by rw [← hl]; exact hkv
    rw [partF_get hkw h2]
    obtain ⟨a, b'⟩ := h.lo k h1 hkv hkv
    cases hf : inPart b out k with
    | true =>
      rw [if_pos rfl, a hf]
      exact (hr k hkv hkw).below h.b0
    | false =>
      rw [if_neg (by simp)]
      obtain ⟨g, _, c2, c3⟩ := b' hf
      rw [c2]
      have := c3.reads (by simp; omega) n
      rw [List.length_replicate] at this
      exact this
theorem partF_ok {worth : List (List Int)} {n : Nat} (h : OkH worth n) (b : List Int) (out : Int) : OkH (partF worth n b out) n := by
  have hg : ∀ r ∈ partF worth n b out, r ∈ worth ∨ r = List.replicate n 0 := fun r hr => by
    obtain ⟨k, hk, rfl⟩ := List.getElem_of_mem hr
    have hkw : k < worth.length := by rw [partF_len] at hk; exact hk
    rw [partF_get hkw hk]
    split
    · exact .inl (List.getElem_mem _)
    · exact .inr rfl
  refine ⟨by rw [partF_len]; exact h.rows, h.cols, fun r hr => ?_, fun r hr => ?_⟩
  · rcases hg r hr with hr | rfl
    · exact h.len r hr
    · simp
  · rcases hg r hr with hr | rfl
    · exact h.ok r hr
    · intro x hx
      rw [(List.mem_replicate.1 hx).2]
      omega
theorem CrV.mono {B B' : Nat} {w : World} {r : Option (List Int × List Nat)} {vb vl : Value} (h : CrV B w r vb vl) (hb : B' ≤ B) : CrV B' w r vb vl := by
  match r, h with
  | none, h => exact h
  | some (b, l), ⟨h1, h2, h3⟩ => exact ⟨OwnE.mono h1 hb, OwnE.mono h2 hb, h3⟩
theorem CrV.below {B : Nat} {w w' : World} {r : Option (List Int × List Nat)} {vb vl : Value} (h : CrV B w r vb vl) (hb : Below w.heap.size w w') : CrV B w' r vb vl := by
  match r, h with
  | none, h => exact h
  | some (b, l), ⟨h1, h2, h3⟩ => exact ⟨OwnE.below h1 hb, OwnE.below h2 hb, h3⟩
/-- The first of two slices of a crowd. -/
theorem CrV.form {B : Nat} {w : World} {r : Option (List Int × List Nat)} {vb vl : Value} (h : CrV B w r vb vl) : (r = none ∧ vb = .slice none 0 0 ∧ vl = .slice none 0 0) ∨ ∃ b l g c, r = some (b, l) ∧ b ≠ [] ∧ vb = .slice (some ⟨g, 0, none⟩) b.length c ∧ RowN B w vb b ∧ RowN B w vl (zl l) := by
  match r, h with
  | none, h => exact .inl ⟨rfl, h.1, h.2⟩
  | some (b, l), ⟨h1, h2, h3⟩ =>
    obtain ⟨p, c, hv, hh⟩ := h1.form
    rcases hh with ⟨_, h0⟩ | ⟨g, rfl, _, _⟩
    · exact absurd h0 h3
    · exact .inr ⟨b, l, g, c, rfl, h3, hv, h1, h2⟩

set_option maxRecDepth 100000 in
set_option maxHeartbeats 8000000 in
theorem smallest_calls {w : World} {vw vp : Value} {worth : List (List Int)} {prices : List Int} {res : Option (List Int × List Nat)} (hw : NestE encI 1 w vw worth) (hp : ReadsE encI 1 w vp prices) (ok : OkH worth prices.length) (okp : okW prices) (h1 : 1 ≤ worth.length) (h2 : 1 ≤ prices.length) (hres : smallestF worth prices = some res)
    (hlen : ∀ worth' b l, crowdF worth' prices = some (b, l) → b.length ≤ 5000) :
    Calls Tryd.prog 101 #[vw, vp] w (CrowdP w res) := by
  have CC := hid (crowd_calls hw hp ok okp h1 h2)
  obtain ⟨R, hR⟩ : ∃ R, R = CrowdP w res := ⟨_, rfl⟩
  rw [← hR]
  have FN := hid (show ∀ vb vl w', CrV w.heap.size w' res vb vl → Below w.heap.size w w' → R (.returned (.tuple #[vb, vl])) w' from fun vb vl w' a b => by rw [hR]; exact ⟨vb, vl, rfl, a, b⟩)
  unfold smallestF at hres
  have HRES := hid hres
  have OK := hid ok
  have OKP := hid okp
  have NW := hid hw
  have PR := hid hp
  have HLEN := hid hlen
  obtain ⟨vs, hvs, hvl, hvk⟩ := hw
  obtain ⟨hm, p1, cap1, bb1, off1, hv1, hp1, hc1⟩ := hvs
  obtain ⟨hm2, p, cap, bb, off, hvp, hpp, hcp⟩ := hp
  obtain ⟨nw, hnw⟩ : ∃ nw, nw = vs.length := ⟨_, rfl⟩
  obtain ⟨n, hn⟩ : ∃ n, n = prices.length := ⟨_, rfl⟩
  rw [← hnw] at hv1 hp1 hvl
  rw [← hn] at hvp h2 ok
  have hc := ok.cols
  have hr := ok.rows
  rw [← hvl] at h1 hr
  have HN := hid hn
  have HNW := hid hnw
  have HVL := hid hvl
  have HVK := hid hvk
  have HP1 := hid hp1
  have HC1 := hid hc1
  subst hvp
  subst hv1
  have hn0 : (0 : Int) ≤ (n : Int) := by omega
  have hnw0 : (0 : Int) ≤ (nw : Int) := by omega
  clear hR hres ok okp hm hm2 hpp hcp hvl hvk hp1 hc1 hnw hn hlen
  go_enter Tryd.func101, Tryd.ntmps101
  go_wp2_with fail
  refine CC.out.mono ?_
  rintro e w1 ⟨v4, v5, rfl, hcr, hb1⟩
  have CR := hid hcr
  have B1 := hid hb1
  clear CC hb1
  obtain ⟨c0, hc0⟩ : ∃ c0, c0 = crowdF worth prices := ⟨_, rfl⟩
  rw [← hc0] at HRES CR hcr
  have C0 := hid (show ∀ b l, c0 = some (b, l) → b.length ≤ 5000 from fun b l h => HLEN.out worth b l (by rw [← hc0]; exact h))
  have e0 : (binOp BinOp.neq 27 v4 (Value.slice none 0 0)).run Tryd.prog w1 = .ok (.bool c0.isSome) w1 := by
    rcases hcr.form with ⟨h0, h4, _⟩ | ⟨b, l, g, c, h0, _, h4, _⟩
    · rw [h0, h4]; exact neq_nil w1
    · rw [h0, h4]; exact neq_some _ _ _ w1
  have e1 : (eqGuard BinOp.neq 27 (Operand.tmp 19) (Operand.const (Value.slice none 0 0)) v4 (Value.slice none 0 0)).run Tryd.prog w1 = .ok () w1 := by
    rcases hcr.form with ⟨_, h4, _⟩ | ⟨b, l, g, c, _, _, h4, _⟩
    · rw [h4]; exact guard_nil _ _ w1
    · rw [h4]; exact guard_some _ _ _ _ _ w1
  clear hc0 hcr
  go_upto_region 3 with fail
  clear e0 e1
  go_loopg [6, 4, 5] (if c0.isSome = true then worth.length + 2 else 0) (fun k s6 s4 s5 wr => ∃ (f : Nat) (cur : Option (List Int × List Nat)) (sh : Bool) (b4 b5 : Value), k = (if sh = true then f + 1 else 0) ∧ s6 = .bool sh ∧ b4 = s4 ∧ b5 = s5 ∧ (sh = true → smallF worth prices f cur = some res ∧ cur.isSome = true) ∧ (sh = false → cur = res) ∧ (∀ b l, cur = some (b, l) → b.length ≤ 5000) ∧ CrV w.heap.size wr cur b4 b5 ∧ Below w.heap.size w wr)
  case atStart =>
    refine ⟨worth.length + 1, c0, _, _, _, rfl, rfl, rfl, rfl, fun h => ⟨HRES.out, h⟩, fun h => ?_, C0.out, CR.out, B1.out⟩
    have := HRES.out
    cases c0 with
    | none => simpa [smallF] using this
    | some x => cases h
  case round =>
    obtain ⟨f, cur, sh, b4, b5, hk, rfl, rfl, rfl, htr, hfa, hbl, hcr, hb⟩ := hrel
    have HK := hid hk
    have HTR := hid htr
    have HFA := hid hfa
    have HBL := hid hbl
    have CRV := hid hcr
    have B := hid hb
    clear hk htr hfa hbl hb
    cases sh with
    | false =>
      have F := hid (FN.out b4 b5 wr (by rw [← HFA.out rfl]; exact CRV.out) B.out)
      go_wp2
      first | exact F.out | (go_ret; exact F.out)
    | true =>
      obtain ⟨hsm, hsome⟩ := HTR.out rfl
      rcases hcr.form with ⟨h0, _, _⟩ | ⟨b, l, g, c, h0, _, hb4, hrb, hrl⟩
      · rw [h0] at hsome; cases hsome
      · subst h0
        subst hb4
        have LB := hid (HBL.out b l rfl)
        obtain ⟨f1, rfl⟩ : ∃ f1, f = f1 + 1 := by
          cases f with
          | zero => simp [smallF] at hsm
          | succ f => exact ⟨f, rfl⟩
        rw [smallF] at hsm
        have SM := hid hsm
        obtain ⟨wO, hwO⟩ : ∃ wO, wO = wr := ⟨_, rfl⟩
        rw [← hwO] at hrb CRV
        have RBO := hid hrb
        have BO := hid (show Below w.heap.size w wO by rw [hwO]; exact B.out)
        have HWO := hid hwO
        obtain ⟨L, hL⟩ : ∃ L, L = b.length := ⟨_, rfl⟩
        rw [← hL] at hrb RBO LB
        have HL := hid hL
        have hL5 := LB.out
        have cb := (OwnE.cellsAt encI_len hrb).2.2.2
        have CB := hid (show ∀ wx, Below wO.heap.size wO wx → ∀ t, (ht : t < b.length) → wx.cell? ⟨g, t, none⟩ = some (.int .i64 b[t]) from fun wx hb t ht => by
          have := (hb.cell (p := ⟨g, t * 1 + 0, none⟩) (OwnE.cellsAt encI_len hrb).2.1).trans (cb t ht 0 (by omega))
          simpa [encI] using this)
        rw [← hL]
        clear hcr hsm hsome hrb hrl hwO hL cb
        go_upto_region 6 with fail
        go_loopg [24, 4, 5, 6] L (fun k s24 s4 s5 s6 wx => ∃ t : Nat, t + k = L ∧ s24 = .int .i64 t ∧ s4 = .slice (some ⟨g, 0, none⟩) L c ∧ s5 = b5 ∧ s6 = .bool false ∧ shrinkF worth prices b b = shrinkF worth prices b (b.drop t) ∧ Below wO.heap.size wO wx)
        case atStart => exact ⟨0, by omega, rfl, rfl, rfl, rfl, rfl, by rw [HWO.out]; exact Below.refl _ _⟩
        case round =>
          obtain ⟨t, htk, rfl, rfl, rfl, rfl, hsh, hbO⟩ := hrel
          have HTK := hid htk
          have SH := hid hsh
          have BI := hid hbO
          have BW := hid (BO.out.trans (hbO.mono BO.out.size))
          clear htk hsh hbO
          by_cases htL : t < L
          · have htb : t < b.length := by rw [← HL.out]; exact htL
            have ct := CB.out wr BI.out t htb
            rw [List.drop_eq_getElem_cons htb, shrinkF] at SH
            obtain ⟨out, hout⟩ : ∃ out, out = b[t] := ⟨_, rfl⟩
            rw [← hout] at ct SH
            rw [← HN.out] at SH
            have gt : (t : Int) < (L : Int) := by omega
            have gt0 : (0 : Int) ≤ (t : Int) := by omega
            obtain ⟨wI, hwI⟩ : ∃ wI, wI = wr := ⟨_, rfl⟩
            have hmk := mk_II wr nw (by omega)
            have P0 := hid (show ∀ wx, wx = wr.alloc (.cells (madeCells #[.slice none 0 0] nw) 22) → PtS wI vs n (inPart b out) wI.heap.size wx 0 (List.replicate nw (.slice none 0 0)) by
              rintro wx rfl
              rw [hwI]
              exact ⟨RowX.made wr nw _ _ rfl, by simp [HNW.out], Nat.le_refl _, (Below.refl _ _).alloc (Nat.le_refl _) _, fun k _ _ h => by omega⟩)
            have BWI := hid (show Below w.heap.size w wI by rw [hwI]; exact BW.out)
            have BII := hid (show Below wO.heap.size wO wI by rw [hwI]; exact BI.out)
            rw [← hwI]
            rw [← hwI] at hmk ct P0
            have HWI := hid hwI
            clear hout hwI
            go_upto_region 10 with fail
            go_loopg [33] nw (fun k s33 wx => ∃ (i : Nat) (us : List Value), i + k = nw ∧ s33 = .int .i64 i ∧ PtS wI vs n (inPart b out) wI.heap.size wx i us)
            case atStart => exact ⟨0, _, by omega, rfl, P0.out _ rfl⟩
            case round =>
              obtain ⟨i, us, hik, rfl, hps⟩ := hrel
              have HIK := hid hik
              have PS := hid hps
              clear hik hps P0 hmk
              by_cases hin : i < nw
              · have hiv : i < vs.length := by rw [← HNW.out]; exact hin
                have hiu : i < us.length := by rw [PS.out.len]; exact hiv
                have gi : (i : Int) < (nw : Int) := by omega
                have gi0 : (0 : Int) ≤ (i : Int) := by omega
                have ci := PS.out.row.cell hiu
                have fi := PS.out.row.froz i
                have li := PS.out.row.lt
                have hmk2 := mk_I wr n (by omega)
                obtain ⟨z1, z2⟩ := PS.out.zero
                obtain ⟨w5, hw5⟩ : ∃ w5, w5 = (wr.setCell ⟨wI.heap.size, i, none⟩ (.slice (some ⟨wr.heap.size, 0, none⟩) n n)).alloc (.cells (madeCells #[.int .i64 0] n) 2) := ⟨_, rfl⟩
                rw [← hw5] at z1 z2
                have P5 := hid z1
                have Z5 := hid z2
                have HW5 := hid hw5
                have BO5 := hid (BII.out.trans (z1.b0.mono BII.out.size))
                have CT := hid (contains_calls (RBO.out.reads encI_len (by have := LB.out; rw [← HL.out]; omega) |>.below BO5.out) (i : Int))
                have IP := hid (show inPart b out i = (b.contains (i : Int) && decide (¬ (i : Int) = out)) from rfl)
                obtain ⟨cb, hcb⟩ : ∃ cb, cb = b.contains (i : Int) := ⟨_, rfl⟩
                rw [← hcb] at CT IP
                have lz : wI.heap.size < wr.heap.size := li
                have BW5 := hid (BWI.out.trans (z1.b0.mono BWI.out.size))
                clear hw5 z1 z2 hcb
                go_upto_region 13 with fail
                rw [← HW5.out]
                go_wp2_with fail
                refine CT.out.mono ?_
                rintro e w6 ⟨rfl, hw6⟩
                rw [hw6]
                clear hw6 ci fi li hmk2
                have NXT := hid (show inPart b out i = false → PtS wI vs n (inPart b out) wI.heap.size w5 (i + 1) (us.set i (.slice (some ⟨wr.heap.size, 0, none⟩) n n)) from fun h => P5.out.next h lz (fun _ => by simp) Z5.out)
                cases cb with
                | false =>
                  have N2 := hid (NXT.out (by rw [IP.out]; rfl))
                  clear lz
                  go_wp2
                  go_roundg (nw - (i + 1))
                  · exact ⟨i + 1, _, by omega, by go_num, N2.out⟩
                  · have := HIK.out; omega
                | true =>
                  by_cases ho : (i : Int) = out
                  · have N2 := hid (NXT.out (by rw [IP.out]; simp [ho]))
                    have e1 : ((i : Int) == out) = true := by simpa using ho
                    have e2 : ((i : Int) != out) = false := by simpa using ho
                    clear lz ho
                    go_wp2
                    go_roundg (nw - (i + 1))
                    · exact ⟨i + 1, _, by omega, by go_num, N2.out⟩
                    · have := HIK.out; omega
                  · have N2 := hid (P5.out.put (by rw [IP.out]; simpa using ho) hiv)
                    have e1 : ((i : Int) == out) = false := by simpa using ho
                    have e2 : ((i : Int) != out) = true := by simpa using ho
                    obtain ⟨rfl, hbb⟩ := HP1.out (by omega)
                    have cv := (BW5.out.cell (p := ⟨bb1, off1 + i * 1 + 0, none⟩) hbb).trans (HC1.out i hiv 0 (by omega))
                    simp at cv
                    obtain ⟨px, lx, cx, hvx⟩ : ∃ px lx cx, vs[i] = Value.slice px lx cx := by
                      obtain ⟨_, px, cx, _, _, hvx, _⟩ := HVK.out i hiv (by rw [← HVL.out]; exact hin)
                      exact ⟨px, _, cx, hvx⟩
                    rw [hvx] at cv N2
                    clear hvx
                    have hiu5 : i < (us.set i (Value.slice (some ⟨wr.heap.size, 0, none⟩) n n)).length := by simpa using hiu
                    have c5 := P5.out.row.cell hiu5
                    have f5 := P5.out.row.froz i
                    clear lz ho
                    go_wp2
                    go_roundg (nw - (i + 1))
                    · exact ⟨i + 1, _, by omega, by go_num, N2.out⟩
                    · have := HIK.out; omega
              · have hin' : i = nw := by have := HIK.out; omega
                subst hin'
                have g2 : decide ((i : Int) < (i : Int)) = false := by simp
                have NE := hid (show NestE encI 1 wr (.slice (some ⟨wI.heap.size, 0, none⟩) i i) (partF worth n b out) by
                  have := PS.out
                  rw [HNW.out] at this ⊢
                  exact this.nest (by rw [← HNW.out]; exact HVL.out) (fun k h1 h2 => (HVK.out k h1 h2).below BWI.out) (by rw [← HNW.out]; omega) (by omega))
                have CC2 := hid (crowd_calls NE.out (PR.out.below (BWI.out.trans (PS.out.b0.mono BWI.out.size))) (partF_ok OK.out b out |> fun h => by rw [← HN.out] at h ⊢; exact h) OKP.out (by rw [partF_len, ← HVL.out]; exact h1) (by rw [← HN.out]; exact h2))
                have BWR := hid (BWI.out.trans (PS.out.b0.mono BWI.out.size))
                have BOR := hid (BII.out.trans (PS.out.b0.mono BII.out.size))
                have HL2 := hid (fun b' l' => HLEN.out (partF worth n b out) b' l')
                obtain ⟨x, hx⟩ : ∃ x, x = crowdF (partF worth n b out) prices := ⟨_, rfl⟩
                rw [← hx] at CC2 SH HL2
                clear hx
                go_wp2_with fail
                refine CC2.out.mono ?_
                rintro e w7 ⟨v11, v12, rfl, hcr7, hb7⟩
                have B7 := hid (BWR.out.trans (hb7.mono BWR.out.size))
                have BO7 := hid (BOR.out.trans (hb7.mono BOR.out.size))
                have CR7 := hid (hcr7.mono BWR.out.size)
                rcases hcr7.form with ⟨h0, h4, h5⟩ | ⟨b', l', g', c', h0, _, h4, _, _⟩
                · subst h0 h4 h5
                  have e0 := neq_nil w7
                  clear hcr7 hb7 CC2
                  go_wp2
                  go_roundg (L - (t + 1))
                  · exact ⟨t + 1, by omega, by go_num, rfl, rfl, rfl, SH.out, BO7.out⟩
                  · have := HTK.out; omega
                · subst h0 h4
                  have e0 := fun a n c => neq_some a n c w7
                  have SE := hid (show smallF worth prices f1 (some (b', l')) = some res by
                    have := SM.out
                    rw [SH.out] at this
                    exact this)
                  have HB := hid (HL2.out b' l' rfl)
                  clear hcr7 hb7 CC2
                  go_wp2
                  go_roundg (f1 + 1)
                  · exact ⟨f1, some (b', l'), true, _, _, rfl, rfl, rfl, rfl, (fun _ => ⟨SE.out, rfl⟩), (fun h => by cases h), (fun b2 l2 h => by injection h with h; injection h with h _; subst h; exact HB.out), CR7.out, B7.out⟩
                  · rw [HK.out]; simp
          · have htL' : t = L := by have := HTK.out; omega
            subst htL'
            have g3 : decide ((t : Int) < (t : Int)) = false := by simp
            have hd : b.drop t = [] := List.drop_of_length_le (by rw [HL.out]; exact Nat.le_refl _)
            have SE := hid (show some (b, l) = res by
              have := SM.out
              rw [SH.out, hd] at this
              simpa [shrinkF] using this)
            go_wp2
            go_roundg 0
            · exact ⟨0, some (b, l), false, _, _, rfl, rfl, rfl, rfl, (fun h => by cases h), fun _ => SE.out, HBL.out, (by have := CRV.out.below BI.out; rw [← HL.out] at this; exact this), BW.out⟩
            · rw [HK.out]; simp
end Go.Proofs.YtojednnciknhpaaDoor
namespace Go.Proofs.YtojednnciknhpaaDoor
set_option linter.unusedSimpArgs false
set_option linter.unusedVariables false
open Go.RowKit
attribute [local go_sem] Oper.semAt_some
attribute [local go_sem ↓] Go.wp_at_zero Go.wp_at_succ
theorem riseF_take {worth : List (List Int)} {prices : List Int} {lots : List Nat} {b : List Int} {t : Nat} (ht : t < b.length) (s : Int) : riseF worth prices lots (b.take (t + 1)) s = riseH (gainF (worth.getD b[t].toNat []) prices) lots (worth.getD b[t].toNat []) prices 0 (min (riseF worth prices lots (b.take t) s) (gainF (worth.getD b[t].toNat []) prices)) := by
  rw [take_snoc ht, riseF_snoc]
theorem riseF_bound {worth : List (List Int)} {prices : List Int} {lots : List Nat} {n : Nat} (ok : OkH worth n) (okp : okW prices) : ∀ (b : List Int) (s : Int), (∀ i ∈ b, 0 ≤ i ∧ i < (worth.length : Int)) → -1000000000 ≤ s → -1000000000 ≤ riseF worth prices lots b s ∧ riseF worth prices lots b s ≤ s ∧ (b ≠ [] → riseF worth prices lots b s ≤ 1000000000)
  | [], s, _, h => ⟨h, Int.le_refl _, fun h => absurd rfl h⟩
  | x :: b, s, hb, h => by
    obtain ⟨x1, x2⟩ := hb x List.mem_cons_self
    have hx : x.toNat < worth.length := by omega
    have e : worth.getD x.toNat [] = worth[x.toNat] := by simp [hx]
    have hro := ok.ok _ (List.getElem_mem hx)
    obtain ⟨g1, g2⟩ := gainF_bound hro okp
    rw [riseF, e]
    have r1 := riseH_le (b := gainF worth[x.toNat] prices) (lots := lots) worth[x.toNat] prices 0 (min s (gainF worth[x.toNat] prices))
    have r2 := riseH_ge (b := gainF worth[x.toNat] prices) (lots := lots) (-1000000000) worth[x.toNat] prices 0 (min s (gainF worth[x.toNat] prices)) (by omega) (fun y hy => by have := (hro y hy).2; omega) (fun p hp => (okp p hp).1)
    obtain ⟨i1, i2, i3⟩ := riseF_bound ok okp b _ (fun i hi => hb i (List.mem_cons_of_mem _ hi)) r2
    refine ⟨i1, by omega, fun _ => by omega⟩

set_option maxRecDepth 100000 in
set_option maxHeartbeats 8000000 in
theorem rise_calls {w : World} {vw vp vb vl : Value} {worth : List (List Int)} {prices : List Int} {b : List Int} {lots : List Nat} (hw : NestE encI 1 w vw worth) (hp : ReadsE encI 1 w vp prices) (hb : ReadsE encI 1 w vb b) (hl : ReadsE encI 1 w vl (zl lots)) (ok : OkH worth prices.length) (okp : okW prices) (hbi : ∀ i ∈ b, 0 ≤ i ∧ i < (worth.length : Int)) (hbl : b.length ≤ 5000) :
    Calls Tryd.prog 102 #[vw, vp, vb, vl] w fun e w' => e = .returned (.int .i64 (riseF worth prices lots b 1152921504606846976)) ∧ w' = w := by
  obtain ⟨R, hR⟩ : ∃ R : Ending → World → Prop, R = fun e w' => e = .returned (.int .i64 (riseF worth prices lots b 1152921504606846976)) ∧ w' = w := ⟨_, rfl⟩
  rw [← hR]
  have FN := hid (show R (.returned (.int .i64 (riseF worth prices lots b 1152921504606846976))) w by rw [hR]; exact ⟨rfl, rfl⟩)
  have PR := hid hp
  have CT := hid (fun x => contains_calls hl x)
  obtain ⟨vs, hvs, hvl, hvk⟩ := hw
  obtain ⟨hm, p1, cap1, bb1, off1, rfl, hp1, hc1⟩ := hvs
  obtain ⟨hm2, p, cap, bb, off, rfl, hpp, hcp⟩ := hp
  obtain ⟨hm3, p3, cap3, bb3, off3, rfl, hp3, hc3⟩ := hb
  obtain ⟨_, p4, cap4, _, _, rfl, _, _⟩ := hl
  obtain ⟨nw, hnw⟩ : ∃ nw, nw = vs.length := ⟨_, rfl⟩
  obtain ⟨n, hn⟩ : ∃ n, n = prices.length := ⟨_, rfl⟩
  obtain ⟨L, hL⟩ : ∃ L, L = b.length := ⟨_, rfl⟩
  obtain ⟨K, hK⟩ : ∃ K, K = (zl lots).length := ⟨_, rfl⟩
  have OK := hid ok
  have hc64 := ok.cols
  rw [← hnw] at hp1 ⊢
  rw [← hn] at hpp hc64 PR ⊢
  rw [← hL] at hp3 hbl ⊢
  rw [← hK] at CT ⊢
  have HNW := hid hnw
  have HN := hid hn
  have HL := hid hL
  have HVL := hid (show nw = worth.length by rw [hnw]; exact hvl)
  have HVK := hid hvk
  have HP1 := hid hp1
  have HC1 := hid hc1
  have HPP := hid hpp
  have HCP := hid hcp
  have HP3 := hid hp3
  have HC3 := hid hc3
  have OKP := hid okp
  have HBI := hid hbi
  clear hR hm hm2 hm3 hvl hvk hp1 hc1 hpp hcp hp3 hc3 ok okp hbi hnw hn hL hK
  go_enter Tryd.func102, Tryd.ntmps102
  go_upto_region 3 with fail
  go_loopg [17, 9] L (fun k s17 s9 wr => ∃ t : Nat, t + k = L ∧ s17 = .int .i64 t ∧ s9 = .int .i64 (riseF worth prices lots (b.take t) 1152921504606846976) ∧ wr = w)
  case atStart => exact ⟨0, by omega, rfl, rfl, rfl⟩
  case round =>
    obtain ⟨t, htk, rfl, rfl, hwr⟩ := hrel
    have HTK := hid htk
    rw [hwr]
    clear htk hwr
    by_cases htL : t < L
    · have htb : t < b.length := by rw [← HL.out]; exact htL
      obtain ⟨rfl, hbb3⟩ := HP3.out (by omega)
      have ct := HC3.out t htb 0 (by omega)
      simp [encI] at ct
      have RT := hid (riseF_take (worth := worth) (prices := prices) (lots := lots) htb 1152921504606846976)
      obtain ⟨x1, x2⟩ := HBI.out _ (List.getElem_mem htb)
      obtain ⟨x, hx⟩ : ∃ x : Nat, b[t] = (x : Int) := ⟨b[t].toNat, by omega⟩
      rw [hx] at ct RT x2
      rw [Int.toNat_natCast] at RT
      have hxw : x < worth.length := by omega
      have hxv : x < vs.length := by rw [← HNW.out, HVL.out]; exact hxw
      have e : worth.getD x [] = worth[x] := by simp [hxw]
      rw [e] at RT
      have RX := HVK.out x hxv hxw
      have hro := OK.out.ok _ (List.getElem_mem hxw)
      have hrl := OK.out.len _ (List.getElem_mem hxw)
      have GB := gainF_bound hro OKP.out
      have GC := hid (gain_calls RX PR.out (by omega) (by rw [hrl, ← HN.out]; omega) hro OKP.out)
      obtain ⟨rfl, hbb1⟩ := HP1.out (by rw [HNW.out]; omega)
      have cx := HC1.out x hxv 0 (by omega)
      simp at cx
      obtain ⟨row, hrow⟩ : ∃ row, row = worth[x] := ⟨_, rfl⟩
      rw [← hrow] at RT RX hro hrl GB GC
      obtain ⟨hmr, px, cpx, bx, ox, hvx, hpx, hcx⟩ := RX
      rw [hrl, ← HN.out] at hvx hpx
      rw [hvx] at cx GC
      have RB1 := riseF_bound (lots := lots) OK.out OKP.out (b.take t) 1152921504606846976 (fun i hi => HBI.out i (List.mem_of_mem_take hi)) (by omega)
      obtain ⟨G, hG⟩ : ∃ G, G = gainF row prices := ⟨_, rfl⟩
      obtain ⟨S, hS⟩ : ∃ S, S = riseF worth prices lots (b.take t) 1152921504606846976 := ⟨_, rfl⟩
      rw [← hG] at GC RT GB
      rw [← hS] at RT RB1 ⊢
      have HRL := hid hrl
      have HPX := hid hpx
      have HCX := hid hcx
      have HRO := hid hro
      have gt : (t : Int) < (L : Int) := by omega
      have gt0 : (0 : Int) ≤ (t : Int) := by omega
      have gx : (x : Int) < (nw : Int) := by rw [HVL.out]; omega
      have gx0 : (0 : Int) ≤ (x : Int) := by omega
      obtain ⟨r1, r2, _⟩ := RB1
      obtain ⟨g1, g2⟩ := GB
      obtain ⟨S0, hS0⟩ : ∃ S0, S0 = min S G := ⟨_, rfl⟩
      rw [← hS0] at RT
      have s1 : -1000000000 ≤ S0 := by omega
      have s2 : S0 ≤ 1000000000 := by omega
      have HS0 := hid hS0
      clear hx x1 x2 e hro hrl hrow hmr hvx hpx hcx hG hS hxw hS0
      go_upto_region 5 with fail
      go_wp2_with fail
      refine GC.out.mono ?_
      rintro e w2 ⟨rfl, hw2⟩
      rw [hw2]
      clear hw2 GC
      go_upto_region 6 with fail
      go_cut [9] (fun s9 wx => s9 = .int .i64 S0 ∧ wx = w)
      case first =>
        go_wp2
        go_meet
        exact ⟨by rw [HS0.out], rfl⟩
      case rest =>
        obtain ⟨rfl, hwc⟩ := hcut
        rw [hwc]
        clear hwc r1 r2
        go_upto_region 8 with fail
        go_loopg [35, 9] n (fun k s35 s9 wy => ∃ j : Nat, j + k = n ∧ s35 = .int .i64 j ∧ s9 = .int .i64 (riseH G lots (row.take j) prices 0 S0) ∧ wy = w)
        case atStart => exact ⟨0, by omega, rfl, rfl, rfl⟩
        case round =>
          obtain ⟨j, hjk, rfl, rfl, hwr⟩ := hrel
          have HJK := hid hjk
          rw [hwr]
          clear hjk hwr
          by_cases hjn : j < n
          · have hjr : j < row.length := by rw [HRL.out, ← HN.out]; exact hjn
            have hjp : j < prices.length := by rw [← HN.out]; exact hjn
            obtain ⟨rfl, hbx⟩ := HPX.out (by omega)
            obtain ⟨rfl, hbp⟩ := HPP.out (by omega)
            have cj := HCX.out j hjr 0 (by omega)
            have cp := HCP.out j hjp 0 (by omega)
            simp [encI] at cj cp
            have SN := hid (riseH_snoc (b := G) (lots := lots) 0 S0 hjr hjp)
            rw [Nat.zero_add] at SN
            have xb := HRO.out _ (List.getElem_mem hjr)
            have pb := OKP.out _ (List.getElem_mem hjp)
            have q1 := riseH_le (b := G) (lots := lots) (row.take j) prices 0 S0
            have q2 := riseH_ge (b := G) (lots := lots) (-1000000000) (row.take j) prices 0 S0 s1 (fun y hy => by have := (HRO.out y (List.mem_of_mem_take hy)).2; omega) (fun p hp => (OKP.out p hp).1)
            obtain ⟨y, hy⟩ : ∃ y, y = row[j] := ⟨_, rfl⟩
            obtain ⟨q, hq⟩ : ∃ q, q = prices[j] := ⟨_, rfl⟩
            obtain ⟨Z, hZ⟩ : ∃ Z, Z = riseH G lots (row.take j) prices 0 S0 := ⟨_, rfl⟩
            rw [← hy] at cj SN xb
            rw [← hq] at cp SN pb
            rw [← hZ] at SN q1 q2 ⊢
            have C2 := hid (CT.out (j : Int))
            rw [zl_contains] at C2
            obtain ⟨cb, hcb⟩ : ∃ cb, cb = lots.contains j := ⟨_, rfl⟩
            rw [← hcb] at C2 SN
            have gj : (j : Int) < (n : Int) := by omega
            have gj0 : (0 : Int) ≤ (j : Int) := by omega
            have w1 : IntKind.i64.wrap (y - q) = y - q := IntWalk.i64_in _ (by omega)
            have w2 : IntKind.i64.wrap (G - (y - q)) = G - (y - q) := IntWalk.i64_in _ (by omega)
            clear hy hq hZ hcb xb pb q1 q2
            go_upto_region 10 with fail
            go_wp2_with fail
            refine C2.out.mono ?_
            rintro e w3 ⟨rfl, hw3⟩
            rw [hw3]
            clear hw3 C2
            cases cb with
            | true =>
              rw [if_pos rfl] at SN
              go_wp2
              go_roundg (n - (j + 1))
              · exact ⟨j + 1, by omega, by go_num, by rw [SN.out], rfl⟩
              · have := HJK.out; omega
            | false =>
              rw [if_neg (by simp)] at SN
              go_wp2
              go_roundg (n - (j + 1))
              · exact ⟨j + 1, by omega, by go_num, by rw [SN.out], rfl⟩
              · have := HJK.out; omega
          · have hj' : j = n := by have := HJK.out; omega
            subst hj'
            have g3 : decide ((j : Int) < (j : Int)) = false := by simp
            have hT : row.take j = row := List.take_of_length_le (by rw [HRL.out, ← HN.out]; exact Nat.le_refl _)
            rw [hT, ← RT.out]
            clear hT
            go_wp2
            go_roundg (L - (t + 1))
            · exact ⟨t + 1, by omega, by go_num, rfl, rfl⟩
            · have := HTK.out; omega
    · have ht' : t = L := by have := HTK.out; omega
      subst ht'
      have g3 : decide ((t : Int) < (t : Int)) = false := by simp
      have hT : b.take t = b := List.take_of_length_le (by rw [HL.out]; exact Nat.le_refl _)
      rw [hT]
      clear hT
      go_wp2
      first | exact FN.out | (go_ret; exact FN.out)
end Go.Proofs.YtojednnciknhpaaDoor
namespace Go.Proofs.YtojednnciknhpaaDoor
set_option linter.unusedSimpArgs false
set_option linter.unusedVariables false
open Go.RowKit
attribute [local go_sem] Oper.semAt_some
attribute [local go_sem ↓] Go.wp_at_zero Go.wp_at_succ
theorem shrinkF_ok {worth : List (List Int)} {prices : List Int} (ok : OkH worth prices.length) {bs : List Int} : ∀ (l : List Int) {b' : List Int} {l' : List Nat}, shrinkF worth prices bs l = some (b', l') → CrOk worth.length prices.length b' l'
  | [], _, _, h => by cases h
  | x :: l, b', l', h => by
    unfold shrinkF at h
    split at h
    · rename_i y hy
      injection h with h
      subst h
      have := crowdF_ok (partF_ok ok bs x) hy
      rwa [partF_len] at this
    · exact shrinkF_ok ok l h
theorem smallF_ok {worth : List (List Int)} {prices : List Int} (ok : OkH worth prices.length) : ∀ (f : Nat) (cur : Option (List Int × List Nat)) {b : List Int} {l : List Nat}, (∀ b l, cur = some (b, l) → CrOk worth.length prices.length b l) → smallF worth prices f cur = some (some (b, l)) → CrOk worth.length prices.length b l
  | f, none, b, l, _, h => by cases f <;> simp [smallF] at h
  | 0, some _, b, l, _, h => by simp [smallF] at h
  | f + 1, some (b0, l0), b, l, hc, h => by
    rw [smallF] at h
    split at h
    · rename_i x hx
      exact smallF_ok ok f (some x) (fun b l e => by injection e with e; subst e; exact shrinkF_ok ok _ hx) h
    · injection h with h
      injection h with h
      injection h with h1 h2
      subst h1 h2
      exact hc _ _ rfl
theorem smallestF_ok {worth : List (List Int)} {prices : List Int} (ok : OkH worth prices.length) {b : List Int} {l : List Nat} (h : smallestF worth prices = some (some (b, l))) : CrOk worth.length prices.length b l :=
  smallF_ok ok _ _ (fun _ _ e => crowdF_ok ok e) h
theorem crowdF_len {prices : List Int} (hn : prices.length ≤ 64) : ∀ worth' b l, crowdF worth' prices = some (b, l) → b.length ≤ 5000 := fun worth' b l h => by
  have := crowdL_len _ _ h
  omega
/-- What a climb leaves behind. -/
def ClimbP (gp : Nat) (w : World) (res : Option (List Int)) (e : Ending) (w' : World) : Prop := match res with
  | none => e = .returned (.bool false) ∧ Below w.heap.size w w'
  | some q => e = .returned (.bool true) ∧ RI w' gp q ∧ Kept (fun k => k = gp) w w'
/-- The hall and its prices in memory. -/
structure LpS (w0 w : World) (wb pb gp n : Nat) (vW : Value) (worth : List (List Int)) (p : List Int) : Prop where
  nw : NestE encI 1 w0 vW worth
  b0 : Below w0.heap.size w0 w
  cw : Cells w wb #[vW] 42
  cp : Cells w pb #[.slice (some ⟨gp, 0, none⟩) n n] 22
  row : RI w gp p
  gp0 : w0.heap.size ≤ gp
  len : p.length = n
theorem LpS.below {w0 w w' : World} {wb pb gp n : Nat} {vW : Value} {worth : List (List Int)} {p : List Int} (h : LpS w0 w wb pb gp n vW worth p) (hb : Below w.heap.size w w') : LpS w0 w' wb pb gp n vW worth p :=
  ⟨h.nw, h.b0.trans (hb.mono h.b0.size), h.cw.below hb h.cw.lt, h.cp.below hb h.cp.lt, h.row.below' hb, h.gp0, h.len⟩
theorem LpS.kept {w0 w w' : World} {wb pb gp n : Nat} {vW : Value} {worth : List (List Int)} {p q : List Int} (h : LpS w0 w wb pb gp n vW worth p) (hk : Kept (fun k => k = gp) w w') (hr : RI w' gp q) (hl : q.length = n) : LpS w0 w' wb pb gp n vW worth q :=
  ⟨h.nw, h.b0.trans (hk.below h.b0.size (fun k hk => by have := h.gp0; omega)), h.cw.kept hk (h.cw.ne h.row (by decide)), h.cp.kept hk (h.cp.ne h.row (by decide)), hr, h.gp0, hl⟩
theorem LpS.prices {w0 w : World} {wb pb gp n : Nat} {vW : Value} {worth : List (List Int)} {p : List Int} (h : LpS w0 w wb pb gp n vW worth p) (hn : n ≤ 5000) : ReadsE encI 1 w (.slice (some ⟨gp, 0, none⟩) n n) p := by
  have := h.row.reads (by rw [h.len]; omega) n
  rw [h.len] at this
  exact this
theorem raiseF_len (step : Int) : ∀ (l : List Nat) (p : List Int), (raiseF p step l).length = p.length
  | [], _ => rfl
  | j :: l, p => by rw [raiseF, raiseF_len step l]; simp

theorem climbF_len {worth : List (List Int)} {p q : List Int} (h : climbF worth p = some (some q)) : q.length = p.length := by
  unfold climbF at h
  split at h
  · cases h
  · cases h
  · injection h with h
    injection h with h
    rw [← h, raiseF_len]

set_option maxRecDepth 100000 in
set_option maxHeartbeats 8000000 in
theorem climb_calls {w0 w : World} {wb pb gp n : Nat} {vW : Value} {worth : List (List Int)} {p : List Int} {res : Option (List Int)} (h : LpS w0 w wb pb gp n vW worth p) (ok : OkH worth n) (okp : okW p) (h1 : 1 ≤ worth.length) (h2 : 1 ≤ n) (hres : climbF worth p = some res) :
    Calls Tryd.prog 100 #[.pointer (some ⟨wb, 0, none⟩), .pointer (some ⟨pb, 0, none⟩)] w (ClimbP gp w res) := by
  obtain ⟨R, hR⟩ : ∃ R, R = ClimbP gp w res := ⟨_, rfl⟩
  rw [← hR]
  have hn := ok.cols
  have hl := h.len
  have SC := hid (fun r (hr : smallestF worth p = some r) => smallest_calls (h.nw.below h.b0) (h.prices (by omega)) (by rw [hl]; exact ok) okp h1 (by rw [hl]; exact h2) hr (crowdF_len (by rw [hl]; exact hn)))
  have SO := hid (fun b l (hr : smallestF worth p = some (some (b, l))) => smallestF_ok (by rw [hl]; exact ok) hr)
  unfold climbF at hres
  have HH := hid h
  have OK := hid ok
  have OKP := hid okp
  have cw := cell_one h.cw
  have cp := cell_one h.cp
  obtain ⟨vs, hvs, hvl, hvk⟩ := h.nw
  obtain ⟨hm, p1, cap1, bb1, off1, hv1, hp1, hc1⟩ := hvs
  obtain ⟨nw, hnw⟩ : ∃ nw, nw = vs.length := ⟨_, rfl⟩
  rw [← hnw] at hv1
  rw [hv1] at cw SC
  have HV1 := hid hv1
  clear hm hp1 hc1 hvl hvk hv1 hnw
  obtain ⟨S, hS⟩ : ∃ S, S = smallestF worth p := ⟨_, rfl⟩
  rw [← hS] at hres SC SO
  match S, hres with
  | none, hres => cases hres
  | some none, hres =>
    injection hres with hres
    subst hres
    have F := hid (show ∀ w', Below w.heap.size w w' → R (.returned (.bool false)) w' from fun w' hb => by rw [hR]; exact ⟨rfl, hb⟩)
    have C1 := hid (SC.out none rfl)
    clear SC SO hR hS h ok okp
    go_enter Tryd.func100, Tryd.ntmps100
    go_wp2_with fail
    refine C1.out.mono ?_
    rintro e w1 ⟨vb, vl, rfl, ⟨rfl, rfl⟩, hb⟩
    have F2 := hid (F.out w1 hb)
    have e0 := eql_nil w1
    clear hb
    go_wp2
    first | exact F2.out | (go_ret; exact F2.out)
  | some (some (b, l)), hres =>
    injection hres with hres
    subst hres
    have C1 := hid (SC.out (some (b, l)) rfl)
    have CO := hid (SO.out b l rfl)
    have F := hid (show ∀ w', RI w' gp (raiseF p (riseF worth p l b 1152921504606846976) l) → Kept (fun k => k = gp) w w' → R (.returned (.bool true)) w' from fun w' a b => by rw [hR]; exact ⟨rfl, a, b⟩)
    clear SC SO hR hS h ok okp
    go_enter Tryd.func100, Tryd.ntmps100
    go_wp2_with fail
    refine C1.out.mono ?_
    rintro e w1 ⟨vb, vl, rfl, hcr, hb⟩
    have H1 := hid (HH.out.below hb)
    have B1 := hid hb
    have cw1 := cell_one H1.out.cw
    have cp1 := cell_one H1.out.cp
    rw [HV1.out] at cw1
    rcases hcr.form with ⟨h0, _, _⟩ | ⟨b', l', g, c, h0, _, h4, hrb, hrl⟩
    · cases h0
    · cases h0
      subst h4
      obtain ⟨pl, cl, hvl, hhl⟩ := hrl.form
      have RC := hid (rise_calls (H1.out.nw.below H1.out.b0) (H1.out.prices (by omega)) (hrb.reads encI_len (by have := CO.out.len; omega)) (hrl.reads encI_len (by have := CO.out.ll; rw [zl_len]; omega)) (by rw [hl]; exact OK.out) OKP.out CO.out.rb (by have := CO.out.len; omega))
      rw [HV1.out] at RC
      obtain ⟨L, hL⟩ : ∃ L, L = b.length := ⟨_, rfl⟩
      rw [← hL] at RC
      rw [← hL]
      obtain ⟨K, hK⟩ : ∃ K, K = (zl l).length := ⟨_, rfl⟩
      rw [← hK] at hvl
      subst hvl
      have RB1 := riseF_bound (lots := l) OK.out OKP.out b 1152921504606846976 CO.out.rb (by omega)
      obtain ⟨st, hst⟩ : ∃ st, st = riseF worth p l b 1152921504606846976 := ⟨_, rfl⟩
      rw [← hst] at RC RB1 F
      obtain ⟨r1, _, r3⟩ := RB1
      have r3' := r3 CO.out.ne
      have HK := hid (show K = l.length by rw [hK, zl_len])
      have VL := hid (show ∀ wx, Kept (fun k => k = gp) w1 wx → ∀ t, (ht : t < l.length) → ∃ gl, pl = some ⟨gl, 0, none⟩ ∧ wx.cell? ⟨gl, t, none⟩ = some (.int .i64 (l[t] : Nat)) from fun wx hk t ht => by
        rcases hhl with ⟨_, h0⟩ | ⟨gl, rfl, hg, hgl⟩
        · have := congrArg List.length h0
          rw [zl_len, List.length_nil] at this
          omega
        · refine ⟨gl, rfl, ?_⟩
          have hgp := HH.out.row.lt
          have hk2 := OwnE.kept hrl hk (fun b hb e => by
            injection hb with hb
            have hb : gl = b := hb
            omega)
          obtain ⟨_, _, _, hcc⟩ := OwnE.cellsAt encI_len hk2
          have := hcc t (by rw [zl_len]; exact ht) 0 (by omega)
          rw [zl_get] at this
          simpa [encI] using this)
      have hkl : K ≤ 64 := by rw [HK.out]; have := CO.out.ll; omega
      have e0 := fun a n c => eql_some a n c w1
      clear hcr hb hrb hrl hhl hL hK hst r3
      go_upto_region 4 with fail
      go_wp2_with fail
      refine RC.out.mono ?_
      rintro e w2 ⟨rfl, hw2⟩
      rw [hw2]
      clear hw2 RC e0
      go_upto_region 6 with fail
      go_loopg [23] K (fun k s23 wr => ∃ (t : Nat) (p' : List Int), t + k = K ∧ s23 = .int .i64 t ∧ LpS w0 wr wb pb gp n vW worth p' ∧ (∀ x ∈ p', -(1000000000 * ((t : Int) + 1)) ≤ x ∧ x ≤ 1000000000 * ((t : Int) + 1)) ∧ raiseF p st l = raiseF p' st (l.drop t) ∧ Kept (fun k => k = gp) w1 wr)
      case atStart => exact ⟨0, p, by omega, rfl, H1.out, fun x hx => by have := OKP.out x hx; omega, rfl, Kept.refl _ _⟩
      case round =>
        obtain ⟨t, p', htk, rfl, hS, hbd, heq, hk⟩ := hrel
        have HTK := hid htk
        have S := hid hS
        have BD := hid hbd
        have EQ := hid heq
        have KP := hid hk
        clear htk hS hbd heq hk cw1 cp1
        by_cases htK : t < K
        · have htl : t < l.length := by rw [← HK.out]; exact htK
          obtain ⟨gl, rfl, ct⟩ := VL.out wr KP.out t htl
          have hjn := CO.out.rl _ (List.getElem_mem htl)
          rw [hl] at hjn
          rw [List.drop_eq_getElem_cons htl, raiseF] at EQ
          obtain ⟨j, hj⟩ : ∃ j, j = l[t] := ⟨_, rfl⟩
          rw [← hj] at ct hjn EQ
          have hjp : j < p'.length := by rw [S.out.len]; exact hjn
          have cj := S.out.row.cell hjp
          have fj := S.out.row.froz j
          have cq := cell_one S.out.cp
          have bj := BD.out _ (List.getElem_mem hjp)
          have gD : p'.getD j 0 = p'[j] := by simp [hjp]
          rw [gD] at EQ
          obtain ⟨x, hx⟩ : ∃ x, x = p'[j] := ⟨_, rfl⟩
          rw [← hx] at cj bj EQ
          have ew : IntKind.i64.wrap (x + st) = x + st := IntWalk.i64_in _ (by omega)
          have S2 := hid (S.out.kept ((Kept.refl (fun k => k = gp) wr).set (C := gp) rfl j (.int .i64 (x + st))) (S.out.row.set j (x + st)) (by simp [S.out.len]))
          have K2 := hid (KP.out.set (C := gp) rfl j (.int .i64 (x + st)))
          have BD2 := hid (show ∀ y ∈ p'.set j (x + st), -(1000000000 * (((t + 1 : Nat) : Int) + 1)) ≤ y ∧ y ≤ 1000000000 * (((t + 1 : Nat) : Int) + 1) from fun y hy => by
            rcases List.mem_or_eq_of_mem_set hy with hy | rfl
            · have := BD.out y hy; omega
            · omega)
          have gt : (t : Int) < (K : Int) := by omega
          have gt0 : (0 : Int) ≤ (t : Int) := by omega
          have gj : (j : Int) < (n : Int) := by omega
          have gj0 : (0 : Int) ≤ (j : Int) := by omega
          clear hj hx gD bj
          go_wp2
          go_roundg (K - (t + 1))
          · exact ⟨t + 1, _, by omega, by go_num, S2.out, BD2.out, EQ.out, K2.out⟩
          · have := HTK.out; omega
        · have ht' : t = K := by have := HTK.out; omega
          subst ht'
          have g3 : decide ((t : Int) < (t : Int)) = false := by simp
          have F2 := hid (F.out wr (by
            rw [EQ.out, List.drop_of_length_le (by rw [HK.out]; exact Nat.le_refl _)]
            exact S.out.row) ((Kept.of_below (X := fun k => k = gp) B1.out).trans KP.out (fun _ _ h => h)))
          go_wp2
          first | exact F2.out | (go_ret; exact F2.out)

set_option maxRecDepth 100000 in
set_option maxHeartbeats 8000000 in
theorem least_calls {w : World} {vW : Value} {worth : List (List Int)} {n f : Nat} {q : List Int} (hw : NestE encI 1 w vW worth) (ok : OkH worth n) (h1 : 1 ≤ worth.length) (h2 : 1 ≤ n) (hres : leastF worth f (List.replicate n 0) = some q) :
    Calls Tryd.prog 61 #[vW] w fun e w' => ∃ gp, e = .returned (.slice (some ⟨gp, 0, none⟩) n n) ∧ RI w' gp q ∧ q.length = n ∧ okW q ∧ w.heap.size ≤ gp ∧ Below w.heap.size w w' := by
  obtain ⟨R, hR⟩ : ∃ R : Ending → World → Prop, R = fun e w' => ∃ gp, e = .returned (.slice (some ⟨gp, 0, none⟩) n n) ∧ RI w' gp q ∧ q.length = n ∧ okW q ∧ w.heap.size ≤ gp ∧ Below w.heap.size w w' := ⟨_, rfl⟩
  rw [← hR]
  have FN := hid (show ∀ gp w', RI w' gp q → q.length = n → okW q → w.heap.size ≤ gp → Below w.heap.size w w' → R (.returned (.slice (some ⟨gp, 0, none⟩) n n)) w' from fun gp w' a b c d e => by rw [hR]; exact ⟨gp, rfl, a, b, c, d, e⟩)
  clear hR
  have hn := ok.cols
  have NW := hid hw
  have OK := hid ok
  obtain ⟨vs, hvs, hvl, hvk⟩ := hw
  obtain ⟨hm, p1, cap1, bb1, off1, hv1, hp1, hc1⟩ := hvs
  obtain ⟨nw, hnw⟩ : ∃ nw, nw = vs.length := ⟨_, rfl⟩
  have hnw1 : nw = worth.length := by rw [hnw]; exact hvl
  rw [← hnw] at hv1 hp1
  obtain ⟨rfl, hbb1⟩ := hp1 (by omega)
  have c0 := hc1 0 (by omega) 0 (by omega)
  simp at c0
  have hr0 := hvk 0 (by omega) (by omega)
  have hl0 := ok.len _ (List.getElem_mem (show 0 < worth.length by omega))
  obtain ⟨hm0, p0, cap0, _, _, hv0, hp0, hc0⟩ := hr0
  rw [hl0] at hv0
  rw [hv0] at c0
  have hn0 : (0 : Int) ≤ (n : Int) := by omega
  have hnw0 : (0 : Int) < (nw : Int) := by omega
  have hnw2 : 0 < nw := by omega
  obtain ⟨w1, hw1⟩ : ∃ w1, w1 = w.alloc (.cells #[vW] 42) := ⟨_, rfl⟩
  have hmk := mk_I w1 n (by omega)
  have b1 : Below w.heap.size w w1 := by rw [hw1]; exact (Below.refl _ _).alloc (Nat.le_refl _) _
  have cb1 := (b1.cell (p := ⟨bb1, off1, none⟩) hbb1).trans c0
  have s1 : w1.heap.size = w.heap.size + 1 := by rw [hw1]; simp
  have cw1 : Cells w1 w.heap.size #[vW] 42 := by rw [hw1]; exact Cells.new w _ _
  have cc1 := cell_one cw1
  rw [hv1] at cc1
  obtain ⟨w3, hw3⟩ : ∃ w3, w3 = (w1.alloc (.cells (madeCells #[.int .i64 0] n) 2)).alloc (.cells #[.slice (some ⟨w.heap.size + 1, 0, none⟩) n n] 22) := ⟨_, rfl⟩
  have S3 := hid (show LpS w w3 w.heap.size (w.heap.size + 1 + 1) (w.heap.size + 1) n vW worth (List.replicate n 0) by
    rw [hw3]
    have r0 : RI (w1.alloc (.cells (madeCells #[.int .i64 0] n) 2)) w1.heap.size (List.replicate n 0) := RowX.made w1 n 0 _ rfl
    rw [s1] at r0
    refine ⟨NW.out, (b1.alloc b1.size _).alloc (by have := b1.size; simp; omega) _, (cw1.alloc _).alloc _, ?_, r0.alloc _, by omega, by simp⟩
    have := Cells.new (w1.alloc (.cells (madeCells #[.int .i64 0] n) 2)) #[.slice (some ⟨w.heap.size + 1, 0, none⟩) n n] 22
    rw [show (w1.alloc (.cells (madeCells #[.int .i64 0] n) 2)).heap.size = w.heap.size + 1 + 1 by simp [s1]] at this
    exact this)
  have HW1 := hid hw1
  have HW3 := hid hw3
  have HRES := hid hres
  have HV1 := hid hv1
  have okz : okW (List.replicate n 0) := fun x hx => by rw [(List.mem_replicate.1 hx).2]; omega
  have OKZ := hid okz
  have hvl2 := hvl
  clear hvl2
  clear hvl hvk hm hp1 hc1 hw1 hw3 hres hv0 hl0 okz b1 c0 hbb1 cw1 hm0 hp0 hc0 hnw1 hnw
  subst hv1
  go_enter Tryd.func61, Tryd.ntmps61
  go_upto_region 1 with fail
  rw [← HW1.out]
  go_upto_region 2 with fail
  rw [← HW3.out]
  go_upto_region 3 with fail
  go_loopg [12] f (fun k s12 wr => ∃ (p : List Int), leastF worth k p = some q ∧ okW p ∧ LpS w wr w.heap.size (w.heap.size + 1 + 1) (w.heap.size + 1) n (.slice (some ⟨bb1, off1, none⟩) nw cap1) worth p)
  case atStart => exact ⟨_, HRES.out, OKZ.out, S3.out⟩
  case round =>
    obtain ⟨p, hlf, hokp, hS⟩ := hrel
    have S := hid hS
    have OKP := hid hokp
    have LF := hid hlf
    clear hlf hokp hS
    cases gk with
    | zero => exact absurd LF.out (by simp [leastF])
    | succ f1 =>
      have hl := LF.out
      rw [leastF] at hl
      obtain ⟨c, hc⟩ : ∃ c, c = climbF worth p := ⟨_, rfl⟩
      rw [← hc] at hl
      have CL := hid (fun r (hr : climbF worth p = some r) => climb_calls S.out OK.out OKP.out h1 h2 hr)
      rw [← hc] at CL
      have eg : ∀ args w, (callFunc 100 args).run Tryd.prog w = .ok (.enter 100 args) w := fun args wx => enters_of Tryd.func100 (by kernel_rfl) rfl args wx
      match c, hl with
      | none, hl => cases hl
      | some none, hl =>
        injection hl with hl
        subst hl
        have C1 := hid (CL.out none rfl)
        clear CL hc
        go_wp2_with fail
        refine C1.out.mono ?_
        rintro e w4 ⟨rfl, hb⟩
        have S4 := hid (S.out.below hb)
        have cp := cell_one S4.out.cp
        have F := hid (FN.out (w.heap.size + 1) w4 S4.out.row S4.out.len OKP.out S4.out.gp0 S4.out.b0)
        clear hb C1
        go_wp2
        first | exact F.out | (go_ret; exact F.out)
      | some (some p2), hl =>
        have C1 := hid (CL.out (some p2) rfl)
        have HLE := hid (show p2.length = n by rw [climbF_len hc.symm]; exact S.out.len)
        clear CL hc
        simp only at hl
        split at hl
        · rename_i hall
          have OK2 := hid (show okW p2 from fun x hx => by
            have := List.all_eq_true.1 hall x hx
            simpa using this)
          have LF2 := hid hl
          clear hall hl
          go_wp2_with fail
          refine C1.out.mono ?_
          rintro e w4 ⟨rfl, hr4, hk4⟩
          have S4 := hid (S.out.kept hk4 hr4 HLE.out)
          clear hr4 hk4 C1
          go_wp2
          go_roundg f1
          · exact ⟨p2, LF2.out, OK2.out, S4.out⟩
          · omega
        · cases hl
end Go.Proofs.YtojednnciknhpaaDoor
namespace Go.Proofs.YtojednnciknhpaaDoor
set_option linter.unusedSimpArgs false
set_option linter.unusedVariables false
open Go.RowKit
/-- Lists of wanted lots, and those of the eager buyers, filled in one after the other. -/
structure BtS (w : World) (worth : List (List Int)) (prices : List Int) (K gr gm i : Nat) (us ms : List Value) : Prop where
  rr : RV 27 w gr us
  rm : RV 27 w gm ms
  lu : us.length = worth.length
  lm : ms.length = worth.length
  lt : gr < gm
  out : ∀ k (h1 : k < us.length) (h2 : k < ms.length), k < K ∨ i ≤ k → us[k] = .slice none 0 0 ∧ ms[k] = .slice none 0 0
  inn : ∀ k (h1 : k < us.length) (h2 : k < ms.length) (h3 : k < worth.length), K ≤ k → k < i → RowN (gm + 1) w us[k] (zl (wantsF worth[k] prices)) ∧ (wantsF worth[k] prices = [] → us[k] = .slice none 0 0) ∧ ms[k] = if 0 < gainF worth[k] prices then us[k] else .slice none 0 0
section
variable {w : World} {worth : List (List Int)} {prices : List Int} {K gr gm i : Nat} {us ms : List Value}
theorem BtS.below {w' : World} (h : BtS w worth prices K gr gm i us ms) (hb : Below w.heap.size w w') : BtS w' worth prices K gr gm i us ms :=
  ⟨h.rr.below' hb, h.rm.below' hb, h.lu, h.lm, h.lt, h.out, fun k h1 h2 h3 h4 h5 => ⟨(h.inn k h1 h2 h3 h4 h5).1.below hb, (h.inn k h1 h2 h3 h4 h5).2⟩⟩
/-- The wants of a buyer are laid down. -/
theorem BtS.put1 (h : BtS w worth prices K gr gm i us ms) (hK : K ≤ i) (hi : i < worth.length) {v : Value} (hv : RowN (gm + 1) w v (zl (wantsF worth[i] prices))) (h0 : wantsF worth[i] prices = [] → v = .slice none 0 0) (hg : ¬ 0 < gainF worth[i] prices) : BtS (w.setCell ⟨gr, i, none⟩ v) worth prices K gr gm (i + 1) (us.set i v) ms := by
  have kp : Kept (fun k => k = gr) w (w.setCell ⟨gr, i, none⟩ v) := (Kept.refl (fun k => k = gr) w).set (C := gr) rfl _ _
  refine ⟨h.rr.set i v, h.rm.set_far i v (by have := h.lt; omega), by simp [h.lu], h.lm, h.lt, fun k h1 h2 hk => ?_, fun k h1 h2 h3 h4 h5 => ?_⟩
  · rw [set_get_ne h1 (by omega)]
    exact h.out k (by simpa using h1) h2 (by omega)
  · by_cases e : k = i
    · rw [set_get_same h1 e]
      subst e
      refine ⟨OwnE.far hv h.rr (by decide) kp, h0, ?_⟩
      rw [if_neg hg]
      exact (h.out k (by simpa using h1) h2 (.inr (Nat.le_refl _))).2
    · rw [set_get_ne h1 e]
      obtain ⟨a, b⟩ := h.inn k (by simpa using h1) h2 h3 h4 (by omega)
      exact ⟨OwnE.far a h.rr (by decide) kp, b⟩
theorem BtS.put2 (h : BtS w worth prices K gr gm i us ms) (hK : K ≤ i) (hi : i < worth.length) {v : Value} (hv : RowN (gm + 1) w v (zl (wantsF worth[i] prices))) (h0 : wantsF worth[i] prices = [] → v = .slice none 0 0) (hg : 0 < gainF worth[i] prices) : BtS ((w.setCell ⟨gr, i, none⟩ v).setCell ⟨gm, i, none⟩ v) worth prices K gr gm (i + 1) (us.set i v) (ms.set i v) := by
  have kp : Kept (fun k => k = gr) w (w.setCell ⟨gr, i, none⟩ v) := (Kept.refl (fun k => k = gr) w).set (C := gr) rfl _ _
  have rm2 : RV 27 (w.setCell ⟨gr, i, none⟩ v) gm ms := h.rm.set_far i v (by have := h.lt; omega)
  have kp2 : Kept (fun k => k = gm) (w.setCell ⟨gr, i, none⟩ v) ((w.setCell ⟨gr, i, none⟩ v).setCell ⟨gm, i, none⟩ v) := (Kept.refl (fun k => k = gm) _).set (C := gm) rfl _ _
  have far : ∀ {u : Value} {l : List Int}, RowN (gm + 1) w u l → RowN (gm + 1) ((w.setCell ⟨gr, i, none⟩ v).setCell ⟨gm, i, none⟩ v) u l := fun hu => OwnE.far (OwnE.far hu h.rr (by decide) kp) rm2 (by decide) kp2
  refine ⟨(h.rr.set i v).set_far i v (by have := h.lt; omega), rm2.set i v, by simp [h.lu], by simp [h.lm], h.lt, fun k h1 h2 hk => ?_, fun k h1 h2 h3 h4 h5 => ?_⟩
  · rw [set_get_ne h1 (by omega), set_get_ne h2 (by omega)]
    exact h.out k (by simpa using h1) (by simpa using h2) (by omega)
  · by_cases e : k = i
    · rw [set_get_same h1 e, set_get_same h2 e]
      subst e
      exact ⟨far hv, h0, by rw [if_pos hg]⟩
    · rw [set_get_ne h1 e, set_get_ne h2 e]
      obtain ⟨a, b⟩ := h.inn k (by simpa using h1) (by simpa using h2) h3 h4 (by omega)
      exact ⟨far a, b⟩
theorem BtS.restAt (h : BtS w worth prices K gr gm worth.length us ms) (ok : OkH worth prices.length) (k : Nat) (h1 : k < us.length) (h2 : k < (restF worth prices K).length) : ReadsE encI 1 w us[k] (zl (restF worth prices K)[k]) ∧ ((restF worth prices K)[k] = [] → us[k] = .slice none 0 0) := by
  have h3 : k < worth.length := by rw [← h.lu]; exact h1
  rw [restF_get h3 h2]
  split
  · rename_i hk
    rw [(h.out k h1 (by rw [h.lm]; exact h3) (.inl hk)).1]
    exact ⟨ReadsE.nil _ _ _, fun _ => rfl⟩
  · obtain ⟨a, b, _⟩ := h.inn k h1 (by rw [h.lm]; exact h3) h3 (by omega) h3
    exact ⟨a.reads encI_len (by rw [zl_len]; have := (wantsF_ok (prices := prices) (ok.len _ (List.getElem_mem h3)) ok.cols).1; omega), b⟩
theorem BtS.mustAt (h : BtS w worth prices K gr gm worth.length us ms) (ok : OkH worth prices.length) (k : Nat) (h1 : k < ms.length) (h2 : k < (mustF worth prices K).length) : ReadsE encI 1 w ms[k] (zl (mustF worth prices K)[k]) ∧ ((mustF worth prices K)[k] = [] → ms[k] = .slice none 0 0) := by
  have h3 : k < worth.length := by rw [← h.lm]; exact h1
  rw [mustF_get h3 h2]
  split
  · rename_i hk
    rw [(h.out k (by rw [h.lu]; exact h3) h1 (.inl hk)).2]
    exact ⟨ReadsE.nil _ _ _, fun _ => rfl⟩
  · obtain ⟨a, b, c⟩ := h.inn k (by rw [h.lu]; exact h3) h1 h3 (by omega) h3
    rw [c]
    split
    · exact ⟨a.reads encI_len (by rw [zl_len]; have := (wantsF_ok (prices := prices) (ok.len _ (List.getElem_mem h3)) ok.cols).1; omega), b⟩
    · exact ⟨ReadsE.nil _ _ _, fun _ => rfl⟩
theorem BtS.rest (h : BtS w worth prices K gr gm worth.length us ms) (ok : OkH worth prices.length) : NestN w (.slice (some ⟨gr, 0, none⟩) worth.length worth.length) (restF worth prices K) := by
  refine ⟨us, ?_, by rw [h.lu, restF_len], h.restAt ok⟩
  have := h.rr.reads (by rw [h.lu]; have := ok.rows; omega) worth.length
  rw [h.lu] at this
  exact this
theorem BtS.must (h : BtS w worth prices K gr gm worth.length us ms) (ok : OkH worth prices.length) : NestN w (.slice (some ⟨gm, 0, none⟩) worth.length worth.length) (mustF worth prices K) := by
  refine ⟨ms, ?_, by rw [h.lm, mustF_len], h.mustAt ok⟩
  have := h.rm.reads (by rw [h.lm]; have := ok.rows; omega) worth.length
  rw [h.lm] at this
  exact this
end
/-- Lists that grow beside each other. -/
structure ByS (gy : Nat) (w : World) (us : List Value) (Ls : List (List Nat)) : Prop where
  row : RV 27 w gy us
  len : us.length = Ls.length
  rows : ∀ k (h1 : k < us.length) (h2 : k < Ls.length), RowN (gy + 1) w us[k] (zl Ls[k]) ∧ (Ls[k] = [] → us[k] = .slice none 0 0)
  dis : ∀ k k' (h : k < us.length) (h' : k' < us.length), k ≠ k' → ∀ b, us[k].ownBlock = some b → us[k'].ownBlock = some b → False
theorem ByS.start {w : World} {n : Nat} : ByS w.heap.size (w.alloc (.cells (madeCells #[.slice none 0 0] n) 27)) (List.replicate n (.slice none 0 0)) (List.replicate n []) := by
  refine ⟨RowX.made w n _ _ rfl, by simp, fun k h1 h2 => ?_, fun k k' h h' _ b hb => ?_⟩
  · simp only [List.getElem_replicate]
    exact ⟨OwnE.nil _ _, fun _ => trivial⟩
  · simp only [List.getElem_replicate] at hb
    cases hb
theorem ByS.below {gy : Nat} {w w' : World} {us : List Value} {Ls : List (List Nat)} (h : ByS gy w us Ls) (hb : Below w.heap.size w w') : ByS gy w' us Ls :=
  ⟨h.row.below' hb, h.len, fun k h1 h2 => ⟨(h.rows k h1 h2).1.below hb, (h.rows k h1 h2).2⟩, h.dis⟩
/-- A buyer comes into a lot's list. -/
theorem ByS.app {gy : Nat} {w : World} {us : List Value} {Ls : List (List Nat)} (h : ByS gy w us Ls) {j : Nat} (hj : j < us.length) (hj2 : j < Ls.length) (i : Nat) (hl : Ls[j].length ≤ 1000000) :
    ∃ v' w', (Builtin.append_ #[27, 27] 27 #[us[j], .slice (some ⟨w.heap.size, 0, none⟩) 1 1]).run Tryd.prog (w.alloc (.cells #[.int .i64 (i : Int)] 3)) = .ok v' w' ∧ (∃ p c, v' = .slice p (Ls[j].length + 1) c) ∧ w'.cell? ⟨gy, j, none⟩ = some us[j] ∧ w'.frozen? ⟨gy, j, none⟩ = false ∧
      ByS gy (w'.setCell ⟨gy, j, none⟩ v') (us.set j v') (Ls.set j (Ls[j] ++ [i])) ∧ Below gy w (w'.setCell ⟨gy, j, none⟩ v') := by
  have hg := h.row.lt
  have ha := (Below.refl w.heap.size w).alloc (Nat.le_refl _) (.cells #[.int .i64 (i : Int)] 3)
  have hs : (w.alloc (.cells #[.int .i64 (i : Int)] 3)).heap.size = w.heap.size + 1 := by simp
  obtain ⟨hr, _⟩ := h.rows j hj hj2
  obtain ⟨v', w', r1, r2, r3, r4⟩ := rown_app (hr.below ha) (by omega) (cell_one (Cells.new w #[.int .i64 (i : Int)] 3)) (by rw [zl_len]; exact hl)
  have hown : ∀ x, us[j].ownBlock = some x → gy < x := fun x hx => by have := (own_ltN hr hx).1; omega
  have rg : RV 27 w' gy us := (h.row.below' ha).kept r3 (fun e => by have := hown gy e.symm; omega)
  have kp : Kept (fun k => k = gy) w' (w'.setCell ⟨gy, j, none⟩ v') := (Kept.refl (fun k => k = gy) w').set (C := gy) rfl _ _
  have bw : Below (gy + 1) w w' := (ha.mono (by omega)).trans (r3.below (by omega) (fun k hk => by have := hown k hk.symm; omega))
  refine ⟨v', w', r1, ?_, rg.cell hj, rg.froz j, ⟨rg.set j v', by simp [h.len], fun k h1 h2 => ?_, fun k k' h1 h2 hne b hb hb' => ?_⟩, (bw.mono (by omega)).trans (kp.below (by have := bw.size; omega) (fun k hk => by omega))⟩
  · obtain ⟨p, c, hv, _⟩ := r2.form
    rw [List.length_append, zl_len] at hv
    exact ⟨p, c, hv⟩
  · by_cases e : k = j
    · rw [set_get_same h1 e, set_get_same h2 e]
      refine ⟨OwnE.far (by rw [zl_append]; exact r2) rg (by decide) kp, fun q => by simp at q⟩
    · rw [set_get_ne h1 e, set_get_ne h2 e]
      obtain ⟨a, b⟩ := h.rows k (by simpa using h1) (by simpa using h2)
      exact ⟨OwnE.far (OwnE.kept (a.below ha) r3 (fun y hy q => h.dis k j (by simpa using h1) hj e y hy q.symm)) rg (by decide) kp, b⟩
  · have hnew : ∀ m (hm : m < us.length), m ≠ j → us[m].ownBlock = some b → v'.ownBlock = some b → False := fun m hm hmj q1 q2 => by
      rcases r4 with r4 | r4
      · exact h.dis m j hm hj hmj b q1 (r4 ▸ q2)
      · rw [r4, hs] at q2
        injection q2 with q2
        have := (own_ltN (h.rows m hm (by rw [← h.len]; exact hm)).1 q1).2
        omega
    by_cases e : k = j
    · rw [set_get_same h1 e] at hb
      rw [set_get_ne h2 (by omega)] at hb'
      exact hnew k' (by simpa using h2) (by omega) hb' hb
    · rw [set_get_ne h1 e] at hb
      by_cases e' : k' = j
      · rw [set_get_same h2 e'] at hb'
        exact hnew k (by simpa using h1) e hb hb'
      · rw [set_get_ne h2 e'] at hb'
        exact h.dis k k' (by simpa using h1) (by simpa using h2) hne b hb hb'
theorem ByS.nest {gy : Nat} {w : World} {us : List Value} {Ls : List (List Nat)} (h : ByS gy w us Ls) (hl : Ls.length ≤ 5000) (hll : ∀ l ∈ Ls, l.length ≤ 5000) : NestN w (.slice (some ⟨gy, 0, none⟩) Ls.length Ls.length) Ls := by
  refine ⟨us, ?_, h.len, fun k h1 h2 => ⟨(h.rows k h1 h2).1.reads encI_len (by rw [zl_len]; have := hll _ (List.getElem_mem h2); omega), (h.rows k h1 h2).2⟩⟩
  have := h.row.reads (by rw [h.len]; omega) Ls.length
  rw [h.len] at this
  exact this
end Go.Proofs.YtojednnciknhpaaDoor
