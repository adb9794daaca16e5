/- StockFinds: its walk. StockFinds: the arguments opened. -/
import Derived.Test.YtnnbdjfeagcbdaaJDo1
import Derived.Test.YtnnbdjfeagcbdaaJChangesL
namespace Go.Proofs.Ytnnbdjfeagcbdaa
set_option linter.unusedSimpArgs false
set_option linter.unusedVariables false
open Go.RowKit Go.Shelf
attribute [local go_sem] Oper.semAt_some

theorem findS_len {l : List Pc} {want : Cl} {n : Int} : (findS l want n).length ≤ l.length := by
  unfold findS
  split
  · exact Nat.le_trans (takeN_len _ _) (wantF_len _ _)
  · simp
theorem findL_len {l : List Pc} {o lt n : Int} : (findL l o lt n).length ≤ l.length := by
  unfold findL
  split
  · exact findS_len
  · simp
/-- A number is brought below another one. -/
theorem mod_big (x : Int) {n : Int} (hn : 0 < n) (hn2 : n ≤ 100000000) : ∃ r : Int, (IntKind.u64.wrap x).tmod n = r ∧ IntKind.i64.wrap r = r ∧ wrap64 r = r ∧ IntKind.u64.wrap r = r ∧ 0 ≤ r ∧ r < n := by
  have h1 := Int.emod_nonneg (IntKind.u64.wrap x) (by omega : n ≠ 0)
  have h2 := Int.emod_lt_of_pos (IntKind.u64.wrap x) hn
  refine ⟨_, rfl, ?_⟩
  rw [rem_mod]
  have h3 : IntKind.i64.wrap (IntKind.u64.wrap x % n) = IntKind.u64.wrap x % n := IntWalk.i64_in _ (by omega)
  exact ⟨h3, by unfold wrap64; rw [← IntKind.wrap_i64]; exact h3, IntWalk.u64_in _ (by omega), h1, h2⟩

theorem fnd_end {B : Nat} {W w : World} {sB vB : Nat} {vs : List T} {v xv : Value} {O X : Nat} {a b c : Int} (h : Lk B W w sB vB vs v) (hB : B ≤ w.heap.size) (hO1 : O ≠ sB) (hO2 : O ≠ vB) (hO : B ≤ O) (hX : X ≠ O) (cx : Cells w X #[xv] 58) (co : Cells w O #[.int .i64 a, .int .i64 b, .int .i64 c] 81) (r1 r2 r3 : Int) {w' : World}
    (hw : w' = (((w.setCell ⟨O, 0, none⟩ (.int .i64 r1)).setCell ⟨O, 1, none⟩ (.int .i64 r2)).setCell ⟨O, 2, none⟩ (.int .i64 r3)).drew) :
    Lk B W w' sB vB vs v ∧ Cells w' X #[xv] 58 ∧ Cells w' O #[.int .i64 r1, .int .i64 r2, .int .i64 r3] 81 := by
  subst hw
  have c1 := co.set 0 (.int .i64 r1)
  have c2 := c1.set 1 (.int .i64 r2)
  have c3 := c2.set 2 (.int .i64 r3)
  have l1 := h.setT co (by decide) hO1 hO2 hO 0 (.int .i64 r1)
  have l2 := l1.setT c1 (by decide) hO1 hO2 hO 1 (.int .i64 r2)
  have l3 := l2.setT c2 (by decide) hO1 hO2 hO 2 (.int .i64 r3)
  refine ⟨l3.after (by simpa [World.setCell] using hB) (Below.refl _ _).drew, (((cx.set_far 0 _ hX).set_far 1 _ hX).set_far 2 _ hX).drew, ?_⟩
  have c4 := c3.drew
  simpa using c4

set_option maxRecDepth 100000 in
set_option maxHeartbeats 8000000 in
theorem finds_calls (w : World) (v : Value) (l : List Ac) (hv : ReadsE encA 6 w v l) (oa ob oc : Int) :
    Calls Try.prog 8 #[v, .agg #[.int .i64 oa, .int .i64 ob, .int .i64 oc]] w fun e w' => e = .returned (.bool true) ∧ Below w.heap.size w w' := by
  obtain ⟨W0, hW0⟩ : ∃ W0, W0 = w.alloc (.cells #[.int .i64 oa, .int .i64 ob, .int .i64 oc] 81) := ⟨_, rfl⟩
  have CO := hid (show Cells W0 w.heap.size #[.int .i64 oa, .int .i64 ob, .int .i64 oc] 81 by rw [hW0]; exact Cells.new _ _ _)
  have BO := hid (show Below w.heap.size w W0 by rw [hW0]; exact (Below.refl _ _).alloc (Nat.le_refl _) _)
  have hz0 : W0.heap.size = w.heap.size + 1 := by rw [hW0]; simp
  have HV := hid (hv.below BO.out)
  have HW0 := hid hW0
  clear hW0 hv
  go_enter Try.func8, Try.ntmps8
  go_wp2_with fail
  rw [← HW0.out]
  refine (run_calls W0 v l HV.out 25 (by omega)).mono ?_
  rintro e w1 ⟨sB, vB, vs, v1, rfl, lk1, hvs⟩
  obtain ⟨bs, ns, cs, rfl⟩ := lk1.ref.agg
  obtain ⟨m, t, hml, ht, _, _, hlast⟩ := lk1.last
  have HT := hid ht
  have HLAST := hid hlast
  have TR := hid (lk1.reg.tr (List.mem_of_getLast? ht))
  have hns : ns = m + 1 := by have := lk1.ref.len; simp at this; omega
  subst hns
  have hz1 := lk1.reg.below.size
  have hO1 : w.heap.size ≠ sB := by have := lk1.reg.ls; omega
  have hO2 : w.heap.size ≠ vB := by have := lk1.reg.lv; omega
  have hl1 := lk1.reg.st.lt
  obtain ⟨W1, hW1⟩ : ∃ W1, W1 = w1.alloc (.cells #[.slice (some ⟨bs, 0, none⟩) (m + 1) cs] 58) := ⟨_, rfl⟩
  have B11 := hid (show Below w1.heap.size w1 W1 by rw [hW1]; exact (Below.refl _ _).alloc (Nat.le_refl _) _)
  have LA := hid (show Lk w.heap.size w W1 sB vB vs (.agg #[.slice (some ⟨bs, 0, none⟩) (m + 1) cs]) from (lk1.after hz1 B11.out).base (by omega) BO.out)
  obtain ⟨X, hX⟩ : ∃ X, X = w1.heap.size := ⟨_, rfl⟩
  have CX := hid (show Cells W1 X #[.slice (some ⟨bs, 0, none⟩) (m + 1) cs] 58 by rw [hX, hW1]; exact Cells.new _ _ _)
  have CA := hid (show Cells W1 w.heap.size #[.int .i64 oa, .int .i64 ob, .int .i64 oc] 81 from (CO.out.below lk1.reg.below (by omega)).below B11.out (by omega))
  have HW1 := hid hW1
  have HX := hid hX
  have HML := hid hml
  have hX2 : X ≠ w.heap.size := by omega
  have hvn : vs.length ≤ 1000 := by omega
  have hm30 : m ≤ 30 := by omega
  obtain ⟨O, hO⟩ : ∃ O, O = w.heap.size := ⟨_, rfl⟩
  have HO := hid hO
  rw [← hO] at hO1 hO2 hX2 CA
  clear lk1 hW1 hX hml hz1 hl1 hz0 ht hlast
  go_wp2_with fail
  rw [← HW1.out, ← HX.out]
  rw [← hO]
  clear hO
  go_loopg [7] 2 (fun k s7 wr => ∃ (i : Nat) (a b c : Int), i + k = 2 ∧ s7 = .int .i64 i ∧ Lk w.heap.size w wr sB vB vs (.agg #[.slice (some ⟨bs, 0, none⟩) (m + 1) cs]) ∧ Cells wr X #[.slice (some ⟨bs, 0, none⟩) (m + 1) cs] 58 ∧ Cells wr O #[.int .i64 a, .int .i64 b, .int .i64 c] 81)
  case atStart => exact ⟨0, oa, ob, oc, by omega, rfl, LA.out, CX.out, CA.out⟩
  case round =>
    obtain ⟨i, a, b, c, hik, rfl, lk, cx, co⟩ := hrel
    have LK := hid lk
    have HCX := hid cx
    have HCO := hid co
    have x0 := cell_one cx
    have lX := cx.lt
    have o0 : wr.cell? ⟨O, 0, none⟩ = some (.int .i64 a) := by simp [co.cell]
    have o1 : wr.cell? ⟨O, 1, none⟩ = some (.int .i64 b) := by simp [co.cell]
    have o2 : wr.cell? ⟨O, 2, none⟩ = some (.int .i64 c) := by simp [co.cell]
    have lO := co.lt
    have hzw : w.heap.size ≤ wr.heap.size := lk.reg.below.size
    clear lk cx co
    by_cases hi : i < 2
    · have g1 : decide ((i : Int) < 2) = true := by simp; omega
      have i64 : IntKind.i64.wrap ((i : Int) + 1) = (i : Int) + 1 := IntWalk.i64_in _ (by omega)
      go_wp2_with fail
      refine (Find_calls wr sB vB vs LK.out.reg.st hvn HT.out TR.out a b c).mono ?_
      rintro e w3 ⟨u3, rfl, ow3, hb3⟩
      obtain ⟨E, hE⟩ : ∃ E, E = findR (inT t) a b c := ⟨_, rfl⟩
      have HE := hid hE
      rw [← hE]
      have OW3 := hid ow3
      have L3 := hid (LK.out.after hzw hb3)
      have cx3 := HCX.out.below hb3 lX
      have co3 := HCO.out.below hb3 lO
      have CX3 := hid cx3
      have CO3 := hid co3
      have x3 := cell_one cx3
      have lX3 := cx3.lt
      have o30 : w3.cell? ⟨O, 0, none⟩ = some (.int .i64 a) := by simp [co3.cell]
      have o31 : w3.cell? ⟨O, 1, none⟩ = some (.int .i64 b) := by simp [co3.cell]
      have o32 : w3.cell? ⟨O, 2, none⟩ = some (.int .i64 c) := by simp [co3.cell]
      have lO3 := co3.lt
      have hzw3 : w.heap.size ≤ w3.heap.size := Nat.le_trans hzw hb3.size
      have hz3 := hb3.size
      clear ow3 hb3 cx3 co3 x0 o0 o1 o2 lX lO hE
      go_wp2_with fail
      refine (rfind_calls w3 _ _ L3.out.ref (by rw [List.length_map]; exact hvn) (inT t) HLAST.out TR.out.runs TR.out.short a b c).mono ?_
      rintro e w4 ⟨u4, rfl, ow4, hb4⟩
      rw [← HE.out]
      have OW4 := hid ow4
      have OW34 := hid (OW3.out.below hb4)
      have cx4 := CX3.out.below hb4 lX3
      have co4 := CO3.out.below hb4 lO3
      have L4 := hid (L3.out.after hzw3 hb4)
      have CX4 := hid cx4
      have CO4 := hid co4
      have x4 := cell_one cx4
      have lX4 := cx4.lt
      have hzw4 : w.heap.size ≤ w4.heap.size := Nat.le_trans hzw3 hb4.size
      have hz4 := hb4.size
      have hEE : (E != E) = false := by simp
      clear ow4 hb4 cx4 co4 x3 o30 o31 o32 lX3 lO3
      go_wp2_with fail
      refine (spans_same w4 u3 u4 _ (OW34.out.mono (Nat.zero_le _)) (OW4.out.mono (Nat.zero_le _)) (Nat.le_trans findL_len TR.out.short)).mono ?_
      rintro e w5 ⟨rfl, hb5⟩
      have cx5 := CX4.out.below hb5 lX4
      have co5 := CO4.out.below hb5 CO4.out.lt
      have L5 := hid (L4.out.after hzw4 hb5)
      have CX5 := hid cx5
      have CO5 := hid co5
      have x5 := cell_one cx5
      have lX5 := cx5.lt
      have hzw5 : w.heap.size ≤ w5.heap.size := Nat.le_trans hzw4 hb5.size
      have hz5 := hb5.size
      clear hb5 cx5 co5 x4 lX4
      go_wp2_with fail
      refine (last_rcalls w5 _ _ L5.out.ref (by rw [List.length_map]; exact hvn) (inT t) HLAST.out).mono ?_
      rintro e w6 ⟨u6, rfl, ru6, hb6⟩
      obtain ⟨p6, cp6, b6, rfl, hp6, hc6⟩ := ru6.cells
      obtain ⟨N, hN⟩ : ∃ N, N = (inT t).length := ⟨_, rfl⟩
      have hN2 : N ≤ 1000000 := by rw [hN]; exact TR.out.short
      have HN := hid hN
      rw [← hN] at hp6 ⊢
      have HP6 := hid hp6
      have HC6 := hid hc6
      have cx6 := CX5.out.below hb6 lX5
      have co6 := CO5.out.below hb6 CO5.out.lt
      have L6 := hid (L5.out.after hzw5 hb6)
      have CX6 := hid cx6
      have CO6 := hid co6
      have hzw6 : w.heap.size ≤ w6.heap.size := Nat.le_trans hzw5 hb6.size
      have hz6 := hb6.size
      have o60 : w6.cell? ⟨O, 0, none⟩ = some (.int .i64 a) := by simp [co6.cell]
      have lO6 := co6.lt
      clear hb6 cx6 co6 x5 lX5 hN hp6 hc6 ru6
      by_cases hL : N = 0
      · subst hL
        have BW := hid L6.out.reg.below
        go_wp2_with fail
        refine (awake_calls _).mono ?_
        rintro e w14 ⟨rfl, hb14⟩
        have BF := hid (BW.out.trans (hb14.mono BW.out.size))
        clear hb14
        go_wp2
        exact bodyPost_ret (v := .bool true) (by simp [results, Try.results8, go_sem]) rfl ⟨rfl, BF.out⟩
      · obtain ⟨r0, q1, q2, q3, q4, q5, q6⟩ := mod_big a (n := (N : Int)) (by omega) (by omega)
        obtain ⟨r, rfl⟩ := Int.eq_ofNat_of_zero_le q5
        have hrN : r < N := Int.ofNat_lt.1 q6
        obtain ⟨rfl, _, hb6⟩ := HP6.out (Nat.lt_of_le_of_lt (Nat.zero_le r) hrN)
        have hri : r < (inT t).length := by rw [← HN.out]; exact hrN
        obtain ⟨d0, d1, d2, d3, d4, d5⟩ := run_cell (Below.refl w6.heap.size w6) hb6 (HC6.out r hri)
        obtain ⟨q, hq⟩ : ∃ q, q = (inT t)[r] := ⟨_, rfl⟩
        rw [← hq] at d0 d1 d2 d3 d4 d5
        have gq := TR.out.runs.good q (by rw [hq]; exact List.getElem_mem hri)
        have gq1 := gq.le
        have n1 : ((N : Int) == 0) = false := by simp; omega
        have n4 : IntKind.u64.wrap (N : Int) = (N : Int) := IntWalk.u64_in _ (by omega)
        have n2 : (0 : Int) ≤ (r : Int) := by omega
        have n3 : (r : Int) < (N : Int) := by omega
        obtain ⟨W7, hW7⟩ : ∃ W7, W7 = w6.alloc (.cells #[.int .i64 q.from_, .int .i64 q.to, .int .i64 q.cell.state, .int .i64 q.cell.lot, .int .i64 q.cell.owner, .int .i64 q.cell.holder] 90) := ⟨_, rfl⟩
        obtain ⟨Y, hY⟩ : ∃ Y, Y = w6.heap.size := ⟨_, rfl⟩
        have hYO : Y ≠ O := by omega
        have cy : Cells W7 Y #[.int .i64 q.from_, .int .i64 q.to, .int .i64 q.cell.state, .int .i64 q.cell.lot, .int .i64 q.cell.owner, .int .i64 q.cell.holder] 90 := by rw [hW7, hY]; exact Cells.new _ _ _
        have y0 : W7.cell? ⟨Y, 0, none⟩ = some (.int .i64 q.from_) := by simp [cy.cell]
        have y1 : W7.cell? ⟨Y, 1, none⟩ = some (.int .i64 q.to) := by simp [cy.cell]
        have y3 : W7.cell? ⟨Y, 3, none⟩ = some (.int .i64 q.cell.lot) := by simp [cy.cell]
        have y4 : W7.cell? ⟨Y, 4, none⟩ = some (.int .i64 q.cell.owner) := by simp [cy.cell]
        have lY := cy.lt
        have B7 := hid (show Below w6.heap.size w6 W7 by rw [hW7]; exact (Below.refl _ _).alloc (Nat.le_refl _) _)
        have L7 := hid (L6.out.after hzw6 B7.out)
        have cx7 := CX6.out.below B7.out CX6.out.lt
        have co7 := CO6.out.below B7.out CO6.out.lt
        have CX7 := hid cx7
        have CO7 := hid co7
        have o70 : W7.cell? ⟨O, 0, none⟩ = some (.int .i64 a) := by simp [co7.cell]
        have o71 : W7.cell? ⟨O, 1, none⟩ = some (.int .i64 b) := by simp [co7.cell]
        have o72 : W7.cell? ⟨O, 2, none⟩ = some (.int .i64 c) := by simp [co7.cell]
        have f70 := co7.frozen 0
        have f71 := co7.frozen 1
        have f72 := co7.frozen 2
        have lO7 := co7.lt
        have HW7 := hid hW7
        have HY := hid hY
        obtain ⟨k, hk⟩ : ∃ k, k = q.to - q.from_ := ⟨_, rfl⟩
        have k1 : IntKind.i64.wrap (q.to - q.from_) = k := by rw [hk]; exact IntWalk.i64_in _ (by omega)
        have hkb : 0 ≤ k ∧ k ≤ 1000000 := by omega
        have k2 : IntKind.i64.wrap (k + 1) = k + 1 := IntWalk.i64_in _ (by omega)
        have k3 : IntKind.i64.wrap (2 * (k + 1)) = 2 * (k + 1) := IntWalk.i64_in _ (by omega)
        have k4 : IntKind.u64.wrap (2 * (k + 1)) = 2 * (k + 1) := IntWalk.u64_in _ (by omega)
        have k5 : ((2 * (k + 1) : Int) == 0) = false := by simp; omega
        obtain ⟨s0, z1, z2, z3, z4, z5, z6⟩ := mod_big c (n := 2 * (k + 1)) (by omega) (by omega)
        have k6 : IntKind.i64.wrap (1 + s0) = 1 + s0 := IntWalk.i64_in _ (by omega)
        clear hW7 hY cy cx7 co7 hk hq
        go_upto_region 14 with fail
        rw [← HW7.out, ← HY.out]
        go_region
        all_goals (
          go_wp2
          go_roundg (gk - 1)
          case rel => exact ⟨i + 1, q.cell.owner, q.cell.lot, 1 + s0, by omega, rfl, fnd_end L7.out (Nat.le_trans hzw6 B7.out.size) hO1 hO2 (by rw [HO.out]; exact Nat.le_refl _) hX2 CX7.out CO7.out _ _ _ rfl⟩
          case measure => omega)
    · have g1 : decide ((i : Int) < 2) = false := by simp; omega
      have BW := hid (LK.out.reg.below)
      clear hi
      go_wp2_with fail
      refine (awake_calls _).mono ?_
      rintro e w14 ⟨rfl, hb14⟩
      have BF := hid (BW.out.trans (hb14.mono BW.out.size))
      clear hb14
      go_wp2
      exact bodyPost_ret (v := .bool true) (by simp [results, Try.results8, go_sem]) rfl ⟨rfl, BF.out⟩
end Go.Proofs.Ytnnbdjfeagcbdaa
namespace Go.Proofs.Ytnnbdjfeagcbdaa.stockFinds
set_option linter.unusedSimpArgs false
set_option linter.unusedVariables false
open Go.RowKit Go.ChangeShapes Go.WideShapes

theorem of_leaves : leaves Try.prog 3 81 = some [.i64, .i64, .i64] := by kernel_rfl
theorem three {vs : List Value} (h : IntsK [.i64, .i64, .i64] vs) : ∃ a b c, vs = [.int .i64 a, .int .i64 b, .int .i64 c] := by
  obtain ⟨a, _, rfl, _, _, h⟩ := h.cons
  obtain ⟨b, _, rfl, _, _, h⟩ := h.cons
  obtain ⟨c, _, rfl, _, _, h⟩ := h.cons
  obtain rfl := h.nil
  exact ⟨a, b, c, rfl⟩
set_option maxRecDepth 100000 in
theorem stockFinds_walk {H : Type} {enc : TypeId × Value → H} (W : World) (args : Array Value) (ds : List (DataW H)) (p : List MemPlace) {base : Nat}
    (hval : ∀ (j : Nat) t v, (#[33, 81] : Array TypeId)[j]? = some t → args[j]? = some v → Value.okWide Try.prog W .any base t v)
    (hA : DataW.TrodAll enc Try.prog W 0 (fun _ => true) true [33, 81] args.toList ds p) : Calls Try.prog 8 args W fun e w' => e = .returned (.bool true) ∧ Below W.heap.size W w' := by
  obtain ⟨v0, vs0, d0, ds0, p0, q0, hargs, rfl, rfl, h0, r0⟩ := trodAll_cons hA
  obtain ⟨v1, vs1, d1, ds1, p1, q1, rfl, rfl, rfl, h1, r1⟩ := trodAll_cons r0
  obtain ⟨rfl, rfl, rfl⟩ := trodAll_nil r1
  obtain rfl : args = #[v0, v1] := by cases args; simp_all
  obtain ⟨l, hl⟩ := acts_open (hval 0 _ v0 rfl rfl) h0
  obtain ⟨cs, rfl, hk4⟩ := open_flat of_leaves (fun k hk => by rw [Try.underlying81] at hk; cases hk) (hval 1 _ v1 rfl rfl) h1
  obtain ⟨a, b, c, he⟩ := three hk4
  obtain rfl : cs = #[.int .i64 a, .int .i64 b, .int .i64 c] := by cases cs; simp_all
  exact finds_calls W v0 l hl a b c
end Go.Proofs.Ytnnbdjfeagcbdaa.stockFinds
