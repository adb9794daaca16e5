/- BoardCostTrades: the walk. -/
import Derived.Test.YtdjhpldiifdifaaJCot1
namespace Go.Proofs.Ytdjhpldiifdifaa
set_option linter.unusedSimpArgs false
set_option linter.unusedVariables false
open Go.RowKit Go.Shelf
attribute [local go_sem] Oper.semAt_some
attribute [local go_sem ↓] Go.wp_at_zero Go.wp_at_succ

set_option maxRecDepth 100000 in
set_option maxHeartbeats 20000000 in
theorem costtr_calls (w : World) (v : Value) (l : List Ac) (hv : ReadsE encA 13 w v l) (hok : ∀ x ∈ l, AcOk x) (s0 q0 : Int) :
    Calls Try.prog 4 #[v, .int .i64 s0, .int .i64 q0] w fun e w' => e = .returned (.bool true) ∧ Below w.heap.size w w' := by
  have RU := hid (run_calls w v l hv hok 25 (by omega))
  obtain ⟨R, hR⟩ : ∃ R : Ending → World → Prop, R = fun e w' => e = .returned (.bool true) ∧ Below w.heap.size w w' := ⟨_, rfl⟩
  have FIN := hid (show ∀ w', Below w.heap.size w w' → R (.returned (.bool true)) w' by intro w' h; rw [hR]; exact ⟨rfl, h⟩)
  rw [← hR]
  have AW := hid awake_calls
  obtain ⟨_, p0, cap0, _, _, rfl, _⟩ := hv
  clear hR
  go_enter Try.func4, Try.ntmps4
  go_wp2_with fail
  refine RU.out.mono ?_
  rintro e w2 ⟨b, O, G, N, last, vx, x, i, rfl, lk, hi, hb2, low⟩
  obtain ⟨p9, cap9, _, rfl, _, _⟩ := lk.row.rows
  obtain ⟨n9, hn9⟩ : ∃ n9, n9 = x.L.length := ⟨_, rfl⟩
  rw [← hn9] at lk ⊢
  have HN9 := hid hn9
  obtain ⟨w3, hw3⟩ : ∃ w3, w3 = w2.alloc (.cells #[.slice p9 n9 cap9, .int .i64 x.nums, .int .i64 x.turn, .int .i64 x.paid] 49) := ⟨_, rfl⟩
  have b3 : Below w2.heap.size w2 w3 := by rw [hw3]; exact (Below.refl _ _).alloc (Nat.le_refl _) _
  have K3 := hid (show CtC w w3 w3 b w2.heap.size (grow O w2 0) G N last (.slice p9 n9 cap9) x i from
    ⟨lk.grow b3, hi, by rw [hw3]; exact Cells.new _ _ _, hb2.trans (b3.mono hb2.size), fun k hk => by rw [grow_old (Nat.lt_of_lt_of_le hk hb2.size)]; exact low k hk, Below.refl _ _⟩)
  obtain ⟨r8, hr8⟩ : ∃ r8, r8 = w2.heap.size := ⟨_, rfl⟩
  obtain ⟨O3, hO3⟩ : ∃ O3, O3 = grow O w2 0 := ⟨_, rfl⟩
  rw [← hr8, ← hO3] at K3
  have HR8 := hid hr8
  have HW3 := hid hw3
  clear lk hi hb2 low hw3 b3 RU hn9 hr8 hO3
  unfold rbV
  go_upto_region 5 with fail
  rw [← HW3.out, ← HR8.out]
  go_upto_block 0 with fail
  go_cut [] (fun wx => Below w3.heap.size w3 wx ∧ ∀ y ∈ x.L, y.o.m ≠ 1000 ∧ y.o.t = 0)
  case first =>
    go_wp2_with fail
    go_loopg [10] n9 (fun k s10 wq => ∃ j : Nat, j + k = n9 ∧ s10 = .int .i64 j ∧ Below w3.heap.size w3 wq ∧ ∀ (t : Nat) (ht : t < x.L.length), t < j → x.L[t].o.m ≠ 1000 ∧ x.L[t].o.t = 0)
    case atStart => exact ⟨0, by omega, rfl, Below.refl _ _, fun t ht h => absurd h (by omega)⟩
    case round =>
      obtain ⟨j, hjk, rfl, hb, hno⟩ := hrel
      have HJK := hid hjk
      have HB := hid hb
      have HNO := hid hno
      have hn4 : n9 ≤ 4096 := by rw [HN9.out]; exact K3.out.lk.len
      have SJ := hid (K3.out.after hb)
      obtain ⟨x0, x1, x2, x3, xl⟩ := SJ.out.cell
      clear hjk hb hno
      by_cases hjn : j < n9
      · have hjl : j < x.L.length := by rw [← HN9.out]; exact hjn
        obtain ⟨p8, k8, g8, hv8, hp8, hc8⟩ := SJ.out.at.row.rows
        rw [← HN9.out] at hv8 hp8
        injection hv8 with e1 _ e3
        subst e1 e3
        obtain ⟨rfl, hg8⟩ := hp8 (by omega)
        obtain ⟨c0, c1, c2, c3, c4, c5, c6, c7, c8, c9, c10, c11, c12⟩ := hc8 wr (Below.refl _ _) j hjl
        have gj : (j : Int) < (n9 : Int) := by omega
        obtain ⟨y, hy⟩ : ∃ y, y = x.L[j] := ⟨_, rfl⟩
        rw [← hy] at c1 c6
        have HY := hid hy
        clear c0 c2 c3 c4 c5 c7 c8 c9 c10 c11 c12 hp8 hc8 hy
        by_cases hm : y.o.m = 1000
        · have em : (y.o.m == 1000) = true := by simpa using hm
          clear hm
          go_wp2_with fail
          refine (AW.out _).mono ?_
          rintro e w10 ⟨rfl, hb10⟩
          have FN := hid (FIN.out w10 (SJ.out.after hb10).out)
          go_wp2
          first | exact FN.out | (go_ret; exact FN.out)
        · have em : (y.o.m == 1000) = false := by simpa using hm
          by_cases ht : y.o.t = 0
          · have et : (y.o.t != 0) = false := by simpa using ht
            have HH := hid (And.intro hm ht)
            clear hm ht
            go_wp2
            go_roundg (n9 - (j + 1))
            · refine ⟨j + 1, by omega, by go_num, HB.out, fun t ht h => ?_⟩
              by_cases htj : t = j
              · subst htj
                rw [← HY.out]
                exact HH.out
              · exact HNO.out t ht (by omega)
            · have := HJK.out; omega
          · have et : (y.o.t != 0) = true := by simpa using ht
            clear hm ht
            go_wp2_with fail
            refine (AW.out _).mono ?_
            rintro e w10 ⟨rfl, hb10⟩
            have FN := hid (FIN.out w10 (SJ.out.after hb10).out)
            go_wp2
            first | exact FN.out | (go_ret; exact FN.out)
      · have hj' : j = n9 := by have := HJK.out; omega
        subst hj'
        have g1 : decide ((j : Int) < (j : Int)) = false := by simp
        go_wp2
        go_meet
        refine ⟨HB.out, fun y hy => ?_⟩
        obtain ⟨t, ht, rfl⟩ := List.mem_iff_getElem.1 hy
        exact HNO.out t ht (by rw [HN9.out]; exact ht)
  case rest =>
    obtain ⟨hb3, hno⟩ := hcut
    have K4 := hid (K3.out.after hb3)
    have NO := hid hno
    clear hb3 hno K3
    obtain ⟨rs, hs1, hs2, hs3, hs4, hs5, hs6⟩ := side_mod s0
    obtain ⟨rq, hq1, hq2, hq3, hq4, hq5, hq6⟩ := qty_mod4 q0
    obtain ⟨s, hs⟩ : ∃ s, s = 1 + rs := ⟨_, rfl⟩
    obtain ⟨q, hq⟩ : ∃ q, q = 1 + rq := ⟨_, rfl⟩
    rw [← hs] at hs4
    rw [← hq] at hq4
    have hs12 : s = 1 ∨ s = 2 := by omega
    have hq400 : 1 ≤ q ∧ q ≤ 400 := by omega
    have CO := hid (cost_side K4.out.at.bd hs12 (qty := q) (by omega))
    have EN := hid (fun (w' : World) (hb : Below wc.heap.size wc w') => enter_stranger (K4.out.after hb).at K4.out.hi NO.out hs12 hq400)
    unfold stranger Od.vals at EN
    obtain ⟨⟨fn, fm⟩, hfm⟩ : ∃ z, z = costF q (plainH (G.L (3 - s)) G.en).all (0, 0) := ⟨_, rfl⟩
    rw [← hfm] at CO EN
    rw [hs] at CO EN hs4
    rw [hq] at CO EN hq4
    have HS12 := hid hs12
    have HQ := hid hq400
    have HFM := hid hfm
    clear hs hq hs12 hq400 hfm hs5 hs6 hq5 hq6
    go_upto_region 12 with fail
    go_wp2_with fail
    refine CO.out.mono ?_
    rintro e w5 ⟨rfl, hb5⟩
    have K5 := hid (K4.out.after hb5)
    have EN5 := hid (EN.out w5 hb5)
    clear hb5 CO EN
    go_wp2_with fail
    refine EN5.out.mono ?_
    rintro e w6 ⟨pv, cv, evs, O6, rfl, hev, htr, hall, st⟩
    have B6 := hid (show Below w.heap.size w w6 from K5.out.out.trans (st.low K5.out.out.size (fun k hk => by rw [grow_old (Nat.lt_of_lt_of_le hk K5.out.below.size)]; exact K5.out.low k hk)).1)
    obtain ⟨M, hM⟩ : ∃ M, M = evs.length := ⟨_, rfl⟩
    rw [← hM] at hev ⊢
    have HEV := hid hev
    have HM := hid hM
    have HTR := hid htr
    have HALL := hid hall
    have hM40 : M ≤ 9223372036854775807 := by
      rcases hev.2 with ⟨e, _⟩ | ⟨_, _, _, e, _, _, h5, h6, _⟩
      · injection e with _ e _; omega
      · unfold maxLen at h6; rw [hM]; omega
    have hfn : 0 ≤ fn ∧ fn ≤ 400 ∧ 0 ≤ fm ∧ fm ≤ 400000000 := by
      have h1 := cost_small (K4.out.at.bd.sok (other_side HS12.out)) HQ.out (evs := evs) (by rw [htr, HFM.out]) hall
      rw [← HFM.out] at h1
      exact h1
    have HFN := hid hfn
    clear hev hM htr hall st EN5 hfn hs1 hs2 hs3 hs4 hq1 hq2 hq3 hq4
    go_wp2_with fail
    go_loopg [11, 12, 17] M (fun k s11 s12 s17 wq => ∃ (a : Nat) (n m : Int) (d : Nat), s17 = .int .i64 a ∧ s11 = .int .i64 n ∧ s12 = .int .i64 m ∧ a ≤ M ∧ k = M - a ∧ trs (evs.drop a) = (n, m) ∧ n ≤ 400 ∧ m ≤ 400000000 ∧ wq = w6.drewN d)
    case atStart =>
      have h := HFN.out
      exact ⟨0, fn, fm, 0, rfl, rfl, rfl, by omega, by omega, HTR.out, by omega, by omega, rfl⟩
    case round =>
      obtain ⟨a, n, m, d, rfl, rfl, rfl, ha, hk, htr, hn4, hm4, rfl⟩ := hrel
      have HK := hid hk
      have HT := hid htr
      clear hk htr
      by_cases haM : a < M
      · have hal : a < evs.length := by rw [← HM.out]; exact haM
        have hev0 := HEV.out
        rw [HM.out] at hev0
        obtain ⟨pv', cv', h, hvv, hp, hrow⟩ := evRow hev0
        injection hvv with e1 e2 e3
        obtain ⟨hp, hhl⟩ := hp (by omega)
        rw [hp] at e1
        subst e3
        clear e2 hp hev0
        obtain ⟨e, he⟩ : ∃ e, e = evs[a] := ⟨_, rfl⟩
        have hdrop : evs.drop a = e :: evs.drop (a + 1) := by rw [List.drop_eq_getElem_cons hal, he]
        have htr := HT.out
        rw [hdrop, trs_cons] at htr
        have heok : TrOkE e := HALL.out e (by rw [he]; exact List.getElem_mem hal)
        have hpos := trs_pos (l := evs.drop (a + 1)) (fun x hx => HALL.out x (List.mem_of_mem_drop hx))
        have d0 := hrow a hal 0 (by omega)
        have d3 := hrow a hal 3 (by omega)
        have d4 := hrow a hal 4 (by omega)
        rw [← he] at d0 d3 d4
        simp [encEv] at d0 d3 d4
        subst e1
        have haI : (a : Int) < M := by omega
        have ha0 : (0 : Int) ≤ (a : Int) := by omega
        clear hdrop he hrow HT
        by_cases w1 : e.w = 1
        · have t1 : (e.w == 1) = true := by simpa using w1
          rw [if_pos w1] at htr
          obtain ⟨q1, p0, p1⟩ := heok w1
          obtain ⟨⟨n2, m2⟩, hnm⟩ : ∃ z, z = trs (evs.drop (a + 1)) := ⟨_, rfl⟩
          rw [← hnm] at htr hpos
          injection htr with h1 h2
          simp only at h1 h2 hpos
          have z0 : 0 ≤ e.q * e.p := Int.mul_nonneg (by omega) p0
          obtain ⟨z, hz⟩ : ∃ z, z = e.q * e.p := ⟨_, rfl⟩
          rw [← hz] at h2 z0
          have ez : IntKind.i64.wrap (e.q * e.p) = z := by rw [← hz]; exact IntWalk.i64_in _ (by omega)
          have en : n - e.q = n2 := by omega
          have em : m - z = m2 := by omega
          have en2 : IntKind.i64.wrap (n - e.q) = n2 := by rw [en]; exact IntWalk.i64_in _ (by omega)
          have em2 : IntKind.i64.wrap (m - z) = m2 := by rw [em]; exact IntWalk.i64_in _ (by omega)
          have HNM := hid (show trs (evs.drop (a + 1)) = (n2, m2) from hnm.symm)
          have n24 : n2 ≤ 400 := by omega
          have m24 : m2 ≤ 400000000 := by omega
          clear heok hpos w1 hnm h1 h2 z0 hz q1 p0 p1 en em hn4 hm4
          go_wp2
          go_big_quiet (fail)
          go_wp2
          go_roundg (M - (a + 1))
          · exact ⟨a + 1, n2, m2, _, by go_num, rfl, rfl, by omega, rfl, HNM.out, n24, m24, rfl⟩
          · have := HK.out; omega
        · have t1 : (e.w == 1) = false := by simpa using w1
          rw [if_neg w1] at htr
          have HT := hid htr
          clear heok hpos w1 htr d3 d4
          go_wp2
          go_roundg (M - (a + 1))
          · exact ⟨a + 1, n, m, d, by go_num, rfl, rfl, by omega, rfl, HT.out, hn4, hm4, rfl⟩
          · have := HK.out; omega
      · have haM2 : a = M := by omega
        subst haM2
        have g3 : decide ((a : Int) < (a : Int)) = false := by simp
        have ht := HT.out
        rw [HM.out, List.drop_length] at ht
        injection ht with h1 h2
        subst h1 h2
        clear hn4 hm4
        go_wp2_with fail
        refine (AW.out _).mono ?_
        rintro e w10 ⟨rfl, hb10⟩
        have FN := hid (FIN.out w10 (B6.out.trans (((Below.of_drewN w6 d).trans hb10).mono B6.out.size)))
        go_wp2
        first | exact FN.out | (go_ret; exact FN.out)
end Go.Proofs.Ytdjhpldiifdifaa
