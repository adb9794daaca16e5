/- BoardFronts: the walk. -/
import Derived.Deep.RegionHeld3
import Derived.Test.YtdjhpldiifdifaaJFro1
namespace Go.Proofs.Ytdjhpldiifdifaa
set_option linter.unusedSimpArgs false
set_option linter.unusedVariables false
open Go.RowKit Go.Shelf
attribute [local go_sem] Oper.semAt_some
attribute [local go_sem ↓] Go.wp_at_zero Go.wp_at_succ

set_option maxRecDepth 100000 in
set_option maxHeartbeats 20000000 in
theorem fronts_calls (w : World) (v : Value) (l : List Ac) (hv : ReadsE encA 13 w v l) (hok : ∀ x ∈ l, AcOk x) (o0 : Od) (ho : o0.q ≤ 9223372036854775807) :
    Calls Try.prog 5 #[v, .agg o0.vals] w fun e w' => e = .returned (.bool true) ∧ Below w.heap.size w w' := by
  obtain ⟨w1, hw1⟩ : ∃ w1, w1 = w.alloc (.cells o0.vals 27) := ⟨_, rfl⟩
  have b1 : Below w.heap.size w w1 := by rw [hw1]; exact (Below.refl _ _).alloc (Nat.le_refl _) _
  have c1 : Cells w1 w.heap.size o0.vals 27 := by rw [hw1]; exact Cells.new _ _ _
  have RU := hid (run_calls w1 v l (hv.below b1) hok 25 (by omega))
  have HW1 := hid hw1
  have B1 := hid b1
  have C1 := hid c1
  obtain ⟨R, hR⟩ : ∃ R : Ending → World → Prop, R = fun e w' => e = .returned (.bool true) ∧ Below w.heap.size w w' := ⟨_, rfl⟩
  have FIN := hid (show ∀ w', Below w.heap.size w w' → R (.returned (.bool true)) w' by intro w' h; rw [hR]; exact ⟨rfl, h⟩)
  rw [← hR]
  have TM := hid (fun w => tame_calls o0 ho w)
  have AW := hid awake_calls
  obtain ⟨_, p0, cap0, _, _, rfl, _⟩ := hv
  unfold Od.vals at HW1 TM ⊢
  clear hR hw1 b1 c1 ho
  go_enter Try.func5, Try.ntmps5
  go_wp2_with fail
  rw [← HW1.out]
  refine RU.out.mono ?_
  rintro e w2 ⟨b, O, G, N, last, vx, x, i, rfl, lk, hi, hb2, low⟩
  obtain ⟨p9, cap9, _, rfl, _, _⟩ := lk.row.rows
  obtain ⟨w3, hw3⟩ : ∃ w3, w3 = w2.alloc (.cells #[.slice p9 x.L.length cap9, .int .i64 x.nums, .int .i64 x.turn, .int .i64 x.paid] 49) := ⟨_, rfl⟩
  have b3 : Below w2.heap.size w2 w3 := by rw [hw3]; exact (Below.refl _ _).alloc (Nat.le_refl _) _
  have K2 : FrC w w2 b w.heap.size O G N last o0 := ⟨lk.bd, C1.out.below hb2 C1.out.lt, low _ C1.out.lt, Nat.le_refl _, by have := lk.num; omega, B1.out.trans (hb2.mono B1.out.size), fun k hk => low k (by have := B1.out.size; omega)⟩
  have K3 := hid (K2.after b3)
  have HW3 := hid hw3
  obtain ⟨r3, hr3⟩ : ∃ r3, r3 = w.heap.size := ⟨_, rfl⟩
  obtain ⟨O3, hO3⟩ : ∃ O3, O3 = grow O w2 0 := ⟨_, rfl⟩
  rw [← hO3] at K3
  clear lk hi hb2 low hw3 b3 K2 RU hO3
  unfold rbV
  have K3' := K3.out
  rw [← hr3] at K3'
  have K3b := hid K3'
  have HR3 := hid hr3
  obtain ⟨x0, x1, x2, x3, x4, x5, x6, x7, xl⟩ := K3b.out.cells
  clear hr3 K3' K3
  go_upto_region 4 with fail
  rw [← HW3.out, ← HR3.out]
  go_wp2_with fail
  refine (TM.out _).mono ?_
  rintro e w4 ⟨rfl, hb4⟩
  obtain ⟨o4, ho4⟩ : ∃ o4, o4 = tameO o0 := ⟨_, rfl⟩
  rw [← ho4]
  have K4 := hid (K3b.out.after hb4)
  clear hb4 x0 x1 x2 x3 x4 x5 x6 x7 xl ho4 K3b
  obtain ⟨x0, x1, x2, x3, x4, x5, x6, x7, xl⟩ := K4.out.cells
  have z0 := K4.out.froz 0
  have z1 := K4.out.froz 1
  have z2 := K4.out.froz 2
  have z3 := K4.out.froz 3
  have z4 := K4.out.froz 4
  have z5 := K4.out.froz 5
  have z6 := K4.out.froz 6
  have z7 := K4.out.froz 7
  go_upto_region 5 with fail
  have P5 := put8 K4.out.c3 o4
  obtain ⟨w5, hw5⟩ : ∃ w5, w5 = (((((((w4.setCell ⟨r3, 0, none⟩ (.int .i64 o4.m)).setCell ⟨r3, 1, none⟩ (.int .i64 o4.s)).setCell ⟨r3, 2, none⟩ (.int .i64 o4.k)).setCell ⟨r3, 3, none⟩ (.int .i64 o4.f)).setCell ⟨r3, 4, none⟩ (.int .i64 o4.p)).setCell ⟨r3, 5, none⟩ (.int .i64 o4.t)).setCell ⟨r3, 6, none⟩ (.int .i64 o4.q)).setCell ⟨r3, 7, none⟩ (.int .i64 o4.pk) := ⟨_, rfl⟩
  rw [← hw5] at P5
  have K5 := hid (K4.out.put P5.2 P5.1)
  have HW5 := hid hw5
  clear x0 x1 x2 x3 x4 x5 x6 x7 xl z0 z1 z2 z3 z4 z5 z6 z7 P5 hw5 K4
  rw [← HW5.out]
  obtain ⟨x0, x1, x2, x3, x4, x5, x6, x7, xl⟩ := K5.out.cells
  have z5 := K5.out.froz 5
  go_upto_region 6 with fail
  obtain ⟨w6, hw6⟩ : ∃ w6, w6 = w5.setCell ⟨r3, 5, none⟩ (.int .i64 0) := ⟨_, rfl⟩
  obtain ⟨o, ho⟩ : ∃ o : Od, o = { o4 with t := 0 } := ⟨_, rfl⟩
  have K6 := hid (show FrC w w6 b r3 (grow O3 w3 0) G N last o by
    have hc : Cells w6 r3 o.vals 27 := by rw [hw6, ho]; exact K5.out.c3.set 5 _
    exact K5.out.put (by rw [hw6]; exact (Kept.refl (fun k => k = r3) w5).set (C := r3) rfl 5 _) hc)
  obtain ⟨O6, hO6⟩ : ∃ O6, O6 = grow O3 w3 0 := ⟨_, rfl⟩
  rw [← hO6] at K6
  have HOT := hid (show o.t = 0 by rw [ho])
  clear x0 x1 x2 x3 x4 x5 x6 x7 xl z5 K5 ho hO6
  rw [← hw6]
  have HW6 := hid hw6
  clear hw6
  obtain ⟨x0, x1, x2, x3, x4, x5, x6, x7, xl⟩ := K6.out.cells
  by_cases hs : o.s = 1 ∨ o.s = 2
  · have HS := hid hs
    go_cut [36] (fun s36 wx => s36 = .bool false ∧ wx = w6)
    case first =>
      rcases hs with h | h
      · have e1 : (o.s != 1) = false := by rw [h]; rfl
        clear h
        go_wp2
        go_meet
        exact ⟨rfl, rfl⟩
      · have e1 : (o.s != 1) = true := by rw [h]; rfl
        have e2 : (o.s != 2) = false := by rw [h]; rfl
        clear h
        go_wp2
        go_meet
        exact ⟨rfl, rfl⟩
    case rest =>
      obtain ⟨rfl, rfl⟩ := hcut
      clear hs
      obtain ⟨s, hss⟩ : ∃ s, s = o.s := ⟨_, rfl⟩
      have hs12 : s = 1 ∨ s = 2 := by rw [hss]; exact HS.out
      have hs1 : 1 ≤ s := by omega
      have hs2 : s ≤ 2 := by omega
      have ew : IntKind.i64.wrap (3 - s) = 3 - s := IntWalk.i64_in _ (by omega)
      rw [← hss] at x1
      have BB := hid (best_side K6.out.bd (s := 3 - s) (by omega))
      obtain ⟨H, hH⟩ : ∃ H, H = (G.bd N last).half (3 - s) := ⟨_, rfl⟩
      rw [← hH] at BB
      obtain ⟨⟨bp, bh, bt⟩, hbf⟩ : ∃ z, z = bestF H := ⟨_, rfl⟩
      rw [← hbf] at BB
      have HHB := hid hbf
      have HH := hid hH
      have HSS := hid hss
      clear hbf hH hss
      go_wp2_with fail
      refine BB.out.mono ?_
      rintro e w7 ⟨rfl, hb7⟩
      have K7 := hid (K6.out.after hb7)
      have QU := hid (queue_side K7.out.bd (s := 3 - s) (by omega) bp)
      rw [← HH.out] at QU
      clear x0 x1 x2 x3 x4 x5 x6 x7 xl hb7 BB
      go_wp2_with fail
      refine QU.out.mono ?_
      rintro e w8 ⟨u8, rfl, hu8, hb8⟩
      have K8 := hid (K7.out.after hb8)
      have U8 := hid (hu8.mono (Nat.zero_le _))
      have CU8 := hid (fun g (hg : u8.ownBlock = some g) => (show grow (grow O6 wc 0) w7 0 g = 0 from grow_new (own_ge hu8 g hg)))
      obtain ⟨O8, hO8⟩ : ∃ O8, O8 = grow (grow O6 wc 0) w7 0 := ⟨_, rfl⟩
      rw [← hO8] at K8 CU8
      obtain ⟨pu, cu, gu, hvu, hpu, hcu⟩ := OwnE.cells (enc := encI) (sz := 1) (fun _ => rfl) U8.out
      obtain ⟨MQ, hMQ⟩ : ∃ MQ, MQ = (queueF bp H).length := ⟨_, rfl⟩
      rw [← hMQ] at hvu hpu
      subst hvu
      have HMQ := hid hMQ
      obtain ⟨x0, x1, x2, x3, x4, x5, x6, x7, xl⟩ := K8.out.cells
      have EN := hid (enter_calls K8.out.bd o (by have := K8.out.num; omega) (live_size (N := N) K8.out.bd.ok (Int.le_refl _) (by have := K8.out.num; omega)))
      unfold Od.vals at EN
      clear hu8 hb8 hO8 QU hpu hcu hMQ K6 K7
      go_wp2_with fail
      refine EN.out.mono ?_
      rintro e w9 (⟨hE, rfl, bd9, st9⟩ | ⟨hE, v9, O9, G9, l9, rfl, hv9, hcol9, bd9, hbd9, st9⟩)
      · obtain ⟨er, her⟩ : ∃ er, er = enterE (G.bd N last) o := ⟨_, rfl⟩
        rw [← her] at hE ⊢
        have hz2 : (er != 0) = true := by simpa using hE
        have B9 := hid (K8.out.below.trans (st9.low K8.out.below.size K8.out.low).1)
        clear hE her bd9 st9 x0 x1 x2 x3 x4 x5 x6 x7 xl
        go_wp2_with fail
        refine (AW.out _).mono ?_
        rintro e w10 ⟨rfl, hb10⟩
        have FN := hid (FIN.out w10 (B9.out.trans (hb10.mono B9.out.size)))
        go_wp2
        first | exact FN.out | (go_ret; exact FN.out)
      · have B9 := hid (K8.out.below.trans (st9.low K8.out.below.size K8.out.low).1)
        obtain ⟨pv, cv, hv', _⟩ := hv9.form
        obtain ⟨evs, hevs⟩ : ∃ evs, evs = (enterF (G.bd N last) o).2 := ⟨_, rfl⟩
        rw [← hevs] at hv9 hv'
        subst hv'
        obtain ⟨M, hM⟩ : ∃ M, M = evs.length := ⟨_, rfl⟩
        rw [← hM] at hv9 ⊢
        have V9 := hid hv9
        have HM := hid hM
        have HEVS := hid hevs
        have C9 := hid (keep_step st9 K8.out.c3 K8.out.o3).1
        have U9 := hid (OwnE.kept U8.out st9.kept (fun g hg => by show ¬ colB 0 (O8 g); rw [CU8.out g hg]; exact fun e => absurd e.1 (by omega)))
        clear hv9 hM hevs bd9 st9 hcol9 hbd9 x0 x1 x2 x3 x4 x5 x6 x7 xl EN
        cases bt with
        | false =>
          go_wp2_with fail
          refine (AW.out _).mono ?_
          rintro e w10 ⟨rfl, hb10⟩
          have FN := hid (FIN.out w10 (B9.out.trans (hb10.mono B9.out.size)))
          go_wp2
          first | exact FN.out | (go_ret; exact FN.out)
        | true =>
          have hHok := K8.out.bd.ok.half (s := 3 - s) (by omega)
          rw [← HH.out] at hHok
          obtain ⟨yn, hq0, hfr⟩ : ∃ yn : Int, (∃ r, queueF bp H = yn :: r) ∧ FrOk ((N : Int) + 1) yn bp o true 0 evs := by
            rcases best_front hHok with ⟨h1, h2⟩ | ⟨y, r, h1, h2, q, r', h3⟩
            · have := HHB.out
              rw [h1] at this
              exact absurd this (by simp [bestF])
            · have hbp : bp = y.o.p := by
                have := HHB.out
                rw [h3] at this
                injection this
              refine ⟨y.n, ⟨r, by rw [hbp]; exact h2⟩, ?_⟩
              have hok1 : o.ok = true := by
                unfold enterE at hE
                by_cases h : o.ok = false
                · rw [if_pos h] at hE; exact absurd hE (by decide)
                · simpa using h
              rw [HEVS.out]
              refine enterF_fr K8.out.bd.ok (by have := K8.out.num; show (N : Int) < 1000000; omega) hok1 HOT.out (fun z hz => ?_)
              rw [← HSS.out, ← HH.out, h1] at hz
              injection hz with hz
              subst hz
              exact ⟨rfl, hbp.symm⟩
          obtain ⟨r0, hr0⟩ := hq0
          have hMQ1 : MQ = r0.length + 1 := by rw [HMQ.out, hr0]; rfl
          obtain ⟨pu2, cu2, gu2, hvu2, hpu2, hcu2⟩ := OwnE.cells (enc := encI) (sz := 1) (fun _ => rfl) U9.out
          rw [← HMQ.out] at hvu2 hpu2
          injection hvu2 with e1 _ e3
          obtain ⟨hpu3, _, hlu⟩ := hpu2 (by omega)
          have k0 := hcu2 0 (by rw [hr0]; simp) 0 (by omega)
          simp only [hr0] at k0
          subst e1 e3
          have KU := hid (show w9.cell? ⟨gu2, 0, none⟩ = some (.int .i64 yn) from k0)
          have HLU := hid hlu
          have FR := hid hfr
          have gMQ : ((MQ : Int) == 0) = false := by simp; omega
          have hMQp : 0 < MQ := by omega
          have hMl : M ≤ 9223372036854775807 := by
            rcases V9.out.2 with ⟨e, _⟩ | ⟨_, _, _, e, _, _, h5, h6, _⟩
            · injection e with _ e _; omega
            · unfold maxLen at h6; rw [HM.out]; omega
          subst hpu3
          clear hHok hfr hr0 hMQ1 hpu2 hcu2 k0 hlu hE K8 U8 CU8
          go_upto_block 0 with fail
          go_cut [] (fun wx => Below w9.heap.size w9 wx)
          case first =>
            go_wp2_with fail
            go_loopg [15, 16, 17] M (fun k s15 s16 s17 wq => ∃ (a : Nat) (fi : Bool) (pd : Int), s17 = .int .i64 a ∧ s15 = .bool fi ∧ s16 = .int .i64 pd ∧ a ≤ M ∧ k = M - a ∧ FrOk ((N : Int) + 1) yn bp o fi pd (evs.drop a) ∧ Below w9.heap.size w9 wq)
            case atStart => exact ⟨0, true, 0, rfl, rfl, rfl, by omega, by omega, FR.out, Below.refl _ _⟩
            case round =>
              obtain ⟨a, fi, pd, rfl, rfl, rfl, ha, hk, hfo, hb⟩ := hrel
              have HK := hid hk
              have HFO := hid hfo
              have HB := hid hb
              clear hk hfo hb
              by_cases haM : a < M
              · have hal : a < evs.length := by rw [← HM.out]; exact haM
                have hev0 := OwnE.below V9.out HB.out
                rw [HM.out] at hev0
                obtain ⟨pv', cv', h, hvv, hp, hrow⟩ := evRow hev0
                injection hvv with e1 e2 e3
                obtain ⟨hp, hhl⟩ := hp (by omega)
                rw [hp] at e1
                subst e3
                clear e2 hp hev0
                obtain ⟨e, he⟩ : ∃ e, e = evs[a] := ⟨_, rfl⟩
                have hdrop : evs.drop a = e :: evs.drop (a + 1) := by rw [List.drop_eq_getElem_cons hal, he]
                have hfo := HFO.out
                rw [hdrop] at hfo
                have d0 := hrow a hal 0 (by omega)
                have d1 := hrow a hal 1 (by omega)
                have d2 := hrow a hal 2 (by omega)
                have d3 := hrow a hal 3 (by omega)
                have d4 := hrow a hal 4 (by omega)
                rw [← he] at d0 d1 d2 d3 d4
                simp [encEv] at d0 d1 d2 d3 d4
                subst e1
                have NX := hid hfo.next
                have haI : (a : Int) < M := by omega
                clear hdrop he hrow hfo
                go_upto_region 19 with fail
                obtain ⟨wE, hwE⟩ : ∃ wE, wE = wr.alloc (.cells #[.int .i64 e.w, .int .i64 e.o, .int .i64 e.x, .int .i64 e.p, .int .i64 e.q] 40) := ⟨_, rfl⟩
                have bE : Below wr.heap.size wr wE := by rw [hwE]; exact (Below.refl _ wr).alloc (Nat.le_refl _) _
                have cE : Cells wE wr.heap.size #[.int .i64 e.w, .int .i64 e.o, .int .i64 e.x, .int .i64 e.p, .int .i64 e.q] 40 := by rw [hwE]; exact Cells.new _ _ _
                rw [← hwE]
                have f0 : wE.cell? ⟨wr.heap.size, 0, none⟩ = some (.int .i64 e.w) := by rw [cE.cell]; rfl
                have f1 : wE.cell? ⟨wr.heap.size, 1, none⟩ = some (.int .i64 e.o) := by rw [cE.cell]; rfl
                have f2 : wE.cell? ⟨wr.heap.size, 2, none⟩ = some (.int .i64 e.x) := by rw [cE.cell]; rfl
                have f3 : wE.cell? ⟨wr.heap.size, 3, none⟩ = some (.int .i64 e.p) := by rw [cE.cell]; rfl
                have fl := cE.lt
                have HBE := hid (HB.out.trans (bE.mono HB.out.size))
                have CO := C9.out.below HBE.out C9.out.lt
                obtain ⟨x1, x2, x4⟩ : wE.cell? ⟨r3, 1, none⟩ = some (.int .i64 s) ∧ wE.cell? ⟨r3, 2, none⟩ = some (.int .i64 o.k) ∧ wE.cell? ⟨r3, 4, none⟩ = some (.int .i64 o.p) := by
                  rw [HSS.out]
                  refine ⟨?_, ?_, ?_⟩ <;> (rw [CO.cell]; rfl)
                have xl := CO.lt
                have ku : wE.cell? ⟨gu2, 0, none⟩ = some (.int .i64 yn) := (HBE.out.cell (p := ⟨gu2, 0, none⟩) HLU.out).trans KU.out
                have kl : gu2 < wE.heap.size := Nat.lt_of_lt_of_le HLU.out HBE.out.size
                clear hwE bE cE d0 d1 d2 d3 d4 hhl CO
                rcases NX.out with h7 | ⟨h1, h7, hf⟩ | ⟨h1, hn, hft, hpd, hlm, hf⟩
                · have e7 : (e.w == 7) = true := by simpa using h7
                  have e1 : (e.w != 1) = true := by simp; omega
                  clear h7 x1 x2 x4 ku
                  by_cases hon : e.o = (N : Int) + 1
                  · have eo : (e.o != (N : Int) + 1) = false := by simpa using hon
                    clear hon
                    go_wp2
                    go_meet
                    exact HBE.out
                  · have eo : (e.o != (N : Int) + 1) = true := by simpa using hon
                    clear hon
                    go_wp2
                    go_meet
                    exact HBE.out
                · have e7 : (e.w == 7) = false := by simpa using h7
                  have e1 : (e.w != 1) = true := by simpa using h1
                  have HF := hid hf
                  clear h1 h7 x1 x2 x4 ku hf
                  go_cut [89] (fun s wx => s = .bool true ∧ wx = wE)
                  case first =>
                    by_cases hon : e.o = (N : Int) + 1
                    · have eo : (e.o != (N : Int) + 1) = false := by simpa using hon
                      clear hon
                      go_wp2
                      go_meet
                      exact ⟨rfl, rfl⟩
                    · have eo : (e.o != (N : Int) + 1) = true := by simpa using hon
                      clear hon
                      go_wp2
                      go_meet
                      exact ⟨rfl, rfl⟩
                  case rest =>
                    obtain ⟨rfl, rfl⟩ := hcut
                    by_cases h5 : e.w = 5
                    · have e5 : (e.w == 5) = true := by simpa using h5
                      have HF5 := hid (show FrOk ((N : Int) + 1) yn bp o false pd (evs.drop (a + 1)) by have := HF.out; rw [if_pos h5] at this; exact this)
                      clear h5
                      go_wp2
                      go_roundg (M - (a + 1))
                      · exact ⟨a + 1, false, pd, by go_num, rfl, rfl, by omega, rfl, HF5.out, HBE.out⟩
                      · have := HK.out; omega
                    · have e5 : (e.w == 5) = false := by simpa using h5
                      have HF5 := hid (show FrOk ((N : Int) + 1) yn bp o fi pd (evs.drop (a + 1)) by have := HF.out; rw [if_neg h5] at this; exact this)
                      clear h5
                      go_wp2
                      go_roundg (M - (a + 1))
                      · exact ⟨a + 1, fi, pd, by go_num, rfl, rfl, by omega, rfl, HF5.out, HBE.out⟩
                      · have := HK.out; omega
                · have e1 : (e.w != 1) = false := by simpa using h1
                  have eo : (e.o != (N : Int) + 1) = false := by simpa using hn
                  have HF := hid hf
                  have HPD := hid hpd
                  have HLM := hid hlm
                  have HFT := hid hft
                  clear h1 hn hf hpd hlm hft
                  go_upto_region 23 with fail
                  go_cut [110] (fun s wx => s = .bool false ∧ ∃ m, wx = wE.drewN m)
                  case first =>
                    cases fi with
                    | true =>
                      obtain ⟨q1, q2⟩ := HFT.out rfl
                      have eq1 : (e.x != yn) = false := by simpa using q1
                      have eq2 : (e.p != bp) = false := by simpa using q2
                      clear q1 q2 x1 x2 x4
                      go_big_quiet (fail)
                      go_wp2
                      go_meet
                      exact ⟨rfl, _, rfl⟩
                    | false =>
                      clear x1 x2 x4
                      go_big_quiet (fail)
                      go_wp2
                      go_meet
                      exact ⟨rfl, _, rfl⟩
                  case rest =>
                    obtain ⟨rfl, m, rfl⟩ := hcut
                    clear ku
                    go_upto_region 25 with fail
                    go_cut [138] (fun s wx => s = .bool false ∧ wx = wE.drewN m)
                    case first =>
                      clear x2 x4
                      cases fi with
                      | true =>
                        go_wp2
                        go_meet
                        exact ⟨rfl, rfl⟩
                      | false =>
                        by_cases hp0 : pd = 0
                        · have ep : (pd != 0) = false := by simpa using hp0
                          clear hp0
                          go_wp2
                          go_meet
                          exact ⟨rfl, rfl⟩
                        · have ep : (pd != 0) = true := by simpa using hp0
                          obtain ⟨l1, l2⟩ := HPD.out rfl hp0
                          rw [← HSS.out] at l1 l2
                          clear hp0
                          rcases hs12 with h | h
                          · have z1 : (s == 1) = true := by simpa using h
                            have z2 : (s == 2) = false := by rw [h]; rfl
                            have z3 : decide (e.p < pd) = false := by have := l1 h; simp; omega
                            clear h l1 l2 hs1 hs2 ew
                            go_wp2
                            go_meet
                            exact ⟨rfl, rfl⟩
                          · have z1 : (s == 1) = false := by rw [h]; rfl
                            have z2 : (s == 2) = true := by simpa using h
                            have z3 : decide (pd < e.p) = false := by have := l2 h; simp; omega
                            clear h l1 l2 hs1 hs2 ew
                            go_wp2
                            go_meet
                            exact ⟨rfl, rfl⟩
                    case rest =>
                      obtain ⟨rfl, rfl⟩ := hcut
                      go_upto_region 27 with fail
                      go_cut [165] (fun s wx => s = .bool false ∧ wx = wE.drewN m)
                      case first =>
                        by_cases hk1 : o.k = 1
                        · have ek : (o.k == 1) = true := by simpa using hk1
                          obtain ⟨l1, l2⟩ := HLM.out hk1
                          rw [← HSS.out] at l1 l2
                          clear hk1
                          rcases hs12 with h | h
                          · have z1 : (s == 1) = true := by simpa using h
                            have z2 : (s == 2) = false := by rw [h]; rfl
                            have z3 : decide (o.p < e.p) = false := by have := l1 h; simp; omega
                            clear h l1 l2 hs1 hs2 ew
                            go_wp2
                            go_meet
                            exact ⟨rfl, rfl⟩
                          · have z1 : (s == 1) = false := by rw [h]; rfl
                            have z2 : (s == 2) = true := by simpa using h
                            have z3 : decide (e.p < o.p) = false := by have := l2 h; simp; omega
                            clear h l1 l2 hs1 hs2 ew
                            go_wp2
                            go_meet
                            exact ⟨rfl, rfl⟩
                        · have ek : (o.k == 1) = false := by simpa using hk1
                          clear hk1
                          go_wp2
                          go_meet
                          exact ⟨rfl, rfl⟩
                      case rest =>
                        obtain ⟨rfl, rfl⟩ := hcut
                        clear x1 x2 x4
                        go_wp2
                        go_roundg (M - (a + 1))
                        · exact ⟨a + 1, false, e.p, by go_num, rfl, rfl, by omega, rfl, HF.out, HBE.out.trans ((Below.of_drewN wE m).mono HBE.out.size)⟩
                        · have := HK.out; omega
              · have haM2 : a = M := by omega
                subst haM2
                have g3 : decide ((a : Int) < (a : Int)) = false := by simp
                go_wp2
                go_meet
                exact HB.out
          case rest =>
            have hb8 : Below w9.heap.size w9 wc := hcut
            have BL := hid (B9.out.trans (hb8.mono B9.out.size))
            clear hb8 hcut
            go_wp2_with fail
            refine (AW.out _).mono ?_
            rintro e w10 ⟨rfl, hb10⟩
            have FN := hid (FIN.out w10 (BL.out.trans (hb10.mono BL.out.size)))
            go_wp2
            first | exact FN.out | (go_ret; exact FN.out)
  · have e1 : (o.s != 1) = true := by simp; omega
    have e2 : (o.s != 2) = true := by simp; omega
    clear hs
    go_wp2_with fail
    refine (AW.out _).mono ?_
    rintro e w7 ⟨rfl, hb7⟩
    have FN := hid (FIN.out w7 (K6.out.after hb7).below)
    go_wp2
    first | exact FN.out | (go_ret; exact FN.out)
end Go.Proofs.Ytdjhpldiifdifaa
