/- BoardKeeps: the walk. -/
import Derived.Test.YtdjhpldiifdifaaKee1
import Derived.Deep.DeepCutAuto
namespace Go.Proofs.Ytdjhpldiifdifaa
set_option linter.unusedSimpArgs false
set_option linter.unusedVariables false
open Go.RowKit Go.Shelf
attribute [local go_sem] Oper.semAt_some
attribute [local go_sem ↓] Go.wp_at_zero Go.wp_at_succ

set_option maxRecDepth 100000 in
set_option maxHeartbeats 20000000 in
theorem keeps_calls (w : World) (v : Value) (l : List Ac) (hv : ReadsE encA 13 w v l) (hok : ∀ x ∈ l, AcOk x) :
    Calls Try.prog 3 #[v] w fun e w' => e = .returned (.bool true) ∧ Below w.heap.size w w' := by
  obtain ⟨hm, p, cap0, ba, off, rfl, hp, hc⟩ := hv
  obtain ⟨n, hn⟩ : ∃ n, n = l.length := ⟨_, rfl⟩
  rw [← hn] at hp hm ⊢
  have HP := hid hp
  have HC := hid hc
  have HN := hid hn
  have HOK := hid hok
  have NW := hid (new_calls (fun _ => 0) 0 w)
  clear hp hc hn hok
  go_enter Try.func3, Try.ntmps3
  go_wp2_with fail
  refine NW.out.mono ?_
  rintro e w1 ⟨O1, b, G1, rfl, bd1, hG, hb1, hO1⟩
  have hO1 : ∀ k, k < w.heap.size → O1 k = 0 := hO1
  obtain ⟨w2, hw2⟩ : ∃ w2, w2 = w1.alloc (.cells #[.int .i64 0] 2) := ⟨_, rfl⟩
  have b2 : Below w1.heap.size w1 w2 := by rw [hw2]; exact (Below.refl _ w1).alloc (Nat.le_refl _) _
  have K0 := hid (show KpC w w2 b (grow O1 w1 0) G1 0 0 w1.heap.size 1 [0] [] by
    have st : Step (fun _ => False) O1 w1 (grow O1 w1 0) w2 := ⟨b2.os, b2.tape, b2.output, b2.size, fun k hk _ => ⟨b2.block k hk, grow_old hk⟩, fun _ _ h => h.elim⟩
    have c2 : Cells w2 w1.heap.size #[.int .i64 0] 2 := by rw [hw2]; exact Cells.new _ _ _
    refine ⟨bd1.step st (fun _ _ => not_false), ⟨rfl, .inr ⟨w1.heap.size, 1, _, rfl, Nat.zero_le _, c2, Nat.le_refl _, by unfold maxLen; omega, rfl, rfl⟩⟩, grow_new (Nat.le_refl _), rfl, by simp, fun n h1 h2 => by omega, fun n h1 h2 => by omega, hb1.trans (b2.mono hb1.size), fun k hk => by rw [grow_old (Nat.lt_of_lt_of_le hk hb1.size)]; exact hO1 k hk⟩)
  have HW2 := hid hw2
  have HB1 := hid hb1
  obtain ⟨g0, hg0⟩ : ∃ g0, g0 = w1.heap.size := ⟨_, rfl⟩
  have hgl : w.heap.size ≤ g0 := by rw [hg0]; exact hb1.size
  clear bd1 hG hb1 hO1 NW hw2 b2
  go_upto_block 0 with fail
  rw [← hg0] at K0
  go_cut [4] (fun s4 wx => ∃ O G N last g cap Q, s4 = .slice (some ⟨g, 0, none⟩) (N + 1) cap ∧ N ≤ 40 ∧ KpC w wx b O G N last g cap Q [])
  case first =>
    go_wp2_with fail
    go_loopg [4, 5] 40 (fun k s4 s5 wr => ∃ (i : Nat) (O : Nat → Nat) (G : Mm) (N : Nat) (last : Int) (g cap : Nat) (Q : List Int), i + k = 40 ∧ s5 = .int .i64 i ∧ s4 = .slice (some ⟨g, 0, none⟩) (N + 1) cap ∧ N ≤ i ∧ w.heap.size ≤ g ∧ KpC w wr b O G N last g cap Q [])
    case atStart => exact ⟨0, _, G1, 0, 0, g0, 1, [0], rfl, rfl, by rw [hg0], by omega, hgl, by rw [← HW2.out]; exact K0.out⟩
    case round =>
      obtain ⟨i, O, G, N, last, g, cap, Q, hik, rfl, rfl, hNi, hg, kp⟩ := hrel
      have KP := hid kp
      have HIK := hid hik
      clear kp hik
      by_cases hi : i < n
      · by_cases h40 : i < 40
        · have hil : i < l.length := by rw [← HN.out]; exact hi
          obtain ⟨hpp, hbl⟩ := HP.out (by omega)
          subst hpp
          obtain ⟨x, hx⟩ : ∃ x, x = l[i] := ⟨_, rfl⟩
          have key : ∀ j, j < 13 → wr.cell? ⟨ba, off + i * 13 + j, none⟩ = (encA x)[j]? := fun j hj => by rw [hx]; exact (KP.out.below.cell (p := ⟨ba, off + i * 13 + j, none⟩) hbl).trans (HC.out i hil j hj)
          have AOK := hid (HOK.out x (by rw [hx]; exact List.getElem_mem hil))
          have hbr := Nat.lt_of_lt_of_le hbl KP.out.below.size
          have c0 := key 0 (by omega)
          have c1 := key 1 (by omega)
          have c2 := key 2 (by omega)
          have c3 := key 3 (by omega)
          have c4 := key 4 (by omega)
          have c5 := key 5 (by omega)
          have c6 := key 6 (by omega)
          have c7 := key 7 (by omega)
          have c8 := key 8 (by omega)
          have c9 := key 9 (by omega)
          have c10 := key 10 (by omega)
          have c11 := key 11 (by omega)
          have c12 := key 12 (by omega)
          simp [encA] at c0 c1 c2 c3 c4 c5 c6 c7 c8 c9 c10 c11 c12
          have g1 : decide ((i : Int) < (n : Int)) = true := by simpa using hi
          have g2 : decide ((i : Int) < 40) = true := by simp; omega
          obtain ⟨r, hr1, hr2, hr3, hr4⟩ := kind_mod x.k
          obtain ⟨wa, hwa⟩ : ∃ wa, wa = wr.alloc (.cells (encA x).toArray 29) := ⟨_, rfl⟩
          have ba1 : Below wr.heap.size wr wa := by rw [hwa]; exact (Below.refl _ wr).alloc (Nat.le_refl _) _
          have cA : Cells wa wr.heap.size (encA x).toArray 29 := by rw [hwa]; exact Cells.new _ _ _
          have KPA := hid (KP.out.next ba1)
          have CA := hid cA
          have HWA := hid hwa
          unfold encA at HWA
          clear key hx ba1 cA hwa
          go_upto_if 39 with fail
          go_cut [4, 7] (fun s4 s7 wx => MidP w b i s4 s7 wx)
          case first =>
            by_cases h5 : r = 5
            · have e5 : (r == 5) = true := by simpa using h5
              have CN := hid ((cancel_calls KPA.out.bd x.n x.m AOK.out.2).mono fun e w' hc => mid_cancel KPA.out hNi hg hc)
              clear h5
              go_wp2_with fail
              rw [← HWA.out]
              refine CN.out.mono ?_
              rintro e w3 ⟨pv, nv, cv, er, rfl, hmid⟩
              have MID := hid hmid
              clear hmid
              go_wp2
              go_meet
              exact MID.out
            · have e5 : (r == 5) = false := by simpa using h5
              clear h5
              have TM := hid (tame_calls x.o AOK.out.1 wa)
              unfold Od.vals at TM
              go_wp2_with fail
              rw [← HWA.out]
              refine TM.out.mono ?_
              rintro e w3 ⟨rfl, hb3⟩
              obtain ⟨o, ho⟩ : ∃ o, o = tameO x.o := ⟨_, rfl⟩
              rw [← ho]
              have KP3 := KPA.out.next hb3
              obtain ⟨w4, hw4⟩ : ∃ w4, w4 = w3.alloc (.cells #[.int .i64 o.m, .int .i64 o.s, .int .i64 o.k, .int .i64 o.f, .int .i64 o.p, .int .i64 o.t, .int .i64 o.q, .int .i64 o.pk] 27) := ⟨_, rfl⟩
              have b4 : Below w3.heap.size w3 w4 := by rw [hw4]; exact (Below.refl _ w3).alloc (Nat.le_refl _) _
              have cO : Cells w4 w3.heap.size #[.int .i64 o.m, .int .i64 o.s, .int .i64 o.k, .int .i64 o.f, .int .i64 o.p, .int .i64 o.t, .int .i64 o.q, .int .i64 o.pk] 27 := by rw [hw4]; exact Cells.new _ _ _
              have KP4 := KP3.step (O' := grow O w3 0) b4 (fun k hk => grow_old hk)
              have h40' : N ≤ 40 := by omega
              have en := enter_calls KP4.bd o (by omega) (live_size (N := N) KP4.bd.ok (Int.le_refl _) (by omega))
              have HW4 := hid hw4
              have KP4' := hid KP4
              have CO := hid cO
              have HO := hid ho
              clear KP3 KP4 b4 cO hw4 ho
              by_cases hE : enterE (G.bd N last) o = 0
              · have EN := hid (en.mono fun e w5 hc => mid_yes KP4'.out hNi (by omega) hg hE CO.out hc)
                clear en hE
                have eN : ((N : Int) + 1 == (N : Int) + 1) = true := by simp
                go_wp2_with fail
                rw [← HW4.out]
                refine EN.out.mono ?_
                rintro e w5 ⟨pv, nv, cv, rfl, k6, kl, g', cap', w7, hrun, hmid⟩
                have MID := hid hmid
                have RUN := hid hrun
                clear hmid hrun
                go_wp2_with (at_builtin; refine wpList_append_run rfl (.tmp 67) (.tmp 70) 25 rfl _ _ (.slice (some ⟨g', 0, none⟩) (N + 1 + 1) cap') w7 rfl rfl RUN.out ?_)
                go_meet
                exact MID.out
              · have fin : ∀ e w5, EnterP (grow O w3 0) 0 w4 b G N last o e w5 → ∃ er, (er == 0) = false ∧ e = .returned (.tuple #[.int .i64 0, .slice none 0 0, .int .i64 er]) ∧ MidP w b i (.slice (some ⟨g, 0, none⟩) (N + 1) cap) (.slice none 0 0) w5 := by
                  rintro e w5 (⟨h1, h2, h3, h4⟩ | ⟨h1, _⟩)
                  · exact ⟨_, by simpa using h1, h2, mid_no KP4'.out hNi hg h3 h4⟩
                  · exact absurd h1 hE
                have EN := hid (en.mono fin)
                clear fin en hE
                go_wp2_with fail
                rw [← HW4.out]
                refine EN.out.mono ?_
                rintro e w5 ⟨er, her, rfl, hmid⟩
                have MID := hid hmid
                clear hmid
                go_wp2
                go_meet
                exact MID.out
          case rest =>
            obtain ⟨O2, G2, N2, l2, gg, cap2, Q2, evs, pv, cv, rfl, rfl, hN2, hgg, kp, hev, hne⟩ := hcut
            have KP2 := hid kp
            have HEV := hid hev
            have HNE := hid hne
            clear kp hev hne KP KPA CA HWA AOK c0 c1 c2 c3 c4 c5 c6 c7 c8 c9 c10 c11 c12 hr1 hr2 hr3 hr4
            obtain ⟨M, hM⟩ : ∃ M, M = evs.length := ⟨_, rfl⟩
            rw [← hM] at HEV HNE ⊢
            have HM := hid hM
            clear hM
            have hMl : M ≤ 9223372036854775807 := by
              rcases HEV.out.2 with ⟨e, _⟩ | ⟨_, _, _, e, _, _, h5, h6, _⟩
              · injection e with _ e _; omega
              · unfold maxLen at h6; rw [HM.out]; omega
            go_wp2_with fail
            go_loopg [12] M (fun k s12 wq => ∃ (a : Nat) (Qa : List Int), s12 = .int .i64 a ∧ a ≤ M ∧ k = M - a ∧ KpC w wq b O2 G2 N2 l2 gg cap2 Qa (evs.drop a) ∧ OwnE encEv 5 40 0 wq (.slice pv M cv) evs)
            case atStart => exact ⟨0, Q2, rfl, by omega, by omega, KP2.out, HEV.out⟩
            case round =>
              obtain ⟨a, Qa, rfl, ha, hk, kp, hev⟩ := hrel
              have HK := hid hk
              have KPa := hid kp
              have EVa := hid hev
              clear hk kp hev KP2 HEV
              by_cases haM : a < M
              · have hal : a < evs.length := by rw [← HM.out]; exact haM
                have hev0 := EVa.out
                rw [HM.out] at hev0
                obtain ⟨pv', cv', h, hvv, hp, hrow⟩ := evRow hev0
                injection hvv with e1 e2 e3
                obtain ⟨hp, hhl⟩ := hp (by omega)
                rw [hp] at e1
                subst e3
                clear e2 hp hev0
                obtain ⟨e, he⟩ : ∃ e, e = evs[a] := ⟨_, rfl⟩
                have hdrop : evs.drop a = e :: evs.drop (a + 1) := by rw [List.drop_eq_getElem_cons hal, he]
                have kp := KPa.out
                rw [hdrop] at kp
                have eok := kp.evok e (by simp)
                obtain ⟨⟨o1, o2⟩, ⟨x1, x2⟩, q1, q2, w1x⟩ := eok
                have d0 := hrow a hal 0 (by omega)
                have d1 := hrow a hal 1 (by omega)
                have d2 := hrow a hal 2 (by omega)
                have d3 := hrow a hal 3 (by omega)
                have d4 := hrow a hal 4 (by omega)
                rw [← he] at d0 d1 d2 d3 d4
                simp [encEv] at d0 d1 d2 d3 d4
                have hgh : h ≠ gg := by
                  have := (own_lt EVa.out (x := h) (by rw [e1]; rfl))
                  obtain ⟨cs, hcs⟩ := this
                  have r := kp.row
                  rw [← kp.len] at r
                  obtain ⟨cu, hcu, _⟩ := own_int r
                  exact hcs.ne hcu (by decide)
                subst e1
                have KPe := hid kp
                have HE := hid he
                have HW1X := hid w1x
                clear hdrop kp he hrow w1x
                have haI : (a : Int) < M := by omega
                have HNE2 := hid (show ∀ y, (Value.slice (some ⟨h, 0, none⟩) M cv).ownBlock = some y → ¬ y = gg from fun y hy e0 => by injection hy with hy; exact hgh (hy.trans e0))
                have hEgg : wr.heap.size ≠ gg := fun e0 => by have := KPa.out.row; rw [← KPa.out.len] at this; have := (own_int_get this 0 (by rw [KPa.out.len]; omega)).2.2; omega
                by_cases w1 : e.w = 1
                · have t1 : (e.w == 1) = true := by simpa using w1
                  have EQ := hid (show evQ Qa e = subQ (subQ Qa e.o e.q) e.x e.q by unfold evQ; rw [if_pos w1])
                  have ox := HW1X.out w1
                  clear w1
                  go_upto_region 27 with fail
                  obtain ⟨wE, hwE⟩ : ∃ wE, wE = wr.alloc (.cells #[.int .i64 e.w, .int .i64 e.o, .int .i64 e.x, .int .i64 e.p, .int .i64 e.q] 40) := ⟨_, rfl⟩
                  have bE : Below wr.heap.size wr wE := by rw [hwE]; exact (Below.refl _ wr).alloc (Nat.le_refl _) _
                  have cE : Cells wE wr.heap.size #[.int .i64 e.w, .int .i64 e.o, .int .i64 e.x, .int .i64 e.p, .int .i64 e.q] 40 := by rw [hwE]; exact Cells.new _ _ _
                  rw [← hwE]
                  have KPE := hid (KPe.out.next bE)
                  have EVE := hid (OwnE.below EVa.out bE)
                  have CE := hid cE
                  have f1 : wE.cell? ⟨wr.heap.size, 1, none⟩ = some (.int .i64 e.o) := by rw [cE.cell]; rfl
                  have f2 : wE.cell? ⟨wr.heap.size, 4, none⟩ = some (.int .i64 e.q) := by rw [cE.cell]; rfl
                  have fl := cE.lt
                  obtain ⟨z, hz⟩ : ∃ z, z = Qa.getD e.o.toNat 0 := ⟨_, rfl⟩
                  obtain ⟨r1, r2, r3⟩ := KPE.out.rowC.get (n := e.o) (by omega) o2
                  rw [← hz] at r1
                  obtain ⟨z1, z2, z3⟩ := KPE.out.bound e.o o1 o2
                  rw [← hz] at z1 z3
                  have HZ := hid hz
                  have hz0 : 0 ≤ z := by omega
                  clear hz hwE bE cE d0 d1 d2 d3 d4 z1 z2 hhl
                  go_cut [] (fun wx => RowC w wx b O2 G2 N2 l2 gg cap2 (subQ Qa e.o e.q) ∧ Kept (fun c => c = gg) wE wx)
                  case first =>
                    go_region
                    all_goals go_wp2
                    all_goals go_meet
                    all_goals (
                      have rp := (KPE.out.rowC.put (n := e.o) (by omega) o2 e.q hgg).drew
                      rw [← HZ.out] at rp
                      exact ⟨rp, ((Kept.refl (fun c => c = gg) wE).set (C := gg) rfl _ _).drew⟩)
                  case rest =>
                    obtain ⟨rc, kk⟩ := hcut
                    have cE2 := CE.out.kept kk hEgg
                    have RC := hid rc
                    have KK := hid kk
                    have h1 : wc.cell? ⟨wr.heap.size, 2, none⟩ = some (.int .i64 e.x) := by rw [cE2.cell]; rfl
                    have h2 : wc.cell? ⟨wr.heap.size, 4, none⟩ = some (.int .i64 e.q) := by rw [cE2.cell]; rfl
                    have h3 := cE2.lt
                    obtain ⟨y, hy⟩ : ∃ y, y = (subQ Qa e.o e.q).getD e.x.toNat 0 := ⟨_, rfl⟩
                    obtain ⟨r4, r5, r6⟩ := rc.get (n := e.x) (by omega) x2
                    rw [← hy] at r4
                    obtain ⟨y1, y2, y3⟩ := KPE.out.bound e.x ox x2
                    have hyb : -1000000000 ≤ y ∧ y ≤ 1000000000 := by
                      rw [hy, subQ_get (by omega) (by omega) (by rw [KPE.out.len]; omega)]
                      split <;> omega
                    obtain ⟨hyb1, hyb2⟩ := hyb
                    have HY := hid hy
                    have fin : ∀ wx, wx = (wc.setCell ⟨gg, e.x.toNat, none⟩ (.int .i64 (y - e.q))).drew → KpC w wx b O2 G2 N2 l2 gg cap2 (evQ Qa e) (evs.drop (a + 1)) ∧ OwnE encEv 5 40 0 wx (.slice (some ⟨h, 0, none⟩) M cv) evs := by
                      intro wx hwx
                      have rp := (RC.out.put (n := e.x) (by omega) x2 e.q hgg).drew
                      rw [← HY.out, ← hwx] at rp
                      have k2 : Kept (fun c => c = gg) wc wx := by rw [hwx]; exact ((Kept.refl (fun c => c = gg) wc).set (C := gg) rfl _ _).drew
                      exact ⟨KPE.out.book rp.bd (by have := rp.row; rw [← EQ.out] at this; exact this) rp.below, OwnE.kept (OwnE.kept EVE.out KK.out (fun y hy => HNE2.out y hy)) k2 (fun y hy => HNE2.out y hy)⟩
                    have FIN := hid fin
                    clear f1 f2 fl r1 r2 r3 hz0 z3 rc kk cE2 hy y1 y2 y3 fin
                    go_wp2
                    go_region
                    all_goals go_wp2
                    all_goals (
                      go_roundg (M - (a + 1))
                      · exact ⟨a + 1, _, by go_num, by omega, rfl, (FIN.out _ rfl).1, (FIN.out _ rfl).2⟩
                      · have := HK.out; omega)

                · have t1 : (e.w == 1) = false := by simpa using w1
                  by_cases w2 : e.w = 3 ∨ e.w = 4 ∨ e.w = 5 ∨ e.w = 6
                  · have EQ := hid (show evQ Qa e = subQ Qa e.o e.q by unfold evQ; rw [if_neg w1, if_pos w2])
                    have tt : ((e.w == 3) = true) ∨ ((e.w == 3) = false ∧ (e.w == 4) = true) ∨ ((e.w == 3) = false ∧ (e.w == 4) = false ∧ (e.w == 5) = true) ∨ ((e.w == 3) = false ∧ (e.w == 4) = false ∧ (e.w == 5) = false ∧ (e.w == 6) = true) := by
                      rcases w2 with e0 | e0 | e0 | e0 <;> simp [e0]
                    clear w1 w2
                    rcases tt with t3 | ⟨t3, t4⟩ | ⟨t3, t4, t5⟩ | ⟨t3, t4, t5, t6⟩
                    · go_upto_region 33 with fail
                      obtain ⟨wE, hwE⟩ : ∃ wE, wE = wr.alloc (.cells #[.int .i64 e.w, .int .i64 e.o, .int .i64 e.x, .int .i64 e.p, .int .i64 e.q] 40) := ⟨_, rfl⟩
                      have bE : Below wr.heap.size wr wE := by rw [hwE]; exact (Below.refl _ wr).alloc (Nat.le_refl _) _
                      have cE : Cells wE wr.heap.size #[.int .i64 e.w, .int .i64 e.o, .int .i64 e.x, .int .i64 e.p, .int .i64 e.q] 40 := by rw [hwE]; exact Cells.new _ _ _
                      rw [← hwE]
                      have KPE := hid (KPe.out.next bE)
                      have EVE := hid (OwnE.below EVa.out bE)
                      have CE := hid cE
                      have f1 : wE.cell? ⟨wr.heap.size, 1, none⟩ = some (.int .i64 e.o) := by rw [cE.cell]; rfl
                      have f2 : wE.cell? ⟨wr.heap.size, 4, none⟩ = some (.int .i64 e.q) := by rw [cE.cell]; rfl
                      have fl := cE.lt
                      obtain ⟨z, hz⟩ : ∃ z, z = Qa.getD e.o.toNat 0 := ⟨_, rfl⟩
                      obtain ⟨r1, r2, r3⟩ := KPE.out.rowC.get (n := e.o) (by omega) o2
                      rw [← hz] at r1
                      obtain ⟨z1, z2, z3⟩ := KPE.out.bound e.o o1 o2
                      rw [← hz] at z1 z3
                      have HZ := hid hz
                      have hz0 : 0 ≤ z := by omega
                      clear hz hwE bE cE d0 d1 d2 d3 d4 z1 z2 hhl
                      have fin : ∀ wx, wx = (wE.setCell ⟨gg, e.o.toNat, none⟩ (.int .i64 (z - e.q))).drew → KpC w wx b O2 G2 N2 l2 gg cap2 (evQ Qa e) (evs.drop (a + 1)) ∧ OwnE encEv 5 40 0 wx (.slice (some ⟨h, 0, none⟩) M cv) evs := by
                        intro wx hwx
                        have rp := (KPE.out.rowC.put (n := e.o) (by omega) o2 e.q hgg).drew
                        rw [← HZ.out, ← hwx] at rp
                        have kk : Kept (fun c => c = gg) wE wx := by rw [hwx]; exact ((Kept.refl (fun c => c = gg) wE).set (C := gg) rfl _ _).drew
                        exact ⟨KPE.out.book rp.bd (by have := rp.row; rw [← EQ.out] at this; exact this) rp.below, OwnE.kept EVE.out kk (fun y hy => HNE2.out y hy)⟩
                      have FIN := hid fin
                      clear fin
                      go_region
                      all_goals go_wp2
                      all_goals (
                        go_roundg (M - (a + 1))
                        · exact ⟨a + 1, _, by go_num, by omega, rfl, (FIN.out _ rfl).1, (FIN.out _ rfl).2⟩
                        · have := HK.out; omega)

                    · go_upto_region 33 with fail
                      obtain ⟨wE, hwE⟩ : ∃ wE, wE = wr.alloc (.cells #[.int .i64 e.w, .int .i64 e.o, .int .i64 e.x, .int .i64 e.p, .int .i64 e.q] 40) := ⟨_, rfl⟩
                      have bE : Below wr.heap.size wr wE := by rw [hwE]; exact (Below.refl _ wr).alloc (Nat.le_refl _) _
                      have cE : Cells wE wr.heap.size #[.int .i64 e.w, .int .i64 e.o, .int .i64 e.x, .int .i64 e.p, .int .i64 e.q] 40 := by rw [hwE]; exact Cells.new _ _ _
                      rw [← hwE]
                      have KPE := hid (KPe.out.next bE)
                      have EVE := hid (OwnE.below EVa.out bE)
                      have CE := hid cE
                      have f1 : wE.cell? ⟨wr.heap.size, 1, none⟩ = some (.int .i64 e.o) := by rw [cE.cell]; rfl
                      have f2 : wE.cell? ⟨wr.heap.size, 4, none⟩ = some (.int .i64 e.q) := by rw [cE.cell]; rfl
                      have fl := cE.lt
                      obtain ⟨z, hz⟩ : ∃ z, z = Qa.getD e.o.toNat 0 := ⟨_, rfl⟩
                      obtain ⟨r1, r2, r3⟩ := KPE.out.rowC.get (n := e.o) (by omega) o2
                      rw [← hz] at r1
                      obtain ⟨z1, z2, z3⟩ := KPE.out.bound e.o o1 o2
                      rw [← hz] at z1 z3
                      have HZ := hid hz
                      have hz0 : 0 ≤ z := by omega
                      clear hz hwE bE cE d0 d1 d2 d3 d4 z1 z2 hhl
                      have fin : ∀ wx, wx = (wE.setCell ⟨gg, e.o.toNat, none⟩ (.int .i64 (z - e.q))).drew → KpC w wx b O2 G2 N2 l2 gg cap2 (evQ Qa e) (evs.drop (a + 1)) ∧ OwnE encEv 5 40 0 wx (.slice (some ⟨h, 0, none⟩) M cv) evs := by
                        intro wx hwx
                        have rp := (KPE.out.rowC.put (n := e.o) (by omega) o2 e.q hgg).drew
                        rw [← HZ.out, ← hwx] at rp
                        have kk : Kept (fun c => c = gg) wE wx := by rw [hwx]; exact ((Kept.refl (fun c => c = gg) wE).set (C := gg) rfl _ _).drew
                        exact ⟨KPE.out.book rp.bd (by have := rp.row; rw [← EQ.out] at this; exact this) rp.below, OwnE.kept EVE.out kk (fun y hy => HNE2.out y hy)⟩
                      have FIN := hid fin
                      clear fin
                      go_region
                      all_goals go_wp2
                      all_goals (
                        go_roundg (M - (a + 1))
                        · exact ⟨a + 1, _, by go_num, by omega, rfl, (FIN.out _ rfl).1, (FIN.out _ rfl).2⟩
                        · have := HK.out; omega)

                    · go_upto_region 33 with fail
                      obtain ⟨wE, hwE⟩ : ∃ wE, wE = wr.alloc (.cells #[.int .i64 e.w, .int .i64 e.o, .int .i64 e.x, .int .i64 e.p, .int .i64 e.q] 40) := ⟨_, rfl⟩
                      have bE : Below wr.heap.size wr wE := by rw [hwE]; exact (Below.refl _ wr).alloc (Nat.le_refl _) _
                      have cE : Cells wE wr.heap.size #[.int .i64 e.w, .int .i64 e.o, .int .i64 e.x, .int .i64 e.p, .int .i64 e.q] 40 := by rw [hwE]; exact Cells.new _ _ _
                      rw [← hwE]
                      have KPE := hid (KPe.out.next bE)
                      have EVE := hid (OwnE.below EVa.out bE)
                      have CE := hid cE
                      have f1 : wE.cell? ⟨wr.heap.size, 1, none⟩ = some (.int .i64 e.o) := by rw [cE.cell]; rfl
                      have f2 : wE.cell? ⟨wr.heap.size, 4, none⟩ = some (.int .i64 e.q) := by rw [cE.cell]; rfl
                      have fl := cE.lt
                      obtain ⟨z, hz⟩ : ∃ z, z = Qa.getD e.o.toNat 0 := ⟨_, rfl⟩
                      obtain ⟨r1, r2, r3⟩ := KPE.out.rowC.get (n := e.o) (by omega) o2
                      rw [← hz] at r1
                      obtain ⟨z1, z2, z3⟩ := KPE.out.bound e.o o1 o2
                      rw [← hz] at z1 z3
                      have HZ := hid hz
                      have hz0 : 0 ≤ z := by omega
                      clear hz hwE bE cE d0 d1 d2 d3 d4 z1 z2 hhl
                      have fin : ∀ wx, wx = (wE.setCell ⟨gg, e.o.toNat, none⟩ (.int .i64 (z - e.q))).drew → KpC w wx b O2 G2 N2 l2 gg cap2 (evQ Qa e) (evs.drop (a + 1)) ∧ OwnE encEv 5 40 0 wx (.slice (some ⟨h, 0, none⟩) M cv) evs := by
                        intro wx hwx
                        have rp := (KPE.out.rowC.put (n := e.o) (by omega) o2 e.q hgg).drew
                        rw [← HZ.out, ← hwx] at rp
                        have kk : Kept (fun c => c = gg) wE wx := by rw [hwx]; exact ((Kept.refl (fun c => c = gg) wE).set (C := gg) rfl _ _).drew
                        exact ⟨KPE.out.book rp.bd (by have := rp.row; rw [← EQ.out] at this; exact this) rp.below, OwnE.kept EVE.out kk (fun y hy => HNE2.out y hy)⟩
                      have FIN := hid fin
                      clear fin
                      go_region
                      all_goals go_wp2
                      all_goals (
                        go_roundg (M - (a + 1))
                        · exact ⟨a + 1, _, by go_num, by omega, rfl, (FIN.out _ rfl).1, (FIN.out _ rfl).2⟩
                        · have := HK.out; omega)

                    · go_upto_region 33 with fail
                      obtain ⟨wE, hwE⟩ : ∃ wE, wE = wr.alloc (.cells #[.int .i64 e.w, .int .i64 e.o, .int .i64 e.x, .int .i64 e.p, .int .i64 e.q] 40) := ⟨_, rfl⟩
                      have bE : Below wr.heap.size wr wE := by rw [hwE]; exact (Below.refl _ wr).alloc (Nat.le_refl _) _
                      have cE : Cells wE wr.heap.size #[.int .i64 e.w, .int .i64 e.o, .int .i64 e.x, .int .i64 e.p, .int .i64 e.q] 40 := by rw [hwE]; exact Cells.new _ _ _
                      rw [← hwE]
                      have KPE := hid (KPe.out.next bE)
                      have EVE := hid (OwnE.below EVa.out bE)
                      have CE := hid cE
                      have f1 : wE.cell? ⟨wr.heap.size, 1, none⟩ = some (.int .i64 e.o) := by rw [cE.cell]; rfl
                      have f2 : wE.cell? ⟨wr.heap.size, 4, none⟩ = some (.int .i64 e.q) := by rw [cE.cell]; rfl
                      have fl := cE.lt
                      obtain ⟨z, hz⟩ : ∃ z, z = Qa.getD e.o.toNat 0 := ⟨_, rfl⟩
                      obtain ⟨r1, r2, r3⟩ := KPE.out.rowC.get (n := e.o) (by omega) o2
                      rw [← hz] at r1
                      obtain ⟨z1, z2, z3⟩ := KPE.out.bound e.o o1 o2
                      rw [← hz] at z1 z3
                      have HZ := hid hz
                      have hz0 : 0 ≤ z := by omega
                      clear hz hwE bE cE d0 d1 d2 d3 d4 z1 z2 hhl
                      have fin : ∀ wx, wx = (wE.setCell ⟨gg, e.o.toNat, none⟩ (.int .i64 (z - e.q))).drew → KpC w wx b O2 G2 N2 l2 gg cap2 (evQ Qa e) (evs.drop (a + 1)) ∧ OwnE encEv 5 40 0 wx (.slice (some ⟨h, 0, none⟩) M cv) evs := by
                        intro wx hwx
                        have rp := (KPE.out.rowC.put (n := e.o) (by omega) o2 e.q hgg).drew
                        rw [← HZ.out, ← hwx] at rp
                        have kk : Kept (fun c => c = gg) wE wx := by rw [hwx]; exact ((Kept.refl (fun c => c = gg) wE).set (C := gg) rfl _ _).drew
                        exact ⟨KPE.out.book rp.bd (by have := rp.row; rw [← EQ.out] at this; exact this) rp.below, OwnE.kept EVE.out kk (fun y hy => HNE2.out y hy)⟩
                      have FIN := hid fin
                      clear fin
                      go_region
                      all_goals go_wp2
                      all_goals (
                        go_roundg (M - (a + 1))
                        · exact ⟨a + 1, _, by go_num, by omega, rfl, (FIN.out _ rfl).1, (FIN.out _ rfl).2⟩
                        · have := HK.out; omega)


                  · have EQ := hid (show evQ Qa e = Qa by unfold evQ; rw [if_neg w1, if_neg w2])
                    have t3 : (e.w == 3) = false := by simp; omega
                    have t4 : (e.w == 4) = false := by simp; omega
                    have t5 : (e.w == 5) = false := by simp; omega
                    have t6 : (e.w == 6) = false := by simp; omega
                    clear w1 w2
                    have KB := hid (fun wE (bE : Below wr.heap.size wr wE) => (show KpC w wE b O2 G2 N2 l2 gg cap2 (evQ Qa e) (evs.drop (a + 1)) from (KPe.out.next bE).book (KPe.out.next bE).bd (by have := (KPe.out.next bE).row; rw [← EQ.out] at this; exact this) (KPe.out.next bE).below))
                    have EV2 := hid (fun wE (bE : Below wr.heap.size wr wE) => OwnE.below EVa.out bE)
                    go_wp2
                    go_roundg (M - (a + 1))
                    · exact ⟨a + 1, _, by go_num, by omega, rfl, KB.out _ (Below.alloc (Below.refl _ _) (Nat.le_refl _) _), EV2.out _ (Below.alloc (Below.refl _ _) (Nat.le_refl _) _)⟩
                    · have := HK.out; omega

              · have haM2 : a = M := by omega
                have kp := KPa.out
                rw [haM2, HM.out, List.drop_length] at kp
                have KF := hid kp
                clear kp haM2
                go_wp2
                go_roundg (40 - (i + 1))
                · exact ⟨i + 1, O2, G2, N2, l2, gg, cap2, Qa, by omega, by go_num, rfl, by omega, hgg, KF.out⟩
                · have := HIK.out; omega
        · go_wp2
          go_meet
          exact ⟨O, G, N, last, g, cap, Q, rfl, by have := HIK.out; omega, KP.out⟩
      · go_wp2
        go_meet
        exact ⟨O, G, N, last, g, cap, Q, rfl, by have := HIK.out; omega, KP.out⟩
  case rest =>
    obtain ⟨O, G, N, last, g, cap, Q, rfl, hN40, kp⟩ := hcut
    have KPF := hid kp
    clear kp K0 HW2 HB1 HP HC HN HOK hgl hg0
    go_wp2_with fail
    go_loopg [14] N (fun k s14 wr => ∃ a : Nat, s14 = .int .i64 a ∧ 1 ≤ a ∧ a ≤ N + 1 ∧ k = N + 1 - a ∧ KpC w wr b O G N last g cap Q [])
    case atStart => exact ⟨1, rfl, by omega, by omega, by omega, KPF.out⟩
    case round =>
      obtain ⟨a, rfl, ha1, ha2, hk, kp⟩ := hrel
      have HK := hid hk
      have KP := hid kp
      clear hk kp KPF
      by_cases haN : a < N + 1
      · have gt := get_calls KP.out.bd a (WalkArith.wf_i64 (by omega))
        have hbd := KP.out.bd
        have hs := KP.out.sums a (by omega) (by omega)
        simp only [takes, Int.sub_zero, Int.toNat_natCast] at hs
        have row := KP.out.row
        rw [← KP.out.len] at row
        obtain ⟨k1, _, k3⟩ := own_int_get row a (by rw [KP.out.len]; omega)
        have fin : ∀ e w', GetP wr G a e w' → Below wr.heap.size wr w' ∧ ((∃ o lf h wts, e = .returned (.tuple #[statA o lf h wts, .int .i64 0]) ∧ wr.cell? ⟨g, a, none⟩ = some (.int .i64 lf)) ∨ (e = .returned (.tuple #[statA od0 0 0 false, .int .i64 4]) ∧ wr.cell? ⟨g, a, none⟩ = some (.int .i64 0))) := by
          rintro e w' ⟨hb, ⟨E, hE, hEn, wts, he⟩ | ⟨hno, he⟩⟩
          · refine ⟨hb, .inl ⟨_, _, _, wts, he, ?_⟩⟩
            have hmem : G.en E ∈ (G.bd N last).live := by rw [Mm.bd_live]; exact List.mem_map.2 ⟨E, hE, rfl⟩
            have := sumL_one hbd.ok.once hmem
            rw [hEn, ← hs] at this
            rw [k1, this]
          · refine ⟨hb, .inr ⟨he, ?_⟩⟩
            have := sumL_none (n := a) (l := (G.bd N last).live) (by rw [Mm.bd_live]; intro h; apply hno; simpa [numsL] using h)
            rw [← hs] at this
            rw [k1, this]
        have GT := hid (gt.mono fin)
        have haI : (a : Int) < (N : Int) + 1 := by omega
        clear gt hbd hs row k1 fin
        go_wp2_with fail
        refine GT.out.mono ?_
        rintro e w3 ⟨hb3, ⟨o, lf, h, wts, rfl, kq⟩ | ⟨rfl, kq⟩⟩
        · have kq3 : w3.cell? ⟨g, a, none⟩ = some (.int .i64 lf) := by rw [hb3.cell (p := ⟨g, a, none⟩) k3]; exact kq
          have k33 := Nat.lt_of_lt_of_le k3 hb3.size
          have B3 := hid hb3
          unfold statA
          clear hb3 kq k3
          go_wp2
          go_quiet (fail)
          go_wp2
          have KN := hid (fun wx (hbx : Below w3.heap.size w3 wx) => KP.out.next (B3.out.trans (hbx.mono B3.out.size)))
          go_roundg (N + 1 - (a + 1))
          · exact ⟨a + 1, by go_num, by omega, by omega, by omega, KN.out _ (drewN_below (Below.alloc (Below.refl _ _) (Nat.le_refl _) _) _)⟩
          · have := HK.out; omega
        · have kq3 : w3.cell? ⟨g, a, none⟩ = some (.int .i64 0) := by rw [hb3.cell (p := ⟨g, a, none⟩) k3]; exact kq
          have k33 := Nat.lt_of_lt_of_le k3 hb3.size
          have B3 := hid hb3
          unfold statA od0
          clear hb3 kq k3
          go_wp2
          go_quiet (fail)
          go_wp2
          have KN := hid (fun wx (hbx : Below w3.heap.size w3 wx) => KP.out.next (B3.out.trans (hbx.mono B3.out.size)))
          go_roundg (N + 1 - (a + 1))
          · exact ⟨a + 1, by go_num, by omega, by omega, by omega, KN.out _ (drewN_below (Below.alloc (Below.refl _ _) (Nat.le_refl _) _) _)⟩
          · have := HK.out; omega
      · have AW := hid (awake_calls wr)
        have BL := hid KP.out.below
        clear KP
        go_wp2_with fail
        refine AW.out.mono ?_
        rintro e w9 ⟨rfl, hb9⟩
        have B9 := hid (BL.out.trans (hb9.mono BL.out.size))
        clear hb9
        go_wp2
        first | exact ⟨rfl, B9.out⟩ | (go_ret; exact ⟨rfl, B9.out⟩)
end Go.Proofs.Ytdjhpldiifdifaa
