/- BoardCrossed: the walk. -/
import Derived.BigQuiet
import Derived.Deep.DeepCutAuto
import Derived.Test.YtdjhpldiifdifaaJOrd
import Derived.Test.YtdjhpldiifdifaaJOpen
import Derived.Test.YtdjhpldiifdifaaJAwk
namespace Go.Proofs.Ytdjhpldiifdifaa
set_option linter.unusedSimpArgs false
set_option linter.unusedVariables false
open Go.RowKit Go.Shelf
attribute [local go_sem] Oper.semAt_some
attribute [local go_sem ↓] Go.wp_at_zero Go.wp_at_succ

theorem qty_mod (k : Int) : ∃ r : Int, (IntKind.u64.wrap k).tmod 300 = r ∧ IntKind.u64.wrap r = r ∧ IntKind.i64.wrap r = r ∧ IntKind.i64.wrap (1 + r) = 1 + r ∧ 0 ≤ r ∧ r < 300 := by
  have h := u64_nonneg k
  have h2 : 0 ≤ (IntKind.u64.wrap k).tmod 300 ∧ (IntKind.u64.wrap k).tmod 300 < 300 := by
    rw [Int.tmod_eq_emod_of_nonneg h]; omega
  exact ⟨_, rfl, IntWalk.u64_in _ (by omega), IntWalk.i64_in _ (by omega), IntWalk.i64_in _ (by omega), by omega⟩

set_option maxRecDepth 100000 in
set_option maxHeartbeats 20000000 in
theorem cross_calls (w : World) (v : Value) (l : List Ac) (hv : ReadsE encA 13 w v l) (hok : ∀ x ∈ l, AcOk x) :
    Calls Try.prog 7 #[v] w fun e w' => e = .returned (.bool true) ∧ Below w.heap.size w w' := by
  obtain ⟨hm, p, cap0, ba, off, rfl, hp, hc⟩ := hv
  obtain ⟨n, hn⟩ : ∃ n, n = l.length := ⟨_, rfl⟩
  rw [← hn] at hp hm ⊢
  have HP := hid hp
  have HC := hid hc
  have HN := hid hn
  have HOK := hid hok
  have NW := hid (new_calls (fun _ => 0) 0 w)
  clear hp hc hn hok
  obtain ⟨R, hR⟩ : ∃ R : Ending → World → Prop, R = fun e w' => e = .returned (.bool true) ∧ Below w.heap.size w w' := ⟨_, rfl⟩
  have FIN := hid (show ∀ w', Below w.heap.size w w' → R (.returned (.bool true)) w' by intro w' h; rw [hR]; exact ⟨rfl, h⟩)
  rw [← hR]
  clear hR
  go_enter Try.func7, Try.ntmps7
  go_wp2_with fail
  refine NW.out.mono ?_
  rintro e w1 ⟨O1, b, G1, rfl, bd1, hG, hb1, hO1⟩
  have hO1 : ∀ k, k < w.heap.size → O1 k = 0 := hO1
  have K0 := hid (show CrC w w1 b O1 G1 0 0 from ⟨bd1, (by intro a ha; have e : G1.bd ((0 : Nat) : Int) 0 = ⟨[], [], [], 0, 0⟩ := hG; rw [e] at ha; cases ha), hb1, hO1⟩)
  clear bd1 hG hb1 hO1 NW
  go_upto_block 0 with fail
  go_cut [] (fun wx => Below w.heap.size w wx)
  case first =>
    go_wp2_with fail
    go_loopg [4, 5] 40 (fun k s4 s5 wr => ∃ (i : Nat) (O : Nat → Nat) (G : Mm) (N : Nat) (last : Int), i + k = 40 ∧ s5 = .int .i64 i ∧ s4 = .int .i64 N ∧ N ≤ i ∧ CrC w wr b O G N last)
    case atStart => exact ⟨0, _, G1, 0, 0, rfl, rfl, rfl, by omega, K0.out⟩
    case round =>
      obtain ⟨i, O, G, N, last, hik, rfl, rfl, hNi, kp⟩ := hrel
      have KP := hid kp
      have HIK := hid hik
      clear kp hik K0
      by_cases hi : i < n
      · by_cases h40 : i < 40
        · have hil : i < l.length := by rw [← HN.out]; exact hi
          obtain ⟨hpp, hbl⟩ := HP.out (by omega)
          subst hpp
          obtain ⟨x, hx⟩ : ∃ x, x = l[i] := ⟨_, rfl⟩
          have key : ∀ j, j < 13 → wr.cell? ⟨ba, off + i * 13 + j, none⟩ = (encA x)[j]? := fun j hj => by rw [hx]; exact (KP.out.below.cell (p := ⟨ba, off + i * 13 + j, none⟩) hbl).trans (HC.out i hil j hj)
          have AOK := hid (HOK.out x (by rw [hx]; exact List.getElem_mem hil))
          have hbr := Nat.lt_of_lt_of_le hbl KP.out.below.size
          have c0 : wr.cell? ⟨ba, off + i * 13, none⟩ = some (.int .i64 x.k) := key 0 (by omega)
          have c1 : wr.cell? ⟨ba, off + i * 13 + 1, none⟩ = some (.int .i64 x.o.m) := key 1 (by omega)
          have c2 : wr.cell? ⟨ba, off + i * 13 + 2, none⟩ = some (.int .i64 x.o.s) := key 2 (by omega)
          have c3 : wr.cell? ⟨ba, off + i * 13 + 3, none⟩ = some (.int .i64 x.o.k) := key 3 (by omega)
          have c4 : wr.cell? ⟨ba, off + i * 13 + 4, none⟩ = some (.int .i64 x.o.f) := key 4 (by omega)
          have c5 : wr.cell? ⟨ba, off + i * 13 + 5, none⟩ = some (.int .i64 x.o.p) := key 5 (by omega)
          have c6 : wr.cell? ⟨ba, off + i * 13 + 6, none⟩ = some (.int .i64 x.o.t) := key 6 (by omega)
          have c7 : wr.cell? ⟨ba, off + i * 13 + 7, none⟩ = some (.int .i64 x.o.q) := key 7 (by omega)
          have c8 : wr.cell? ⟨ba, off + i * 13 + 8, none⟩ = some (.int .i64 x.o.pk) := key 8 (by omega)
          have c9 : wr.cell? ⟨ba, off + i * 13 + 9, none⟩ = some (.int .i64 x.n) := key 9 (by omega)
          have c10 : wr.cell? ⟨ba, off + i * 13 + 10, none⟩ = some (.int .i64 x.m) := key 10 (by omega)
          have c11 : wr.cell? ⟨ba, off + i * 13 + 11, none⟩ = some (.int .i64 x.p) := key 11 (by omega)
          have c12 : wr.cell? ⟨ba, off + i * 13 + 12, none⟩ = some (.int .i64 x.q) := key 12 (by omega)
          have g1 : decide ((i : Int) < (n : Int)) = true := by simpa using hi
          have g2 : decide ((i : Int) < 40) = true := by simp; omega
          obtain ⟨r, hr1, hr2, hr3, hr4⟩ := kind_mod x.k
          obtain ⟨qr, hq1, hq2, hq3, hq4, hq5, hq6⟩ := qty_mod x.q
          obtain ⟨wa, hwa⟩ : ∃ wa, wa = wr.alloc (.cells (encA x).toArray 29) := ⟨_, rfl⟩
          have ba1 : Below wr.heap.size wr wa := by rw [hwa]; exact (Below.refl _ wr).alloc (Nat.le_refl _) _
          have cA : Cells wa wr.heap.size (encA x).toArray 29 := by rw [hwa]; exact Cells.new _ _ _
          have KPA := hid (KP.out.next ba1)
          have CA := hid cA
          have HWA := hid hwa
          unfold encA at HWA
          clear key hx ba1 cA hwa
          go_upto_block 2 with fail
          go_cut [4] (fun s4 wx => MidX w b i s4 wx)
          case first =>
            --{A
            by_cases h5 : r = 5
            · have e5 : (r == 5) = true := by simpa using h5
              have CN := hid ((cancel_calls KPA.out.bd x.n x.m AOK.out.2).mono fun e w' hc => midx_cancel KPA.out hNi hc)
              clear h5
              go_wp2_with fail
              rw [← HWA.out]
              refine CN.out.mono ?_
              rintro e w3 ⟨vv, er, rfl, hmid⟩
              have MID := hid hmid
              clear hmid
              go_wp2
              go_meet
              exact MID.out
            · have e5 : (r == 5) = false := by simpa using h5
              clear h5
              by_cases h6 : r = 6
              · have e6 : (r == 6) = true := by simpa using h6
                clear h6
                have AM := hid ((amend_calls KPA.out.bd x.n x.m x.p (1 + qr) AOK.out.2 (live_size (N := N) KPA.out.bd.ok (Int.le_refl _) (by omega))).mono fun e w' hc => midx_amend KPA.out hNi hc)
                go_wp2_with fail
                rw [← HWA.out]
                refine AM.out.mono ?_
                rintro e w3 ⟨vv, er, rfl, hmid⟩
                have MID := hid hmid
                clear hmid
                go_wp2
                go_meet
                exact MID.out
              · have e6 : (r == 6) = false := by simpa using h6
                clear h6
                by_cases h7 : r = 7
                · have e7 : (r == 7) = true := by simpa using h7
                  clear h7
                  have AM := hid ((amend_calls KPA.out.bd x.n x.m x.p (1 + qr) AOK.out.2 (live_size (N := N) KPA.out.bd.ok (Int.le_refl _) (by omega))).mono fun e w' hc => midx_amend KPA.out hNi hc)
                  go_wp2_with fail
                  rw [← HWA.out]
                  refine AM.out.mono ?_
                  rintro e w3 ⟨vv, er, rfl, hmid⟩
                  have MID := hid hmid
                  clear hmid
                  go_wp2
                  go_meet
                  exact MID.out
                · have e7 : (r == 7) = false := by simpa using h7
                  clear h7
                  have TM := hid (tame_calls x.o AOK.out.1 wa)
                  unfold Od.vals at TM
                  go_wp2_with fail
                  rw [← HWA.out]
                  refine TM.out.mono ?_
                  rintro e w3 ⟨rfl, hb3⟩
                  obtain ⟨o, ho⟩ : ∃ o, o = tameO x.o := ⟨_, rfl⟩
                  rw [← ho]
                  have KP3 := hid (KPA.out.next hb3)
                  have EN := hid ((enter_calls KP3.out.bd o (by omega) (live_size (N := N) KP3.out.bd.ok (Int.le_refl _) (by omega))).mono fun e w' hc => midx_enter KP3.out hNi (by omega) hc)
                  unfold Od.vals at EN
                  clear ho
                  go_wp2_with fail
                  refine EN.out.mono ?_
                  rintro e w5 (⟨hE, rfl, hmid⟩ | ⟨hE, vv, rfl, hmid⟩)
                  · obtain ⟨er, her⟩ : ∃ er, er = enterE (G.bd N last) o := ⟨_, rfl⟩
                    rw [← her] at hE ⊢
                    have hz : (er == 0) = false := by simpa using hE
                    have hz2 : (er != 0) = true := by simpa using hE
                    have MID := hid hmid
                    clear hmid hE her
                    go_wp2
                    go_meet
                    exact MID.out
                  · have MID := hid hmid
                    have eN : ((N : Int) + 1 != (N : Int) + 1) = false := by simp
                    clear hmid hE
                    go_wp2
                    go_meet
                    rw [show max (N : Int) ((N : Int) + 1) = (N : Int) + 1 by omega]
                    exact MID.out
            --}A
          case rest =>
            --{B
            clear KP KPA CA HWA AOK c0 c1 c2 c3 c4 c5 c6 c7 c8 c9 c10 c11 c12 hr1 hr2 hr3 hr4
            obtain ⟨O2, G2, N2, l2, rfl, hN2, kp⟩ := hcut
            have KP2 := hid kp
            have B1 := hid (best_side kp.bd (s := 1) (.inl rfl))
            obtain ⟨⟨pa, sa, oa⟩, ha⟩ : ∃ z, z = bestF ((G2.bd N2 l2).half 1) := ⟨_, rfl⟩
            obtain ⟨⟨pb, sb, ob⟩, hb⟩ : ∃ z, z = bestF ((G2.bd N2 l2).half 2) := ⟨_, rfl⟩
            have BX := hid (show BestX (pa, sa, oa) (pb, sb, ob) by rw [ha, hb]; exact best_x kp.bd.ok kp.nox)
            rw [← ha] at B1
            have HB := hid hb
            clear kp ha hb
            go_wp2_with fail
            refine B1.out.mono ?_
            rintro e w3 ⟨rfl, hb3⟩
            have KP3 := hid (KP2.out.next hb3)
            have B2 := hid (best_side KP3.out.bd (s := 2) (.inr rfl))
            rw [← HB.out] at B2
            clear hb3
            go_wp2_with fail
            refine B2.out.mono ?_
            rintro e w4 ⟨rfl, hb4⟩
            have KP4 := hid (KP3.out.next hb4)
            have OR := hid (orders_calls KP4.out.bd)
            clear hb4 B1 B2 HB
            go_upto_region 21 with fail
            go_cut [126] (fun s126 wx => s126 = .bool false ∧ wx = w4)
            case first =>
              obtain ⟨q1, q2, q3⟩ := BX.out
              simp only at q1 q2 q3
              cases oa <;> cases ob
              · go_wp2
                go_meet
                exact ⟨rfl, rfl⟩
              · have z2 : decide (sb < 1) = false := by have := q2 rfl; simp; omega
                go_wp2
                go_meet
                exact ⟨rfl, rfl⟩
              · have z1 : decide (sa < 1) = false := by have := q1 rfl; simp; omega
                go_wp2
                go_meet
                exact ⟨rfl, rfl⟩
              · have z1 : decide (sa < 1) = false := by have := q1 rfl; simp; omega
                have z2 : decide (sb < 1) = false := by have := q2 rfl; simp; omega
                have z3 : decide (pb ≤ pa) = false := by have := q3 rfl rfl; simp; omega
                clear q1 q2 q3
                go_wp2
                go_meet
                exact ⟨rfl, rfl⟩
            case rest =>
              obtain ⟨rfl, rfl⟩ := hcut
              clear BX KP2 KP3
              go_wp2_with fail
              refine OR.out.mono ?_
              rintro e w5 ⟨u, T, rfl, hrow, hT, hb5⟩
              have KP5 := hid (KP4.out.next hb5)
              obtain ⟨ht1, ht2⟩ := risen_bd KP4.out hT
              obtain ⟨hml, p5, cap5, b5, off5, rfl, hp5, hc5⟩ := OwnE.reads (enc := encI) (sz := 1) (l := T) (fun _ => rfl) hrow (by omega)
              obtain ⟨M, hM⟩ : ∃ M, M = T.length := ⟨_, rfl⟩
              rw [← hM] at hp5 ht2 ⊢
              have HM := hid hM
              have HP5 := hid hp5
              have HC5 := hid hc5
              have HT1 := hid ht1
              have HRISE := hid hT.rise
              clear hM hp5 hc5 ht1 hT hrow hb5 OR KP4 hml
              go_wp2_with fail
              go_loopg [17] M (fun k s17 wq => ∃ (a m : Nat), s17 = .int .i64 a ∧ a ≤ M ∧ k = M - a ∧ wq = w5.drewN m)
              case atStart => exact ⟨0, 0, rfl, by omega, by omega, rfl⟩
              case round =>
                obtain ⟨a, m, rfl, ha, hk, rfl⟩ := hrel
                have HK := hid hk
                clear hk
                by_cases haM : a < M
                · have hal : a < T.length := by rw [← HM.out]; exact haM
                  obtain ⟨hpp5, hbl5⟩ := HP5.out (by omega)
                  subst hpp5
                  have cy := HC5.out a hal 0 (by omega)
                  obtain ⟨y, hy⟩ : ∃ y, y = T[a] := ⟨_, rfl⟩
                  obtain ⟨y1, y2⟩ := HT1.out y (by rw [hy]; exact List.getElem_mem hal)
                  rw [← hy] at cy
                  simp at cy
                  have haI : (a : Int) < (M : Int) := by omega
                  have gi4 : (0 : Int) ≤ (a : Int) := by omega
                  have z1 : decide (y < 1) = false := by simp; omega
                  have z2 : decide ((N2 : Int) < y) = false := by simp; omega
                  by_cases ha0 : a = 0
                  · subst ha0
                    simp at cy
                    clear hy y1 y2
                    go_wp2
                    go_big_quiet (fail)
                    go_wp2
                    go_roundg (M - (0 + 1))
                    · exact ⟨1, _, by go_num, by omega, by omega, rfl⟩
                    · have := HK.out; omega
                  · obtain ⟨c, rfl⟩ : ∃ c, a = c + 1 := ⟨a - 1, by omega⟩
                    have hcl : c < T.length := by omega
                    have cz := HC5.out c hcl 0 (by omega)
                    obtain ⟨z, hz⟩ : ∃ z, z = T[c] := ⟨_, rfl⟩
                    rw [← hz] at cz
                    simp at cz
                    have hzy : z < y := by
                      rw [hz, hy]
                      exact (List.pairwise_iff_getElem.1 HRISE.out) c (c + 1) hcl hal (by omega)
                    have z3 : decide (y ≤ z) = false := by simp; omega
                    have z4 : decide ((0 : Int) < ((c + 1 : Nat) : Int)) = true := decide_eq_true (by omega)
                    have gi5 : (0 : Int) ≤ (c : Int) := by omega
                    have gi6 : (c : Int) < (M : Int) := by omega
                    clear hy hz y1 y2 hzy ha0
                    go_wp2
                    go_big_quiet (fail)
                    go_wp2
                    go_roundg (M - (c + 1 + 1))
                    · exact ⟨c + 1 + 1, _, by go_num, by omega, by omega, rfl⟩
                    · have := HK.out; omega
                · have haM2 : a = M := by omega
                  subst haM2
                  have g3 : decide ((a : Int) < (a : Int)) = false := by simp
                  have KN := hid (KP5.out.next (Below.of_drewN w5 m))
                  go_wp2
                  go_roundg (40 - (i + 1))
                  · exact ⟨i + 1, O2, G2, N2, l2, by omega, by go_num, rfl, hN2, KN.out⟩
                  · have := HIK.out; omega
            --}B
        · go_wp2
          go_meet
          exact KP.out.below
      · go_wp2
        go_meet
        exact KP.out.below
  case rest =>
    have hb8 : Below w.heap.size w wc := hcut
    have AW := hid (awake_calls wc)
    have BL := hid hb8
    clear hb8 hcut
    go_wp2_with fail
    refine AW.out.mono ?_
    rintro e w9 ⟨rfl, hb9⟩
    have B9 := hid (BL.out.trans (hb9.mono BL.out.size))
    clear hb9
    go_wp2
    first | exact FIN.out _ B9.out | (go_ret; exact FIN.out _ B9.out)
end Go.Proofs.Ytdjhpldiifdifaa
