/- The reference's Enter: walked. The reference's Cancel: walked. -/
import Derived.Test.YtdjhpldiifdifaaJRm5
import Derived.Test.YtdjhpldiifdifaaJRs2
namespace Go.Proofs.Ytdjhpldiifdifaa
set_option linter.unusedSimpArgs false
set_option linter.unusedVariables false
open Go.RowKit Go.Shelf
attribute [local go_sem] Oper.semAt_some
attribute [local go_sem ↓] Go.wp_at_zero Go.wp_at_succ

set_option maxRecDepth 100000 in
set_option maxHeartbeats 20000000 in
theorem enter_rcalls (w : World) {v : Value} {x : Rb} (hv : RowR 0 w v x.L) {S : Bd} (hS : BdOk S) (hR : Rel S x) (hN : S.nums < 1000000) (o : Od) (ht : x.turn ≤ 100000000000000) (hlen : x.L.length ≤ 4096) (hsz : sizeL S.live ≤ 100000000000) :
    Calls Try.prog 60 #[rbV v x.nums x.turn x.paid, .agg o.vals] w (EnterR w S x o) := by
  obtain ⟨w3, hw3⟩ : ∃ w3, w3 = ((w.alloc (.cells #[v, .int .i64 x.nums, .int .i64 x.turn, .int .i64 x.paid] 49)).alloc (.cells #[.int .i64 o.m, .int .i64 o.s, .int .i64 o.k, .int .i64 o.f, .int .i64 o.p, .int .i64 o.t, .int .i64 o.q, .int .i64 o.pk] 27)).alloc (.cells #[.slice none 0 0, .int .i64 0, .int .i64 0, .int .i64 0] 49) := ⟨_, rfl⟩
  have b3 : Below w.heap.size w w3 := by rw [hw3]; exact (((Below.refl _ _).alloc (Nat.le_refl _) _).alloc (by simp) _).alloc (by simp; omega) _
  have e3 : EnS w (w.heap.size + 1 + 1) w3 v x.L x.nums x.turn x.paid := by
    refine ⟨b3, by rw [hw3]; exact ((Cells.new w _ _).alloc _).alloc _, OwnE.below hv b3, by omega, ?_⟩
    rw [hw3]
    have := Cells.new ((w.alloc (.cells #[v, .int .i64 x.nums, .int .i64 x.turn, .int .i64 x.paid] 49)).alloc (.cells #[.int .i64 o.m, .int .i64 o.s, .int .i64 o.k, .int .i64 o.f, .int .i64 o.p, .int .i64 o.t, .int .i64 o.q, .int .i64 o.pk] 27)) #[.slice none 0 0, .int .i64 0, .int .i64 0, .int .i64 0] 49
    rwa [World.size_alloc, World.size_alloc] at this
  have o3 : Cells w3 (w.heap.size + 1) #[.int .i64 o.m, .int .i64 o.s, .int .i64 o.k, .int .i64 o.f, .int .i64 o.p, .int .i64 o.t, .int .i64 o.q, .int .i64 o.pk] 27 := by
    rw [hw3]
    have := Cells.new (w.alloc (.cells #[v, .int .i64 x.nums, .int .i64 x.turn, .int .i64 x.paid] 49)) #[.int .i64 o.m, .int .i64 o.s, .int .i64 o.k, .int .i64 o.f, .int .i64 o.p, .int .i64 o.t, .int .i64 o.q, .int .i64 o.pk] 27
    rw [World.size_alloc] at this
    exact this.alloc _
  have E3 := hid e3
  have O3 := hid o3
  have HW3 := hid hw3
  have HS := hid hS
  have HR := hid hR
  have HT := hid ht
  have HLEN := hid hlen
  have HSZ := hid hsz
  have HNN := hid hN
  obtain ⟨R, hRR⟩ : ∃ R, R = EnterR w S x o := ⟨_, rfl⟩
  have HRR := hid hRR
  rw [← hRR]
  have VD := hid (rvalid_calls o w3)
  have xl : x.L.length = S.live.length := hR.len
  obtain ⟨L, nums, turn, paid⟩ := x
  obtain ⟨p, cap, g, hv0, hp, hc⟩ := hv.rows
  simp only at *
  subst hv0
  obtain ⟨NL, hNL⟩ : ∃ NL, NL = L.length := ⟨_, rfl⟩
  rw [← hNL] at E3 HW3 hp xl ⊢
  have HNL := hid hNL
  have HP := hid hp
  have HC := hid hc
  have XL := hid xl
  unfold rbV
  unfold Od.vals at VD ⊢
  clear hS hR hN ht hlen hsz hw3 b3 e3 o3 hv hRR hp hc hNL xl
  go_enter Try.func60, Try.ntmps60
  go_wp2_with fail
  rw [← HW3.out]
  refine VD.out.mono ?_
  rintro e w4 ⟨rfl, hb4⟩
  have E4 := hid (E3.out.after hb4)
  have O4 := hid (O3.out.below hb4 O3.out.lt)
  clear hb4 E3 O3 VD
  obtain ⟨t0, t1, t2, t3, tl, tf0, tf1, tf2, tf3⟩ := E4.out.cell
  obtain ⟨o0, o1, o2, o3, o4, o5, o6, o7, ol⟩ := ord_cells O4.out
  obtain ⟨y0, y1, y2, y3, yl, yf0, yf1, yf2, yf3⟩ := E4.out.resc
  cases hok : o.ok with
  | false =>
    --{A
    have hE : enterE S o = 1 := by unfold enterE; rw [if_pos hok]
    have D := hid (E4.out.done E4.out.row nums turn paid (OwnE.nil 0 w4 : RowE 0 w4 (.slice none 0 0) []))
    have FIN := hid (show R (.returned (.tuple #[rbV (.slice p NL cap) nums turn paid, .int .i64 0, .slice none 0 0, .int .i64 1])) _ by
      rw [HRR.out]
      exact EnterR.mk (B := (S, [])) (by unfold enterN; rw [if_neg (by rw [hE]; decide)]) hE.symm (by unfold enterB; rw [if_neg (by rw [hE]; decide)]) D.out HR.out (by simp))
    clear hok hE
    go_wp2
    exact bodyPost_ret (v := .tuple #[.agg #[.slice p NL cap, .int .i64 nums, .int .i64 turn, .int .i64 paid], .int .i64 0, .slice none 0 0, .int .i64 1]) (by simp [results, Try.results60, go_sem, D.out.res.cell]) rfl FIN.out
    --}A
  | true =>
    have hs := okS hok
    have hq := okQ hok
    by_cases hfull : 4096 ≤ NL
    ·
      --{B
      have d1 : decide ((4096 : Int) ≤ (NL : Int)) = true := by simp; omega
      have hE : enterE S o = 6 := by unfold enterE; rw [if_neg (by rw [hok]; decide), if_pos (by rw [← XL.out]; exact hfull)]
      have D := hid (E4.out.done E4.out.row nums turn paid (OwnE.nil 0 w4 : RowE 0 w4 (.slice none 0 0) []))
      have FIN := hid (show R (.returned (.tuple #[rbV (.slice p NL cap) nums turn paid, .int .i64 0, .slice none 0 0, .int .i64 6])) _ by
        rw [HRR.out]
        exact EnterR.mk (B := (S, [])) (by unfold enterN; rw [if_neg (by rw [hE]; decide)]) hE.symm (by unfold enterB; rw [if_neg (by rw [hE]; decide)]) D.out HR.out (by simp))
      clear hok hE hs hq
      go_wp2
      exact bodyPost_ret (v := .tuple #[.agg #[.slice p NL cap, .int .i64 nums, .int .i64 turn, .int .i64 paid], .int .i64 0, .slice none 0 0, .int .i64 6]) (by simp [results, Try.results60, go_sem, D.out.res.cell]) rfl FIN.out
      --}B
    · have d1 : decide ((4096 : Int) ≤ (NL : Int)) = false := by simp; omega
      obtain ⟨side, hside⟩ : ∃ side, side = 3 - o.s := ⟨_, rfl⟩
      have hso : side = 1 ∨ side = 2 := by omega
      have OT := hid (fun w => rother_calls hs w)
      rw [← hside] at OT
      obtain ⟨A, B, W, kk⟩ := HR.out.side hso
      have MT := hid (kk.meet hso HS.out (left := o.q) (xn := S.nums) (by omega) (evs := []) (by simp))
      have FR := hid (fun (wx : World) (h : RowR 0 wx (.slice p NL cap) L) => front_rcalls wx h (by have := HLEN.out; omega) nums turn paid side)
      unfold rbV at FR
      have HOK := hid hok
      have HSD := hid hside
      have HHS := hid hs
      have HQ := hid hq
      have HFULL := hid hfull
      clear hok hside hs hq kk hfull
      go_upto_region 5 with fail
      go_cut [8] (fun s8 wx => s8 = .int .i64 (optI (frontR L side)) ∧ EnS w (w.heap.size + 1 + 1) wx (.slice p NL cap) L nums turn paid ∧ Cells wx (w.heap.size + 1) #[.int .i64 o.m, .int .i64 o.s, .int .i64 o.k, .int .i64 o.f, .int .i64 o.p, .int .i64 o.t, .int .i64 o.q, .int .i64 o.pk] 27)
      case first =>
        --{C
        go_region_with (first | (go_at_call 65; refine (OT.out _).mono ?_; rintro e w' ⟨rfl, rfl⟩) | (go_at_call 28; refine (FR.out _ (OwnE.drew E4.out.row)).mono ?_; rintro e w' ⟨rfl, hb'⟩; have HB' := hid hb'; clear hb'))
        all_goals (
          go_wp2
          go_meet
          exact ⟨rfl, E4.out.after (undrew HB'.out), O4.out.below (undrew HB'.out) O4.out.lt⟩)
        --}C
      case rest =>
        obtain ⟨rfl, e5, o5'⟩ := hcut
        have E5 := hid e5
        have O5 := hid o5'
        clear e5 o5' t0 t1 t2 t3 tl tf0 tf1 tf2 tf3 o0 o1 o2 o3 o4 o5 o6 o7 ol y0 y1 y2 y3 yl yf0 yf1 yf2 yf3 E4 O4 FR
        obtain ⟨I, hI⟩ : ∃ I, I = optI (frontR L side) := ⟨_, rfl⟩
        rw [← hI]
        have HI := hid hI
        clear hI
        obtain ⟨PB, hPB⟩ : ∃ PB, PB = decide (o.f = 4 ∧ o.t = 0 ∧ meetsH o (S.half side) = true) := ⟨_, rfl⟩
        have HPB := hid hPB
        clear hPB
        go_upto_region 6 with fail
        go_cut [53] (fun s53 wx => s53 = .bool PB ∧ EnS w (w.heap.size + 1 + 1) wx (.slice p NL cap) L nums turn paid ∧ Cells wx (w.heap.size + 1) #[.int .i64 o.m, .int .i64 o.s, .int .i64 o.k, .int .i64 o.f, .int .i64 o.p, .int .i64 o.t, .int .i64 o.q, .int .i64 o.pk] 27)
        case first =>
          --{D
          obtain ⟨t0, t1, t2, t3, tl, _⟩ := E5.out.cell
          obtain ⟨o0, o1, o2, o3, o4, o5, o6, o7, ol⟩ := ord_cells O5.out
          by_cases h4 : o.f = 4
          · have g1 : (o.f == 4) = true := by simpa using h4
            by_cases h0 : o.t = 0
            · have g0 : (o.t == 0) = true := by simpa using h0
              rcases MT.out.front with ⟨m1, m2⟩ | ⟨r, i, hi, m1, m2, m3, m4, _⟩
              · have e : PB = false := by rw [HPB.out]; unfold meetsH; simp only at m1; rw [m1]; simp
                subst e
                have e : I = -1 := by rw [HI.out, m2]; rfl
                subst e
                have g2 : decide ((0 : Int) ≤ -1) = false := by decide
                clear h4 h0 m1 m2
                go_big_quiet (fail)
                go_wp2
                go_meet
                exact ⟨rfl, E5.out.drewN _, O5.out.drewN _⟩
              · have e : PB = o.good r.o.p := by rw [HPB.out]; unfold meetsH; simp only at m3; rw [m3]; simp [h4, h0]; rfl
                subst e
                have e : I = (i : Int) := by rw [HI.out, m1]; rfl
                subst e
                have g2 : decide ((0 : Int) ≤ (i : Int)) = true := by simp
                obtain ⟨p2, cap2, g2', hv2, hp2, hc2⟩ := E5.out.row.rows
                obtain ⟨e1, e2, e3⟩ : p = p2 ∧ NL = L.length ∧ cap = cap2 := by injection hv2 with a b c; exact ⟨a, b, c⟩
                subst e1 e3
                obtain ⟨rfl, hg⟩ := hp2 (by omega)
                obtain ⟨_, _, _, _, _, c5, _⟩ := hc2 wc (Below.refl _ _) i hi
                rw [m2] at c5
                have GD := hid (fun w => rgood_calls o HHS.out r.o.p w)
                unfold Od.vals at GD
                have gi : (i : Int) < (NL : Int) := by omega
                have gi2 : i < NL := by omega
                have gi3 : ((i : Int)).toNat = i := by omega
                have gi4 : (0 : Int) ≤ (i : Int) := by omega
                clear h4 h0 m1 m2 m3 m4 hv2 hp2 hc2 e2
                refine region_tail 21 (by kernel_rfl) (by kernel_rfl) ?_
                simp only [List.take_succ_cons, List.take_zero, List.drop_succ_cons, List.drop_zero]
                repeat still_step
                refine wpStill_nil ?_
                go_wp2_with fail
                refine (GD.out _).mono ?_
                rintro e w' ⟨rfl, hb'⟩
                have HB' := hid hb'
                clear hb'
                go_wp2
                go_meet
                exact ⟨rfl, E5.out.after (undrew HB'.out), O5.out.below (undrew HB'.out) O5.out.lt⟩
            · have g0 : (o.t == 0) = false := by simpa using h0
              have e : PB = false := by rw [HPB.out]; simp [h0]
              subst e
              clear h4 h0
              go_big_quiet (fail)
              go_wp2
              go_meet
              exact ⟨rfl, E5.out.drewN _, O5.out.drewN _⟩
          · have g1 : (o.f == 4) = false := by simpa using h4
            have e : PB = false := by rw [HPB.out]; simp [h4]
            subst e
            clear h4
            go_big_quiet (fail)
            go_wp2
            go_meet
            exact ⟨rfl, E5.out.drewN _, O5.out.drewN _⟩
          --}D
        case rest =>
          obtain ⟨rfl, e6, o6'⟩ := hcut
          have E6 := hid e6
          have O6 := hid o6'
          clear e6 o6' E5 O5
          obtain ⟨t0, t1, t2, t3, tl, tf0, tf1, tf2, tf3⟩ := E6.out.cell
          obtain ⟨o0, o1, o2, o3, o4, o5, o6, o7, ol⟩ := ord_cells O6.out
          cases PB with
          | true =>
            --{E
            obtain ⟨y0, y1, y2, y3, yl, yf0, yf1, yf2, yf3⟩ := E6.out.resc
            have hE : enterE S o = 20 := by unfold enterE; rw [if_neg (by rw [HOK.out]; decide), if_neg (by rw [← XL.out]; exact HFULL.out), if_pos (by rw [← HSD.out]; exact of_decide_eq_true HPB.out.symm)]
            have D := hid (E6.out.done E6.out.row nums turn paid (OwnE.nil 0 wc : RowE 0 wc (.slice none 0 0) []))
            have FIN := hid (show R (.returned (.tuple #[rbV (.slice p NL cap) nums turn paid, .int .i64 0, .slice none 0 0, .int .i64 20])) _ by
              rw [HRR.out]
              exact EnterR.mk (B := (S, [])) (by unfold enterN; rw [if_neg (by rw [hE]; decide)]) hE.symm (by unfold enterB; rw [if_neg (by rw [hE]; decide)]) D.out HR.out (by simp))
            clear hE
            go_wp2
            exact bodyPost_ret (v := .tuple #[.agg #[.slice p NL cap, .int .i64 nums, .int .i64 turn, .int .i64 paid], .int .i64 0, .slice none 0 0, .int .i64 20]) (by simp [results, Try.results60, go_sem, D.out.res.cell]) rfl FIN.out
            --}E
          | false =>
            have HE := hid (show enterE S o = 0 by unfold enterE; rw [if_neg (by rw [HOK.out]; decide), if_neg (by rw [← XL.out]; exact HFULL.out), if_neg (by rw [← HSD.out]; exact of_decide_eq_false HPB.out.symm)])
            have hnums : nums = S.nums := by obtain ⟨_, _, _, k⟩ := HR.out; exact k.nums
            have HNU := hid hnums
            have hn0 : 0 ≤ nums ∧ nums < 1000000 := by have := HS.out.nums; have := HNN.out; omega
            have CP := hid (copy_rcalls wc E6.out.row (by have h1 : L.length ≤ 4096 := HLEN.out; show L.length ≤ _; omega) nums turn paid)
            unfold rbV at CP
            clear hnums
            go_wp2_with fail
            refine CP.out.mono ?_
            rintro e w7 ⟨v7, rfl, hr7, hb7⟩
            have e7 := E6.out.after hb7
            have o7' := O6.out.below hb7 O6.out.lt
            obtain ⟨u0, u1, u2, u3, ul, uf0, uf1, uf2, uf3⟩ := e7.cell
            have q7 := (put_rb e7.bd rfl v7 (.int .i64 nums) (.int .i64 turn) (.int .i64 paid)).2
            have e8 := (e7.setAll (OwnE.mono hr7 (Nat.zero_le _)) nums turn paid)
            have r8 : RowR w.heap.size _ v7 L := OwnE.far (OwnE.mono hr7 E6.out.below.size) e7.bd (by decide) q7
            obtain ⟨p7, cap7, g7, hv7, _, _⟩ := hr7.rows
            rw [← HNL.out] at hv7
            subst hv7
            have o8' := o7'.kept q7 (by omega)
            obtain ⟨w8, hw8⟩ : ∃ w8, w8 = (((w7.setCell ⟨w.heap.size, 0, none⟩ (.slice p7 NL cap7)).setCell ⟨w.heap.size, 1, none⟩ (.int .i64 nums)).setCell ⟨w.heap.size, 2, none⟩ (.int .i64 turn)).setCell ⟨w.heap.size, 3, none⟩ (.int .i64 paid) := ⟨_, rfl⟩
            rw [← hw8] at e8 r8 o8'
            have e9 := e8.setNums (nums + 1)
            have k9 := (Kept.refl (fun k => k = w.heap.size) w8).set (C := w.heap.size) rfl 1 (.int .i64 (nums + 1))
            have r9 := OwnE.far r8 e8.bd (by decide) k9
            have o9 := o8'.kept k9 (by omega)
            obtain ⟨w9, hw9⟩ : ∃ w9, w9 = w8.setCell ⟨w.heap.size, 1, none⟩ (.int .i64 (nums + 1)) := ⟨_, rfl⟩
            rw [← hw9] at e9 r9 o9
            have E8 := hid e8
            have O8 := hid o8'
            have E9 := hid e9
            have R9 := hid r9
            have O9 := hid o9
            have HW9 := hid hw9
            have HW8 := hid hw8
            clear t0 t1 t2 t3 tl tf0 tf1 tf2 tf3 o0 o1 o2 o3 o4 o5 o6 o7 ol hr7 hb7 e7 o7' q7 e8 r8 o8' e9 k9 r9 o9 hw9 hw8 E6 O6 CP
            go_upto_region 9 with fail
            rw [← HW8.out]
            clear u0 u1 u2 u3 ul uf0 uf1 uf2 uf3
            obtain ⟨u0, u1, u2, u3, ul, uf0, uf1, uf2, uf3⟩ := E8.out.cell
            obtain ⟨oo0, oo1, oo2, oo3, oo4, oo5, oo6, oo7, ool⟩ := ord_cells O8.out
            go_upto_if 65 with fail
            rw [← HW9.out]
            clear u0 u1 u2 u3 ul uf0 uf1 uf2 uf3 oo0 oo1 oo2 oo3 oo4 oo5 oo6 oo7 ool
            obtain ⟨t0, t1, t2, t3, tl, tf0, tf1, tf2, tf3⟩ := E9.out.cell
            obtain ⟨o0, o1, o2, o3, o4, o5, o6, o7, ol⟩ := ord_cells O9.out
            by_cases hz : o.t = 0
            ·
              --{G
              have d2 : (o.t != 0) = false := by simpa using hz
              have BN := hid (bd_nums HS.out HNN.out)
              have RN := hid (nums_rel HR.out)
              have CI := hid (comeIn_rcalls w9 (x := ⟨L, nums + 1, turn, paid⟩) (n := nums + 1) (v := .slice p7 NL cap7) E9.out.row BN.out RN.out (by have := HNU.out; simp only; omega) (by rw [HNU.out]; exact bd_fresh HS.out) HOK.out (by have h1 : L.length ≤ 4096 := HLEN.out; show L.length ≤ _; omega) (by have h1 : turn ≤ 100000000000000 := HT.out; show turn ≤ _; omega) (by have := HSZ.out; exact Nat.le_trans this (by decide)))
              unfold rbV Od.vals at CI
              simp only at CI
              have EF := hid (show enterF S o = stopsF (comeF { S with nums := S.nums + 1 } (S.nums + 1) o o.q []).1.wait.length (comeF { S with nums := S.nums + 1 } (S.nums + 1) o o.q []).1 (comeF { S with nums := S.nums + 1 } (S.nums + 1) o o.q []).2 by unfold enterF; rw [if_pos hz])
              have CO := hid (comeF_ok (S := { S with nums := S.nums + 1 }) BN.out (n := S.nums + 1) (left := o.q) (o := o) HOK.out (by have := HS.out.nums; simp only; omega) (bd_fresh HS.out) (by have := HQ.out; omega) (evs := []) (by simp))
              rw [HNU.out] at CI
              obtain ⟨C1, hC1⟩ : ∃ C1, C1 = comeF { S with nums := S.nums + 1 } (S.nums + 1) o o.q [] := ⟨_, rfl⟩
              have HC1 := hid hC1
              rw [← hC1] at EF CO
              rw [HNU.out]
              rw [HNU.out] at t1
              clear hz hC1
              go_wp2_with fail
              refine CI.out.mono ?_
              rintro e w11 ⟨v11, x11, ve11, rfl, hr11, he11, rl11, ht11, hb11⟩
              unfold rbV
              rw [← HC1.out] at he11 rl11 ht11
              obtain ⟨L11, nums11, turn11, paid11⟩ := x11
              simp only at ht11
              have e11 := E9.out.after hb11
              obtain ⟨w12, hw12⟩ : ∃ w12, w12 = w11.alloc (.cells #[v11, .int .i64 nums11, .int .i64 turn11, .int .i64 paid11] 49) := ⟨_, rfl⟩
              have e12 := e11.alloc (.cells #[v11, .int .i64 nums11, .int .i64 turn11, .int .i64 paid11] 49)
              rw [← hw12] at e12
              have c12 : Cells w12 w11.heap.size #[v11, .int .i64 nums11, .int .i64 turn11, .int .i64 paid11] 49 := by rw [hw12]; exact Cells.new _ _ _
              have hr12 : RowR 0 w12 v11 L11 := by rw [hw12]; exact (OwnE.mono hr11 (Nat.zero_le _)).alloc _
              have hE12 : RowE w9.heap.size w12 ve11 C1.2 := by rw [hw12]; exact OwnE.alloc he11 _
              have he12 : RowE 0 w12 ve11 C1.2 := OwnE.mono hE12 (Nat.zero_le _)
              have hsz12 : C1.2.length + sizeL C1.1.live + 2 * C1.1.wait.length ≤ 1000000000000 := by
                have h1 := CO.out.size
                have h2 := HSZ.out
                have h3 := HQ.out
                have h4 : C1.1.wait.length ≤ S.live.length := by rw [CO.out.wait]; unfold Bd.live; simp only [List.length_append]; omega
                have h5 := XL.out
                have h6 := HLEN.out
                have h7 := HNL.out
                simp only [List.length_nil] at h1
                have e : sizeL (Bd.live { S with nums := S.nums + 1 }) = sizeL S.live := rfl
                rw [e] at h1
                have h6' : L.length ≤ 4096 := h6
                omega
              have hl12 : L11.length ≤ 5000 := by
                have h1 := CO.out.sub.len
                have h2 := rl11.len
                have h5 := XL.out
                have h6 := HLEN.out
                have h7 := HNL.out
                have e : (Bd.live { S with nums := S.nums + 1 }).length = S.live.length := rfl
                simp only [numsL, List.length_map, List.length_cons] at h1
                rw [e] at h1
                have h6' : L.length ≤ 4096 := h6
                have h2' : L11.length = C1.1.live.length := h2
                omega
              have SP := hid (stops_rcalls w12 (x := ⟨L11, nums11, turn11, paid11⟩) hr12 CO.out.ok rl11 he12 (turn0 := turn) ht11 (by have h1 : turn ≤ 100000000000000 := HT.out; show turn ≤ _; omega) hl12 hsz12)
              unfold rbV at SP
              simp only at SP
              rw [← EF.out] at SP
              obtain ⟨p11, n11, hv11, _⟩ := hr12.form
              generalize hm11 : L11.length = m11 at hv11
              subst hv11
              obtain ⟨pf, cf, hvf, _⟩ := he12.form
              generalize hmf : C1.2.length = mf at hvf
              subst hvf
              have d10 : w12.cell? ⟨w11.heap.size, 0, none⟩ = some (.slice p11 m11 n11) := by rw [c12.cell]; rfl
              have d11 : w12.cell? ⟨w11.heap.size, 1, none⟩ = some (.int .i64 nums11) := by rw [c12.cell]; rfl
              have d12 : w12.cell? ⟨w11.heap.size, 2, none⟩ = some (.int .i64 turn11) := by rw [c12.cell]; rfl
              have d13 : w12.cell? ⟨w11.heap.size, 3, none⟩ = some (.int .i64 paid11) := by rw [c12.cell]; rfl
              have dl := c12.lt
              have E12 := hid e12
              have HE12 := hid hE12
              have HW12 := hid hw12
              have HN9 := hid E9.out.below.size
              clear hr11 he11 rl11 ht11 hb11 e11 hw12 e12 c12 hr12 hE12 he12 hsz12 hl12 hm11 hmf t0 t1 t2 t3 tl tf0 tf1 tf2 tf3 o0 o1 o2 o3 o4 o5 o6 o7 ol
              go_upto_region 18 with fail
              rw [← HW12.out]
              go_wp2_with fail
              refine SP.out.mono ?_
              rintro e w13 ⟨v13, x13, ve13, rfl, hr13, he13, rl13, bo13, ht13, hk13⟩
              unfold rbV
              obtain ⟨L13, nums13, turn13, paid13⟩ := x13
              have rowk : RowR 0 w13 (.slice p7 NL cap7) L := OwnE.kept E12.out.row hk13 (own_other E12.out.row HE12.out (by decide))
              have e13 := E12.out.far hk13 (fun k e => ⟨Nat.le_trans HN9.out (own_ge HE12.out k e.symm), row_ne HE12.out E12.out.bd (by decide) k e.symm, row_ne HE12.out E12.out.res (by decide) k e.symm⟩) rowk
              have e14 := e13.alloc (.cells #[v13, .int .i64 nums13, .int .i64 turn13, .int .i64 paid13] 49)
              obtain ⟨w14, hw14⟩ : ∃ w14, w14 = w13.alloc (.cells #[v13, .int .i64 nums13, .int .i64 turn13, .int .i64 paid13] 49) := ⟨_, rfl⟩
              rw [← hw14] at e14
              have c14 : Cells w14 w13.heap.size #[v13, .int .i64 nums13, .int .i64 turn13, .int .i64 paid13] 49 := by rw [hw14]; exact Cells.new _ _ _
              have hr14 : RowR 0 w14 v13 L13 := by rw [hw14]; exact OwnE.alloc hr13 _
              have he14 : RowE 0 w14 ve13 (enterF S o).2 := by rw [hw14]; exact OwnE.alloc he13 _
              obtain ⟨p13, n13, hv13, _⟩ := hr14.form
              generalize L13.length = m13 at hv13
              subst hv13
              obtain ⟨pg, cg, hvg, _⟩ := he14.form
              generalize (enterF S o).2.length = mg at hvg
              subst hvg
              have D14 := hid (e14.done hr14 nums13 turn13 paid13 he14)
              have FIN := hid (show R (.returned (.tuple #[rbV (.slice p13 m13 n13) nums13 turn13 paid13, .int .i64 (S.nums + 1), .slice pg mg cg, .int .i64 0])) _ by
                rw [HRR.out]
                exact EnterR.mk (B := enterF S o) (by unfold enterN; rw [if_pos HE.out]) HE.out.symm (by unfold enterB; rw [if_pos HE.out]) D14.out rl13 ht13)
              have d0 : w14.cell? ⟨w13.heap.size, 0, none⟩ = some (.slice p13 m13 n13) := by rw [c14.cell]; rfl
              have d1' : w14.cell? ⟨w13.heap.size, 1, none⟩ = some (.int .i64 nums13) := by rw [c14.cell]; rfl
              have d2' : w14.cell? ⟨w13.heap.size, 2, none⟩ = some (.int .i64 turn13) := by rw [c14.cell]; rfl
              have d3' : w14.cell? ⟨w13.heap.size, 3, none⟩ = some (.int .i64 paid13) := by rw [c14.cell]; rfl
              have dl' := c14.lt
              obtain ⟨y0, y1, y2, y3, yl, yf0, yf1, yf2, yf3⟩ := e14.resc
              have HW14 := hid hw14
              clear hr13 he13 rl13 bo13 ht13 hk13 rowk e13 e14 hw14 c14 hr14 he14 d10 d11 d12 d13 dl
              go_upto_region 19 with fail
              rw [← HW14.out]
              go_wp2
              exact bodyPost_ret (v := .tuple #[.agg #[.slice p13 m13 n13, .int .i64 nums13, .int .i64 turn13, .int .i64 paid13], .int .i64 (S.nums + 1), .slice pg mg cg, .int .i64 0]) (by simp [results, Try.results60, go_sem, D14.out.res.cell]) rfl FIN.out
              --}G
            ·
              --{H
              have d2 : (o.t != 0) = true := by simpa using hz
              obtain ⟨bw, bp⟩ := bd_wait HS.out HNN.out HOK.out hz
              have WR := hid (wait_rel HR.out ⟨nums + 1, o, o.q, 0, true, 0⟩ rfl)
              have EF := hid (show enterF S o = stopsF (S.wait ++ [(⟨S.nums + 1, o, o.q, 0⟩ : En)]).length { S with nums := S.nums + 1, wait := S.wait ++ [⟨S.nums + 1, o, o.q, 0⟩] } [⟨8, S.nums + 1, 0, 0, o.q⟩] by unfold enterF; rw [if_neg hz])
              have e10 := E9.out.alloc (.cells #[.int .i64 (nums + 1), .int .i64 o.m, .int .i64 o.s, .int .i64 o.k, .int .i64 o.f, .int .i64 o.p, .int .i64 o.t, .int .i64 o.q, .int .i64 o.pk, .int .i64 o.q, .int .i64 0, .bool true, .int .i64 0] 53)
              obtain ⟨v2, w2, r2, e11, ⟨uu, q2⟩, q3, q4, q5, k2⟩ := e10.addrow (OwnE.alloc R9.out _) ⟨nums + 1, o, o.q, 0, true, 0⟩ (B := w9.heap.size) (Cells.new w9 _ _) (by have h1 : L.length ≤ 4096 := HLEN.out; omega) 47
              have o2 := (O9.out.alloc (.cells #[.int .i64 (nums + 1), .int .i64 o.m, .int .i64 o.s, .int .i64 o.k, .int .i64 o.f, .int .i64 o.p, .int .i64 o.t, .int .i64 o.q, .int .i64 o.pk, .int .i64 o.q, .int .i64 0, .bool true, .int .i64 0] 53)).kept k2 (fun e => row_ne (OwnE.alloc R9.out (.cells #[.int .i64 (nums + 1), .int .i64 o.m, .int .i64 o.s, .int .i64 o.k, .int .i64 o.f, .int .i64 o.p, .int .i64 o.t, .int .i64 o.q, .int .i64 o.pk, .int .i64 o.q, .int .i64 0, .bool true, .int .i64 0] 53)) (O9.out.alloc _) (by decide) _ e.symm rfl)
              obtain ⟨pv, cv, hv2, _⟩ := q5.form
              generalize hNV : (L ++ [(⟨nums + 1, o, o.q, 0, true, 0⟩ : Rn)]).length = NV at hv2
              subst hv2
              obtain ⟨w12, hw12⟩ : ∃ w12, w12 = w2.setCell ⟨w.heap.size, 0, none⟩ (.slice pv NV cv) := ⟨_, rfl⟩
              have o12 := o2.set_far (C := w.heap.size) 0 (.slice pv NV cv) (by omega)
              rw [← hw12] at e11 o12
              have e13 := e11.alloc (.cells #[.int .i64 8, .int .i64 (nums + 1), .int .i64 0, .int .i64 0, .int .i64 o.q] 148)
              have row1 := row_one (ev := ⟨8, nums + 1, 0, 0, o.q⟩) (Cells.new w12 (encEv ⟨8, nums + 1, 0, 0, o.q⟩).toArray 148)
              obtain ⟨w15, hw15⟩ : ∃ w15, w15 = w12.alloc (.cells #[.int .i64 8, .int .i64 (nums + 1), .int .i64 0, .int .i64 0, .int .i64 o.q] 148) := ⟨_, rfl⟩
              have row15 : RowE 0 w15 (.slice (some ⟨w12.heap.size, 0, none⟩) 1 1) [⟨8, nums + 1, 0, 0, o.q⟩] := by rw [hw15]; exact row1
              rw [← hw15] at e13
              have E12 := hid e13
              have B12 := hid e11.below.size
              have HE12 := hid row15
              have HW15 := hid hw15
              have HW12 := hid hw12
              have hnn : nums = S.nums := HNU.out
              have SP := hid (stops_rcalls w15 (x := ⟨L ++ [⟨nums + 1, o, o.q, 0, true, 0⟩], nums + 1, turn, paid⟩) (S := { S with nums := S.nums + 1, wait := S.wait ++ [⟨S.nums + 1, o, o.q, 0⟩] }) e13.row bw (by have := WR.out; rw [← hnn]; rw [← hnn] at this; exact this) row15 (turn0 := turn) (by simp; omega) (by have h1 : turn ≤ 100000000000000 := HT.out; omega) (by have h1 : L.length ≤ 4096 := HLEN.out; simp; omega) (by
                have h1 := sizeL_perm bp
                rw [sizeL_cons] at h1
                have h2 := HSZ.out
                have h3 := HQ.out
                have h4 : S.wait.length ≤ S.live.length := by unfold Bd.live; simp only [List.length_append]; omega
                have h5 := XL.out
                have h6 : L.length ≤ 4096 := HLEN.out
                have h7 := HNL.out
                simp only [List.length_append, List.length_cons, List.length_nil]
                simp only at h1
                omega))
              have EF2 : R = R := rfl
              unfold rbV at SP
              simp only at SP
              rw [hnn] at SP
              rw [← EF.out] at SP
              rw [← hnn] at SP
              have R2 := hid r2
              unfold encRn at R2
              have Q2 := hid q2
              have Q3 := hid q3
              have Q4 := hid q4
              have E11 := hid e11
              have O12 := hid o12
              clear hz e10 r2 e11 q2 q3 q4 q5 k2 o2 o12 e13 row1 row15 hw15 hw12 bw bp hnn EF2 hNV
              go_upto_region 14 with (at_builtin; refine wpList_append_run rfl (.tmp 68) (.tmp 74) 47 rfl _ _ (.slice pv NV cv) w2 rfl rfl R2.out ?_)
              clear t0 t1 t2 t3 tl tf0 tf1 tf2 tf3 o0 o1 o2 o3 o4 o5 o6 o7 ol
              have q2 := Q2.out
              have q3 := Q3.out
              have q4 := Q4.out
              go_upto_region 15 with fail
              rw [← HW12.out]
              clear q2 q3 q4
              obtain ⟨t0, t1, t2, t3, tl, tf0, tf1, tf2, tf3⟩ := E11.out.cell
              obtain ⟨o0, o1, o2, o3, o4, o5, o6, o7, ol⟩ := ord_cells O12.out
              go_wp2_with fail
              rw [← HW15.out]
              rw [HNU.out] at SP HE12 ⊢
              refine SP.out.mono ?_
              rintro e w13 ⟨v13, x13, ve13, rfl, hr13, he13, rl13, bo13, ht13, hk13⟩
              unfold rbV
              obtain ⟨L13, nums13, turn13, paid13⟩ := x13
              have rowk : RowR 0 w13 (.slice pv NV cv) _ := OwnE.kept E12.out.row hk13 (own_other E12.out.row HE12.out (by decide))
              have e13 := E12.out.far hk13 (fun k e => ⟨by injection e with e; subst e; exact B12.out, row_ne HE12.out E12.out.bd (by decide) k e.symm, row_ne HE12.out E12.out.res (by decide) k e.symm⟩) rowk
              have e14 := e13.alloc (.cells #[v13, .int .i64 nums13, .int .i64 turn13, .int .i64 paid13] 49)
              obtain ⟨w14, hw14⟩ : ∃ w14, w14 = w13.alloc (.cells #[v13, .int .i64 nums13, .int .i64 turn13, .int .i64 paid13] 49) := ⟨_, rfl⟩
              rw [← hw14] at e14
              have c14 : Cells w14 w13.heap.size #[v13, .int .i64 nums13, .int .i64 turn13, .int .i64 paid13] 49 := by rw [hw14]; exact Cells.new _ _ _
              have hr14 : RowR 0 w14 v13 L13 := by rw [hw14]; exact OwnE.alloc hr13 _
              have he14 : RowE 0 w14 ve13 (enterF S o).2 := by rw [hw14]; exact OwnE.alloc he13 _
              obtain ⟨p13, n13, hv13, _⟩ := hr14.form
              generalize L13.length = m13 at hv13
              subst hv13
              obtain ⟨pg, cg, hvg, _⟩ := he14.form
              generalize (enterF S o).2.length = mg at hvg
              subst hvg
              have D14 := hid (e14.done hr14 nums13 turn13 paid13 he14)
              have FIN := hid (show R (.returned (.tuple #[rbV (.slice p13 m13 n13) nums13 turn13 paid13, .int .i64 (S.nums + 1), .slice pg mg cg, .int .i64 0])) _ by
                rw [HRR.out]
                exact EnterR.mk (B := enterF S o) (by unfold enterN; rw [if_pos HE.out]) HE.out.symm (by unfold enterB; rw [if_pos HE.out]) D14.out rl13 ht13)
              have d0 : w14.cell? ⟨w13.heap.size, 0, none⟩ = some (.slice p13 m13 n13) := by rw [c14.cell]; rfl
              have d1' : w14.cell? ⟨w13.heap.size, 1, none⟩ = some (.int .i64 nums13) := by rw [c14.cell]; rfl
              have d2' : w14.cell? ⟨w13.heap.size, 2, none⟩ = some (.int .i64 turn13) := by rw [c14.cell]; rfl
              have d3' : w14.cell? ⟨w13.heap.size, 3, none⟩ = some (.int .i64 paid13) := by rw [c14.cell]; rfl
              have dl' := c14.lt
              obtain ⟨y0, y1, y2, y3, yl, yf0, yf1, yf2, yf3⟩ := e14.resc
              have HW14 := hid hw14
              clear hr13 he13 rl13 bo13 ht13 hk13 rowk e13 e14 hw14 c14 hr14 he14 t0 t1 t2 t3 tl tf0 tf1 tf2 tf3 o0 o1 o2 o3 o4 o5 o6 o7 ol
              go_upto_region 16 with fail
              rw [← HW14.out]
              go_wp2
              exact bodyPost_ret (v := .tuple #[.agg #[.slice p13 m13 n13, .int .i64 nums13, .int .i64 turn13, .int .i64 paid13], .int .i64 (S.nums + 1), .slice pg mg cg, .int .i64 0]) (by simp [results, Try.results60, go_sem, D14.out.res.cell]) rfl FIN.out
              --}H
end Go.Proofs.Ytdjhpldiifdifaa
namespace Go.Proofs.Ytdjhpldiifdifaa
set_option linter.unusedSimpArgs false
set_option linter.unusedVariables false
open Go.RowKit Go.Shelf
attribute [local go_sem] Oper.semAt_some
attribute [local go_sem ↓] Go.wp_at_zero Go.wp_at_succ

/-- What the reference's Cancel comes to. -/
def CancelR (w : World) (x : Rb) (n m : Int) (e : Ending) (w' : World) : Prop :=
  ∃ v' x' ve evs er, e = .returned (.tuple #[rbV v' x'.nums x'.turn x'.paid, ve, .int .i64 er]) ∧ RowR 0 w' v' x'.L ∧ RowE 0 w' ve evs ∧ Below w.heap.size w w' ∧
    ((findR x.L n = none ∧ er = 4 ∧ evs = [] ∧ x' = x) ∨ ∃ (i : Nat) (hi : i < x.L.length), findR x.L n = some i ∧ x.L[i].n = n ∧
      ((x.L[i].o.m ≠ m ∧ er = 8 ∧ evs = [] ∧ x' = x) ∨ (x.L[i].o.m = m ∧ er = 0 ∧ evs = [⟨3, n, 0, 0, x.L[i].l⟩] ∧ x' = ⟨x.L.eraseIdx i, x.nums, x.turn, x.paid⟩)))
set_option maxRecDepth 100000 in
set_option maxHeartbeats 20000000 in
theorem cancel_rcalls (w : World) {v : Value} {x : Rb} (hv : RowR 0 w v x.L) (hlen : x.L.length ≤ 4096) (n m : Int) :
    Calls Try.prog 62 #[rbV v x.nums x.turn x.paid, .int .i64 n, .int .i64 m] w (CancelR w x n m) := by
  obtain ⟨w3, hw3⟩ : ∃ w3, w3 = (w.alloc (.cells #[v, .int .i64 x.nums, .int .i64 x.turn, .int .i64 x.paid] 49)).alloc (.cells #[.slice none 0 0, .int .i64 0, .int .i64 0, .int .i64 0] 49) := ⟨_, rfl⟩
  have b3 : Below w.heap.size w w3 := by rw [hw3]; exact ((Below.refl _ _).alloc (Nat.le_refl _) _).alloc (by simp) _
  have e3 : EnS w (w.heap.size + 1) w3 v x.L x.nums x.turn x.paid := by
    refine ⟨b3, by rw [hw3]; exact (Cells.new w _ _).alloc _, OwnE.below hv b3, by omega, ?_⟩
    rw [hw3]
    have := Cells.new (w.alloc (.cells #[v, .int .i64 x.nums, .int .i64 x.turn, .int .i64 x.paid] 49)) #[.slice none 0 0, .int .i64 0, .int .i64 0, .int .i64 0] 49
    rwa [World.size_alloc] at this
  have FD := hid (find_rcalls w3 e3.row (by omega) x.nums x.turn x.paid n)
  have E3 := hid e3
  have HW3 := hid hw3
  have HLEN := hid hlen
  obtain ⟨R, hRR⟩ : ∃ R, R = CancelR w x n m := ⟨_, rfl⟩
  have HRR := hid hRR
  rw [← hRR]
  obtain ⟨L, nums, turn, paid⟩ := x
  obtain ⟨p, cap, g, hv0, hp, hc⟩ := hv.rows
  simp only at *
  subst hv0
  obtain ⟨NL, hNL⟩ : ∃ NL, NL = L.length := ⟨_, rfl⟩
  rw [← hNL] at E3 HW3 FD ⊢
  have HNL := hid hNL
  unfold rbV at FD ⊢
  clear hlen hw3 b3 e3 hv hRR hp hc hNL
  go_enter Try.func62, Try.ntmps62
  go_wp2_with fail
  rw [← HW3.out]
  refine FD.out.mono ?_
  rintro e w4 ⟨rfl, hb4⟩
  have E4 := hid (E3.out.after hb4)
  clear hb4 E3 FD
  obtain ⟨t0, t1, t2, t3, tl, tf0, tf1, tf2, tf3⟩ := E4.out.cell
  obtain ⟨y0, y1, y2, y3, yl, yf0, yf1, yf2, yf3⟩ := E4.out.resc
  rcases findR_spec (L := L) n with ⟨m1, _⟩ | ⟨i, hi, m1, m2⟩
  · have D := hid (E4.out.done E4.out.row nums turn paid (OwnE.nil 0 w4 : RowE 0 w4 (.slice none 0 0) []))
    have FIN := hid (show R (.returned (.tuple #[rbV (.slice p NL cap) nums turn paid, .slice none 0 0, .int .i64 4])) _ by
      rw [HRR.out]
      exact ⟨_, ⟨L, nums, turn, paid⟩, _, [], 4, rfl, D.out.row, D.out.evr, D.out.below, .inl ⟨m1, rfl, rfl, rfl⟩⟩)
    rw [m1]
    rw [show optI none = -1 from rfl]
    have g2 : decide ((-1 : Int) < 0) = true := by decide
    clear m1
    go_wp2
    exact bodyPost_ret (v := .tuple #[.agg #[.slice p NL cap, .int .i64 nums, .int .i64 turn, .int .i64 paid], .slice none 0 0, .int .i64 4]) (by simp [results, Try.results62, go_sem, D.out.res.cell]) rfl FIN.out
  · rw [m1]
    rw [show optI (some i) = (i : Int) from rfl]
    have g2 : decide ((i : Int) < 0) = false := by simp
    obtain ⟨p2, cap2, g2', hv2, hp2, hc2⟩ := E4.out.row.rows
    obtain ⟨e1, e2, e3⟩ : p = p2 ∧ NL = L.length ∧ cap = cap2 := by injection hv2 with a b c; exact ⟨a, b, c⟩
    subst e1 e3
    obtain ⟨rfl, hg⟩ := hp2 (by omega)
    obtain ⟨c0, c1, c2, c3, c4, c5, c6, c7, c8, c9, c10, c11, c12⟩ := hc2 w4 (Below.refl _ _) i hi
    obtain ⟨r, hr⟩ : ∃ r, r = L[i] := ⟨_, rfl⟩
    rw [← hr] at c0 c1 c2 c3 c4 c5 c6 c7 c8 c9 c10 c11 c12
    have HRI := hid hr
    have M1 := hid m1
    have M2 := hid m2
    have E2 := hid e2
    have gi : (i : Int) < (NL : Int) := by omega
    have gi2 : i < NL := by omega
    have gi3 : ((i : Int)).toNat = i := by omega
    have gi4 : (0 : Int) ≤ (i : Int) := by omega
    clear m1 m2 hv2 hp2 hc2 e2 hr
    by_cases hm : r.o.m = m
    · have g3 : (r.o.m != m) = false := by simpa using hm
      have HM := hid hm
      obtain ⟨w5, hw5⟩ : ∃ w5, w5 = w4.alloc (.cells #[.int .i64 3, .int .i64 n, .int .i64 0, .int .i64 0, .int .i64 r.l] 148) := ⟨_, rfl⟩
      have e5 := E4.out.alloc (.cells #[.int .i64 3, .int .i64 n, .int .i64 0, .int .i64 0, .int .i64 r.l] 148)
      have row1 := row_one (ev := ⟨3, n, 0, 0, r.l⟩) (Cells.new w4 (encEv ⟨3, n, 0, 0, r.l⟩).toArray 148)
      have row5 : RowE 0 w5 (.slice (some ⟨w4.heap.size, 0, none⟩) 1 1) [⟨3, n, 0, 0, r.l⟩] := by rw [hw5]; exact row1
      rw [← hw5] at e5
      have E5 := hid e5
      have R5 := hid row5
      have HW5 := hid hw5
      have CP := hid (copy_rcalls w5 e5.row (by have h1 : L.length ≤ 4096 := HLEN.out; omega) nums turn paid)
      unfold rbV at CP
      clear hm e5 row1 row5 hw5
      go_wp2_with fail
      rw [← HW5.out]
      refine CP.out.mono ?_
      rintro e w7 ⟨v7, rfl, hr7, hb7⟩
      have e7 := E5.out.after hb7
      obtain ⟨u0, u1, u2, u3, ul, uf0, uf1, uf2, uf3⟩ := e7.cell
      have e8 := (e7.setAll (OwnE.mono hr7 (Nat.zero_le _)) nums turn paid)
      have q8 := (put_rb e7.bd rfl v7 (.int .i64 nums) (.int .i64 turn) (.int .i64 paid)).2
      have row8 := OwnE.far (OwnE.below R5.out hb7) e7.bd (by decide) q8
      obtain ⟨p7, cap7, g7, hv7, _, _⟩ := hr7.rows
      rw [← HNL.out] at hv7
      subst hv7
      obtain ⟨w8, hw8⟩ : ∃ w8, w8 = (((w7.setCell ⟨w.heap.size, 0, none⟩ (.slice p7 NL cap7)).setCell ⟨w.heap.size, 1, none⟩ (.int .i64 nums)).setCell ⟨w.heap.size, 2, none⟩ (.int .i64 turn)).setCell ⟨w.heap.size, 3, none⟩ (.int .i64 paid) := ⟨_, rfl⟩
      rw [← hw8] at e8 row8
      have E8 := hid e8
      have R8 := hid row8
      have HW8 := hid hw8
      have WO := hid (without_rcalls w8 e8.row (by have h1 : L.length ≤ 4096 := HLEN.out; omega) hi)
      clear t0 t1 t2 t3 tl tf0 tf1 tf2 tf3 y0 y1 y2 y3 yl yf0 yf1 yf2 yf3 c0 c1 c2 c3 c4 c5 c6 c7 c8 c9 c10 c11 c12 hr7 hb7 e7 e8 q8 row8 hw8 CP
      go_upto_region 8 with fail
      rw [← HW8.out]
      clear u0 u1 u2 u3 ul uf0 uf1 uf2 uf3
      obtain ⟨t0, t1, t2, t3, tl, tf0, tf1, tf2, tf3⟩ := E8.out.cell
      go_wp2_with fail
      refine WO.out.mono ?_
      rintro e w9 ⟨v9, rfl, hr9, hb9⟩
      have e9 := E8.out.after hb9
      have e10 := e9.setRow (OwnE.mono hr9 (Nat.zero_le _))
      obtain ⟨u0, u1, u2, u3, ul, uf0, uf1, uf2, uf3⟩ := e9.cell
      have row10 := OwnE.far (OwnE.below R8.out hb9) e9.bd (by decide) ((Kept.refl (fun k => k = w.heap.size) w9).set (C := w.heap.size) rfl 0 v9)
      obtain ⟨p9, n9, hv9, _⟩ := hr9.form
      generalize (L.eraseIdx i).length = m9 at hv9
      subst hv9
      obtain ⟨w10, hw10⟩ : ∃ w10, w10 = w9.setCell ⟨w.heap.size, 0, none⟩ (.slice p9 m9 n9) := ⟨_, rfl⟩
      rw [← hw10] at e10 row10
      have D := hid (e10.done e10.row nums turn paid row10)
      have FIN := hid (show R (.returned (.tuple #[rbV (.slice p9 m9 n9) nums turn paid, .slice (some ⟨w4.heap.size, 0, none⟩) 1 1, .int .i64 0])) _ by
        rw [HRR.out]
        exact ⟨_, ⟨L.eraseIdx i, nums, turn, paid⟩, _, _, 0, rfl, D.out.row, D.out.evr, D.out.below, .inr ⟨i, hi, M1.out, M2.out, .inr ⟨by rw [← HRI.out]; exact HM.out, rfl, by rw [← HRI.out], rfl⟩⟩⟩)
      have E10 := hid e10
      have HW10 := hid hw10
      clear t0 t1 t2 t3 tl tf0 tf1 tf2 tf3 hr9 hb9 e9 e10 row10 hw10
      go_upto_region 9 with fail
      rw [← HW10.out]
      clear u0 u1 u2 u3 ul uf0 uf1 uf2 uf3
      obtain ⟨t0, t1, t2, t3, tl, tf0, tf1, tf2, tf3⟩ := E10.out.cell
      obtain ⟨y0, y1, y2, y3, yl, yf0, yf1, yf2, yf3⟩ := E10.out.resc
      go_wp2
      exact bodyPost_ret (v := .tuple #[.agg #[.slice p9 m9 n9, .int .i64 nums, .int .i64 turn, .int .i64 paid], .slice (some ⟨w4.heap.size, 0, none⟩) 1 1, .int .i64 0]) (by simp [results, Try.results62, go_sem, D.out.res.cell]) rfl FIN.out
    · have g3 : (r.o.m != m) = true := by simpa using hm
      have D := hid (E4.out.done E4.out.row nums turn paid (OwnE.nil 0 w4 : RowE 0 w4 (.slice none 0 0) []))
      have FIN := hid (show R (.returned (.tuple #[rbV (.slice (some ⟨g2', 0, none⟩) NL cap) nums turn paid, .slice none 0 0, .int .i64 8])) _ by
        rw [HRR.out]
        exact ⟨_, ⟨L, nums, turn, paid⟩, _, [], 8, rfl, D.out.row, D.out.evr, D.out.below, .inr ⟨i, hi, M1.out, M2.out, .inl ⟨by rw [← HRI.out]; exact hm, rfl, rfl, rfl⟩⟩⟩)
      clear hm
      go_wp2
      exact bodyPost_ret (v := .tuple #[.agg #[.slice (some ⟨g2', 0, none⟩) NL cap, .int .i64 nums, .int .i64 turn, .int .i64 paid], .slice none 0 0, .int .i64 8]) (by simp [results, Try.results62, go_sem, D.out.res.cell]) rfl FIN.out
end Go.Proofs.Ytdjhpldiifdifaa
