/- board.trade. -/
import Derived.Test.YtdjhpldiifdifaaJBrd4
namespace Go.Proofs.Ytdjhpldiifdifaa
set_option linter.unusedSimpArgs false
set_option linter.unusedVariables false
open Go.RowKit Go.Shelf
attribute [local go_sem] Oper.semAt_some
attribute [local go_sem ↓] Go.wp_at_zero Go.wp_at_succ

theorem popH_setH {y y' : En} {h : Half} (hf : frontH h = some y') : popH (setH y h) = popH h := by
  match h with
  | [] => rfl
  | (_, []) :: _ => cases hf
  | (_, _ :: _) :: _ => rfl
/-- What trade comes to. -/
def TradedP (O : Nat → Nat) (q : Nat) (w : World) (b : Nat) (G : Mm) (nums : Int) (evs : List Ev) (s : Int) (X : Nat) (x : En) (y : En) (k : Int) (e : Ending) (w' : World) : Prop :=
  e = .returned (.tuple #[]) ∧ ∃ O' G', PtC O' q w' b G' nums y.o.p (evs ++ [⟨1, x.n, y.n, y.o.p, k⟩]) (prs G'.en G'.live) ∧ HdC O' (q + 5) w' X { x with l := x.l - k } false ∧ plainH (G'.L s) G'.en = tradeH s y k (plainH (G.L s) G.en) ∧ SameB s G G' ∧ G'.live.length ≤ G.live.length ∧ Step (colB q) O w O' w' ∧ ∀ D n, Trk O w G D n → Trk O' w' G' D n
theorem PtC.perm {O : Nat → Nat} {q : Nat} {w : World} {b : Nat} {G : Mm} {nums last : Int} {evs : List Ev} {m m' : List (Int × Nat)} (h : PtC O q w b G nums last evs m) (hp : m.Perm m') : PtC O q w b G nums last evs m' := ⟨h.top, h.buy, h.sell, ⟨h.map.map.perm hp, h.map.col⟩, h.wait⟩
theorem PtC.cells {O : Nat → Nat} {q : Nat} {w : World} {b : Nat} {G : Mm} {nums last : Int} {evs : List Ev} {m : List (Int × Nat)} (h : PtC O q w b G nums last evs m) {s : Int} (hs : s = 1 ∨ s = 2) : w.cell? ⟨b, s.toNat, none⟩ = some (pt (G.H s)) ∧ w.cell? ⟨b, 3, none⟩ = some (.map (some G.mb)) ∧ w.cell? ⟨b, 5, none⟩ = some (.int .i64 nums) ∧ w.cell? ⟨b, 6, none⟩ = some (.int .i64 last) ∧ b < w.heap.size ∧ w.frozen? ⟨b, 6, none⟩ = false ∧ w.frozen? ⟨b, 5, none⟩ = false := by
  obtain ⟨c1, c2, c3, c4, c5⟩ := h.top.half
  obtain ⟨vw, ve, t1, _⟩ := h.top.cell
  refine ⟨?_, c3, c4, c5, h.top.lt, t1.frozen 6, t1.frozen 5⟩
  rcases hs with rfl | rfl
  · exact c1
  · exact c2
theorem EnC.cells {w : World} {X : Nat} {x : En} {wx : Bool} {px : Option Nat} (h : EnC w X x wx px) : w.cell? ⟨X, 0, none⟩ = some (.int .i64 x.n) ∧ w.cell? ⟨X, 1, none⟩ = some (.int .i64 x.o.m) ∧ w.cell? ⟨X, 2, none⟩ = some (.int .i64 x.o.s) ∧ w.cell? ⟨X, 5, none⟩ = some (.int .i64 x.o.p) ∧ w.cell? ⟨X, 8, none⟩ = some (.int .i64 x.o.pk) ∧ w.cell? ⟨X, 9, none⟩ = some (.int .i64 x.l) ∧ w.cell? ⟨X, 10, none⟩ = some (.int .i64 x.h) ∧ X < w.heap.size ∧ w.frozen? ⟨X, 9, none⟩ = false ∧ w.frozen? ⟨X, 10, none⟩ = false := by
  refine ⟨?_, ?_, ?_, ?_, ?_, ?_, ?_, h.lt, Cells.frozen h 9, Cells.frozen h 10⟩ <;> (rw [Cells.cell h]; rfl)

set_option maxRecDepth 100000 in
set_option maxHeartbeats 4000000 in
theorem trade_calls {O : Nat → Nat} {q : Nat} {w : World} {b : Nat} {G : Mm} {nums last : Int} {evs : List Ev} (h : PtC O q w b G nums last evs (prs G.en G.live)) {X : Nat} {x : En} (hX : HdC O (q + 5) w X x false) {s : Int} (hs : s = 1 ∨ s = 2) (hok : HOk s nums (plainH (G.L s) G.en))
    (hlen : evs.length ≤ 3000000000000) (few : G.live.length ≤ 4096) {Y : Nat} (hY : frontL (G.L s) = some Y) (hl : 0 < x.l ∧ x.l ≤ 1000000000) :
    Calls Try.prog 76 #[pt b, pt X, pt Y] w (TradedP O q w b G nums evs s X x (G.en Y) (min x.l (G.en Y).h)) := by
  obtain ⟨c1, c2, c3, c4, c5⟩ := colS_ne q hs
  obtain ⟨hOY, P, eY⟩ := (h.side hs).front hY
  have yok : EnOk s nums (G.en Y) := hok.mem _ (by rw [plainH_all]; exact List.mem_map.2 ⟨Y, front_mem hY, rfl⟩)
  obtain ⟨yn, yo, ys, yl, yh, yk, ypk⟩ := yok
  have hq := okQ yo
  obtain ⟨k, hk⟩ : ∃ k, k = min x.l (G.en Y).h := ⟨_, rfl⟩
  have hk1 : 1 ≤ k ∧ k ≤ x.l ∧ k ≤ (G.en Y).h := by omega
  rw [← hk]
  have hXY : X ≠ Y := fun e => by have := hX.col; rw [e, hOY] at this; omega
  obtain ⟨vw, ve, t1, _⟩ := h.top.cell
  have hbX : b ≠ X := t1.ne hX.ent (by decide)
  have hbY : b ≠ Y := t1.ne eY (by decide)
  clear t1
  obtain ⟨_, _, _, _, _, x9, _, hXl, fx9, _⟩ := hX.ent.cells
  obtain ⟨_, _, _, y5, _, y9, y10, hYl, fy9, fy10⟩ := eY.cells
  obtain ⟨_, _, _, b6, hbl, fb6, _⟩ := h.cells hs
  have HH := hid h
  have HX := hid hX
  have HK := hid hk
  have HOKY := hid hok
  have HYF := hid hY
  clear h hX hok eY hY hk
  go_enter Try.func76, Try.ntmps76
  go_upto_region 1 with fail
  go_cut [6] (fun s6 wx => s6 = .int .i64 k ∧ ∃ n, wx = w.drewN n)
  case first =>
    go_quiet (fail)
    all_goals go_wp2
    all_goals (
      go_meet
      exact ⟨by rw [HK.out]; congr 1; omega, _, rfl⟩)
  case rest =>
    obtain ⟨rfl, n, hw⟩ := hcut
    have hbw : Below w.heap.size w wc := by rw [hw]; exact Below.of_drewN w n
    have hsz : wc.heap.size = w.heap.size := by rw [hw]; rfl
    have HST := hid (Step.of_below (O := O) hbw (colB q))
    have h := HH.out.below hbw
    have hX := HX.out.below hbw
    obtain ⟨_, P, eY⟩ := (h.side hs).front HYF.out
    clear x9 hXl fx9 y5 y9 y10 hYl fy9 fy10 b6 hbl fb6
    obtain ⟨_, _, _, _, _, x9, _, hXl, fx9, _⟩ := hX.ent.cells
    obtain ⟨_, _, _, y5, _, y9, y10, hYl, fy9, fy10⟩ := eY.cells
    obtain ⟨_, _, _, b6, hbl, fb6, _⟩ := h.cells hs
    obtain ⟨W, hW⟩ : ∃ W, W = (((wc.setCell ⟨X, 9, none⟩ (.int .i64 (x.l - k))).setCell ⟨Y, 9, none⟩ (.int .i64 ((G.en Y).l - k))).setCell ⟨Y, 10, none⟩ (.int .i64 ((G.en Y).h - k))).setCell ⟨b, 6, none⟩ (.int .i64 (G.en Y).o.p) := ⟨_, rfl⟩
    obtain ⟨m1, m2, m3, m4⟩ := trade_mid h hX hs HYF.out k W hW
    have M1 := hid m1
    have M2 := hid m2
    have M3 := hid m3
    have M4 := hid (HST.out.trans m4)
    obtain ⟨f1, f2⟩ := h.enF hs hOY { (G.en Y) with l := (G.en Y).l - k, h := (G.en Y).h - k }
    obtain ⟨G1, hG1⟩ : ∃ G1, G1 = G.put s (G.L s) (setEn G.en Y { (G.en Y) with l := (G.en Y).l - k, h := (G.en Y).h - k }) := ⟨_, rfl⟩
    obtain ⟨u1, u2, u3⟩ := Mm.put_same hs G (G.L s) _ f1 f2
    rw [← hG1] at u1 u2 u3
    have U1 := hid u1
    have U2 := hid u2
    have U3 := hid u3
    have HG1 := hid hG1
    have HW := hid hW
    clear h hX eY m1 m2 m3 m4 hbw hsz hw hW f1 f2 hG1 u1 u2 u3 HST
    go_wp2
    refine region_tail 11 (by kernel_rfl) (by kernel_rfl) ?_
    simp only [List.take_succ_cons, List.take_zero, List.drop_succ_cons, List.drop_zero]
    repeat still_step
    refine wpStill_nil ?_
    go_wp2_with fail
    rw [← HW.out]
    refine (tell_pt (M1.out.below ((Below.refl _ W).drew)) hlen (M2.out.below ((Below.refl _ W).drew)).ent 1 (G.en Y).n (G.en Y).o.p k).mono ?_
    rintro e w5 ⟨rfl, O5, p5, s5⟩
    have hd5 := (M2.out.below ((Below.refl _ W).drew)).step s5 (by omega)
    have S5 := hid ((M4.out.trans (Step.of_below ((Below.refl _ W).drew) (colB q))).trans (s5.B (by omega) (by omega)))
    rw [← HG1.out] at p5
    simp only at p5
    have hY5 : frontL (G1.L s) = some Y := by rw [U2.out]; exact HYF.out
    obtain ⟨hOY5, P5, eY5⟩ := (p5.side hs).front hY5
    have en5 : G1.en Y = { (G.en Y) with l := (G.en Y).l - k, h := (G.en Y).h - k } := by rw [U3.out, setEn_self]
    have EY5 := hid eY5
    rw [en5] at eY5
    obtain ⟨y0, _, y2, _, y8, y9, y10, hYl, fy9, fy10⟩ := eY5.cells
    simp only at y0 y2 y8 y9 y10
    rw [ys] at y2
    obtain ⟨bs, _, _, _, hbl, _, _⟩ := p5.cells hs
    have PH5 := hid (show plainH (G1.L s) G1.en = setH { (G.en Y) with l := (G.en Y).l - k, h := (G.en Y).h - k } (plainH (G.L s) G.en) by rw [U2.out, U3.out]; exact M3.out)
    have LV5 := hid (show G1.live.Perm G.live by
      have := Mm.put_live hs G (G.L s) (setEn G.en Y { (G.en Y) with l := (G.en Y).l - k, h := (G.en Y).h - k })
      rw [HG1.out]; exact this.2.trans this.1.symm)
    have PRS := hid (show (prs G.en G.live).Perm (prs G1.en G1.live) by
      refine List.Perm.trans ?_ (prs_perm _ LV5.out.symm)
      rw [U3.out]
      have := prs_congr (en := G.en) (en' := setEn G.en Y { (G.en Y) with l := (G.en Y).l - k, h := (G.en Y).h - k }) (l := G.live) (fun E _ => setEn_n G.en Y { (G.en Y) with l := (G.en Y).l - k, h := (G.en Y).h - k } rfl E)
      rw [this])
    have NUM5 := hid (show ∀ E, (G1.en E).n = (G.en E).n from fun E => by rw [U3.out]; exact setEn_n G.en Y { (G.en Y) with l := (G.en Y).l - k, h := (G.en Y).h - k } rfl E)
    have P5 := hid p5
    have HD5 := hid hd5
    have HY5 := hid hY5
    have HOY5 := hid hOY5
    have EN5 := hid en5
    have hs3 : 0 ≤ s ∧ s < 3 := by omega
    clear p5 hd5 hY5 hOY5 en5 eY5 s5
    by_cases g1 : 0 < (G.en Y).h - k
    · have g1' : k < (G.en Y).h := by omega
      go_wp2
      go_end0
      refine ⟨rfl, O5, G1, P5.out.perm PRS.out, HD5.out, ?_, U1.out, Nat.le_of_eq LV5.out.length_eq, S5.out, fun D n => Trk.move S5.out (fun E hE => .inl ⟨LV5.out.mem_iff.2 hE, NUM5.out E⟩)⟩
      rw [PH5.out]
      unfold tradeH
      rw [if_pos g1]
    · have NG1 := hid g1
      have hsh5 : HSh s (plainH (G1.L s) G1.en) := by
        rw [PH5.out]
        exact HOKY.out.sh.set (y := G.en Y) (by rw [front_plain HOKY.out.sh, HYF.out]; rfl) rfl
      have HSH5 := hid hsh5
      have few5 : (ensL (G1.L s)).length ≤ 5000 := by
        have := few_side (G := G) hs
        rw [U2.out]; omega
      clear hsh5
      go_wp2
      go_quiet (fail)
      go_wp2_with fail
      refine (take_pt (P5.out.below (Below.of_drewN w5 nq)) hs HSH5.out few5 HY5.out).mono ?_
      rintro e w6 ⟨rfl, O6, ls6, p6, a6, b6', d6, s6⟩
      have hc := colS_cases q hs
      have hd6 := (HD5.out.below (Below.of_drewN w5 nq)).step s6 (fun e => c4 e.symm)
      have S6 := hid ((S5.out.trans (Step.of_below (Below.of_drewN w5 nq) (colB q))).trans (s6.B hc.1 hc.2))
      obtain ⟨G2, hG2⟩ : ∃ G2, G2 = G1.put s ls6 G1.en := ⟨_, rfl⟩
      obtain ⟨v1, v2, v3⟩ := Mm.put_same hs G1 ls6 G1.en (fun _ _ => rfl) (fun _ _ => rfl)
      have LV6 := hid (show G1.live.Perm (Y :: G2.live) by
        have := Mm.put_live hs G1 ls6 G1.en
        rw [hG2]
        refine this.1.trans ?_
        rw [b6']
        exact (this.2.symm.cons Y))
      rw [← hG2] at p6 v1 v2 v3
      have hY6 : Y ∉ ensL (G2.L s) := by
        have := ((P5.out.side hs).nodN)
        show Y ∉ ensL (G2.L s)
        rw [v2]
        have h7 : (ensL (G1.L s)).Nodup := this
        rw [b6'] at h7
        exact (List.nodup_cons.1 h7).1
      have hl6 : (ensL (G2.L s)).length ≤ 5000 := by
        rw [v2]
        rw [b6'] at few5
        simp only [List.length_cons] at few5
        omega
      have hsh6 : HSh s (plainH (G2.L s) G2.en) := by rw [v2, v3, a6]; exact HSH5.out.pop
      have PH6 := hid (show plainH (G2.L s) G2.en = popH (setH { (G.en Y) with l := (G.en Y).l - k, h := (G.en Y).h - k } (plainH (G.L s) G.en)) by rw [v2, v3, a6, PH5.out])
      have eY6 := d6.ent
      rw [EN5.out] at eY6
      obtain ⟨y0, _, y2, _, y8, y9, y10, hYl, fy9, fy10⟩ := eY6.cells
      simp only at y0 y2 y8 y9 y10
      obtain ⟨_, bm, _, _, hbl, _, _⟩ := p6.cells hs
      have V1 := hid v1
      have V3 := hid v3
      have P6 := hid p6
      have D6 := hid d6
      have HD6 := hid hd6
      have HY6 := hid hY6
      have HSH6 := hid hsh6
      have hGH : G1.H s = G2.H s := v1.H.symm
      rw [hGH]
      clear p6 a6 b6' d6 s6 hd6 hG2 v1 v2 v3 hY6 hsh6 eY6 hGH few5
      have hnl : (prs G1.en G2.live) = prs G2.en G2.live := by rw [V3.out]
      by_cases g2 : (G.en Y).l - k = 0
      · have g2' : ((G.en Y).l - k == 0) = true := by simpa using g2
        have G2E := hid g2
        have FIN := hid (show tradeH s (G.en Y) k (plainH (G.L s) G.en) = popH (plainH (G.L s) G.en) by unfold tradeH; rw [if_neg (Int.not_lt.2 NG1.out), if_pos g2])
        clear g2
        go_wp2
        refine region_tail 8 (by kernel_rfl) (by kernel_rfl) ?_
        simp only [List.take_succ_cons, List.take_zero, List.drop_succ_cons, List.drop_zero]
        repeat still_step
        refine wpStill_nil ?_
        obtain ⟨w7, r1, r2, r3⟩ := drop_pt (n := (G.en Y).n) (E := Y) (m' := prs G2.en G2.live) ((P6.out.perm PRS.out).below ((Below.refl _ w6).drew)) (by
          refine (prs_perm _ LV6.out).trans ?_
          rw [← hnl]
          show (((G1.en Y).n, Y) :: prs G1.en G2.live).Perm _
          rw [EN5.out]) 3
        refine wpList_delete_run rfl (.tmp 87) (.tmp 91) 88 3 rfl _ _ w7 rfl rfl r1 ?_
        have hd7 := (HD6.out.below ((Below.refl _ w6).drew)).step r3 (by omega)
        have fin : TradedP O q w b G nums evs s X x (G.en Y) k (.returned (.tuple #[])) w7 := by
          have dY := (D6.out.below ((Below.refl _ w6).drew)).step r3 c5
          obtain ⟨u1, u2, u3, u4, u5⟩ := r2.bury hs dY HY6.out
          have hne : X ≠ Y := hXY
          have st := ((S6.out.trans (Step.of_below ((Below.refl _ w6).drew) (colB q))).trans (r3.B (by omega) (by omega))).trans u2
          refine ⟨rfl, _, G2, u1, ⟨hd7.ent, by rw [paint_far _ hne]; exact hd7.col⟩, ?_, U1.out.trans V1.out, ?_, st, fun D n => Trk.move st (fun E hE => ?_)⟩
          rotate_left 2
          · have hE1 := LV6.out.mem_iff.1 (LV5.out.mem_iff.2 hE)
            rcases List.mem_cons.1 hE1 with rfl | hE1
            · right
              rw [EN5.out] at u5
              exact ⟨u3, u4, u5⟩
            · left
              exact ⟨hE1, by rw [V3.out, NUM5.out]⟩
          · rw [PH6.out, FIN.out, popH_setH (show frontH (plainH (G.L s) G.en) = some (G.en Y) by rw [front_plain HOKY.out.sh, HYF.out]; rfl)]
          · have := LV6.out.length_eq
            rw [LV5.out.length_eq, List.length_cons] at this
            omega
        have FN := hid fin
        clear fin r1 r2 r3 hd7
        go_wp2
        first | exact FN.out | (go_end0; exact FN.out)
      · have g2' : ((G.en Y).l - k == 0) = false := by simpa using g2
        obtain ⟨k2, hk2⟩ : ∃ k2, k2 = min (G.en Y).o.pk ((G.en Y).l - k) := ⟨_, rfl⟩
        have FIN := hid (show tradeH s (G.en Y) k (plainH (G.L s) G.en) = addH s { (G.en Y) with l := (G.en Y).l - k, h := k2 } (popH (plainH (G.L s) G.en)) by unfold tradeH; rw [if_neg (Int.not_lt.2 NG1.out), if_neg g2, hk2])
        have K2 := hid hk2
        clear g2 hk2
        go_wp2
        go_upto_region 12 with fail
        go_cut [] (fun wx => wx = w6.drew.setCell ⟨Y, 10, none⟩ (.int .i64 k2))
        case first =>
          go_region
          all_goals go_wp2
          all_goals go_meet
          all_goals (rw [K2.out]; exact congrArg (fun z => w6.drew.setCell ⟨Y, 10, none⟩ (Value.int .i64 z)) (by omega))
        case rest =>
          obtain ⟨w7, hw7⟩ : ∃ w7, w7 = w6.drew := ⟨_, rfl⟩
          have b7 : Below w6.heap.size w6 w7 := by rw [hw7]; exact (Below.refl _ w6).drew
          rw [← hw7] at hcut
          have p7 := P6.out.below b7
          have d7 := D6.out.below b7
          have hd7 := HD6.out.below b7
          have hOY2 := d7.col
          have kY : Kept (fun c => c = Y) w7 wc := by rw [hcut]; exact (Kept.refl (fun c => c = Y) w7).set (C := Y) rfl 10 _
          have s7 : Step (fun c => c = colS q s) O6 w7 O6 wc := Step.of_kept0 kY (fun c _ e => by rw [e]; exact hOY2)
          have eY7 : EnC wc Y { (G.en Y) with l := (G.en Y).l - k, h := k2 } false none := by
            have := d7.ent.setH k2
            rw [EN5.out] at this
            rw [hcut]
            exact this
          obtain ⟨f1, f2⟩ := p7.enF hs hOY2 { (G.en Y) with l := (G.en Y).l - k, h := k2 }
          have far : ∀ E ∈ ensL (G2.L s), setEn G2.en Y { (G.en Y) with l := (G.en Y).l - k, h := k2 } E = G2.en E := fun E hE => setEn_far _ _ (fun e => HY6.out (by rw [← e]; exact hE))
          have h8 : HlfC O6 (colS q s) wc (G2.H s) s (G2.L s) (setEn G2.en Y { (G.en Y) with l := (G.en Y).l - k, h := k2 }) := by
            have hh := p7.side hs
            obtain ⟨v, hv, _⟩ := hh.cell
            refine hh.keptG kY (hv.ne d7.ent (by decide)) (fun b cs _ hb => hb.ne d7.ent (by decide)) (fun x hx => ⟨(hh.lv x hx).1.c.ne d7.ent (by decide), fun y hy => ⟨?_, fun e => HY6.out (by rw [← e]; exact mem_ens hx hy)⟩⟩) (fun _ _ h => h) (fun x hx y hy => far _ (mem_ens hx hy))
            obtain ⟨cs, hc⟩ := (hh.lv x hx).el hy
            exact hc.ne d7.ent (by decide)
          obtain ⟨G3, hG3⟩ : ∃ G3, G3 = G2.put s (G2.L s) (setEn G2.en Y { (G.en Y) with l := (G.en Y).l - k, h := k2 }) := ⟨_, rfl⟩
          obtain ⟨z1, z2, z3⟩ := Mm.put_same hs G2 (G2.L s) _ f1 f2
          have p8 := p7.putSide hs s7 h8 f1 f2
          have hd8 := hd7.step s7 (fun e => c4 e.symm)
          have lv8 := Mm.put_live hs G2 (G2.L s) (setEn G2.en Y { (G.en Y) with l := (G.en Y).l - k, h := k2 })
          rw [← hG3] at z1 z2 z3 p8 lv8
          have en8 : G3.en Y = { (G.en Y) with l := (G.en Y).l - k, h := k2 } := by rw [z3, setEn_self]
          have ph8 : plainH (G3.L s) G3.en = plainH (G2.L s) G2.en := by rw [z2, z3]; exact plainH_congr far
          have hnn : ∀ E, (G3.en E).n = (G1.en E).n := fun E => by
            rw [z3, setEn_n G2.en Y { (G.en Y) with l := (G.en Y).l - k, h := k2 } (by rw [V3.out, EN5.out]) E, V3.out]
          have hl8 : (ensL (G3.L s)).length ≤ 5000 := by rw [z2]; exact hl6
          have hsh8 : HSh s (plainH (G3.L s) G3.en) := by rw [ph8]; exact HSH6.out
          have hY8 : Y ∉ ensL (G3.L s) := by rw [z2]; exact HY6.out
          have e8 : HdC O6 (colS q s) wc Y (G3.en Y) false := ⟨by rw [en8]; exact eY7, hOY2⟩
          have hGH : G2.H s = G3.H s := z1.H.symm
          have ad := add_pt p8 hs hsh8 hl8 hY8 e8
          have S8 := hid (((S6.out.trans (Step.of_below b7 (colB q))).trans (s7.B hc.1 hc.2)))
          have fin : ∀ e w9, AddedP O6 q wc b G3 nums (G.en Y).o.p (evs ++ [⟨1, x.n, (G.en Y).n, (G.en Y).o.p, k⟩]) (prs G.en G.live) s Y e w9 → e = .returned (.tuple #[]) ∧ TradedP O q w b G nums evs s X x (G.en Y) k (.returned (.tuple #[])) w9 := by
            rintro e w9 ⟨r1, O9, ls9, r2, r3, r4, r5⟩
            obtain ⟨y1, y2', y3⟩ := Mm.put_same hs G3 ls9 G3.en (fun _ _ => rfl) (fun _ _ => rfl)
            have lv9 := Mm.put_live hs G3 ls9 G3.en
            have lvY : (G3.put s ls9 G3.en).live.Perm (Y :: G3.live) := lv9.2.trans ((r4.append_right _).trans (lv9.1.symm.cons Y))
            have lvG : (G3.put s ls9 G3.en).live.Perm G1.live := by
              refine lvY.trans (List.Perm.trans ?_ LV6.out.symm)
              exact (lv8.2.trans lv8.1.symm).cons Y
            have st := S8.out.trans (r5.B hc.1 hc.2)
            refine ⟨r1, rfl, O9, _, r2.perm ?_, hd8.step r5 (fun e => c4 e.symm), ?_, ((U1.out.trans V1.out).trans z1).trans y1, ?_, st, fun D n => Trk.move st (fun E hE => .inl ⟨lvG.mem_iff.2 (LV5.out.mem_iff.2 hE), by rw [y3, hnn, NUM5.out]⟩)⟩
            · refine PRS.out.trans ((prs_perm _ lvG.symm).trans ?_)
              rw [y3]
              have := prs_congr (en := G1.en) (en' := G3.en) (l := (G3.put s ls9 G3.en).live) (fun E _ => hnn E)
              rw [this]
            · rw [y2', y3, r3, ph8, en8, FIN.out, PH6.out, popH_setH (show frontH (plainH (G.L s) G.en) = some (G.en Y) by rw [front_plain HOKY.out.sh, HYF.out]; rfl)]
            · rw [lvG.length_eq, LV5.out.length_eq]
              exact Nat.le_refl _
          have AD := hid (ad.mono fin)
          rw [hGH]
          clear fin ad hGH e8 hY8 hsh8 hl8 hnn ph8 en8 lv8 hd8 p8 z1 z2 z3 hG3 h8 far f1 f2 eY7 s7 kY hOY2 hd7 d7 p7 b7 hw7 hcut y0 y2 y8 y9 y10 hYl fy9 fy10 bm
          generalize TradedP O q w b G nums evs s X x (G.en Y) k = R at *
          go_wp2_with fail
          refine AD.out.mono ?_
          rintro e w9 ⟨rfl, r⟩
          have RR := hid r
          clear r
          go_wp2
          first | exact RR.out | (go_end0; exact RR.out)
end Go.Proofs.Ytdjhpldiifdifaa
