/- board.Fork: the walk. -/
import Derived.BigQuiet
import Derived.Deep.RegionHeld3
import Derived.Deep.DeepCutAuto
import Derived.Test.YtdjhpldiifdifaaJFrk1
import Derived.Test.YtdjhpldiifdifaaJNew
namespace Go.Proofs.Ytdjhpldiifdifaa
set_option linter.unusedSimpArgs false
set_option linter.unusedVariables false
open Go.RowKit Go.Shelf
attribute [local go_sem] Oper.semAt_some
attribute [local go_sem ↓] Go.wp_at_zero Go.wp_at_succ

set_option maxRecDepth 100000 in
set_option maxHeartbeats 8000000 in
theorem fork_calls {O : Nat → Nat} {q : Nat} {w : World} {b : Nat} {G : Mm} {nums last : Int} (h : BdC O q w b G nums last []) (q' : Nat) (hq : q + 6 ≤ q') :
    Calls Try.prog 36 #[pt b] w fun e w' => ∃ O' b' G', e = .returned (pt b') ∧ BdC O' q' w' b' G' nums last [] ∧ G'.bd nums last = G.bd nums last ∧ Step (colB q') O w O' w' := by
  have NW := hid (new_calls O q' w)
  have H := hid h
  have HQ := hid hq
  obtain ⟨R, hR⟩ : ∃ R : Ending → World → Prop, R = fun e w' => ∃ O' b' G', e = .returned (pt b') ∧ BdC O' q' w' b' G' nums last [] ∧ G'.bd nums last = G.bd nums last ∧ Step (colB q') O w O' w' := ⟨_, rfl⟩
  have HR := hid hR
  rw [← hR]
  clear h hq hR
  go_enter Try.func36, Try.ntmps36
  go_wp2_with fail
  refine NW.out.mono ?_
  rintro e w2 ⟨O1, b', G1, rfl, bd1, hG, hb1, hO1⟩
  obtain ⟨w3, hw3⟩ : ∃ w3, w3 = w2.alloc (.cells #[pt b'] 23) := ⟨_, rfl⟩
  have b3 : Below w2.heap.size w2 w3 := by rw [hw3]; exact (Below.refl _ _).alloc (Nat.le_refl _) _
  have st1 : Step (colB q') O w O1 w2 := ⟨hb1.os, hb1.tape, hb1.output, hb1.size, fun k hk _ => ⟨hb1.block k hk, hO1 k hk⟩, fun k hk e => .inl (by rw [hO1 k hk]; exact e)⟩
  obtain ⟨B3, hB3⟩ : ∃ B3, B3 = w2.heap.size := ⟨_, rfl⟩
  have stg : Step (fun _ => False) O1 w2 (grow O1 w2 0) w3 := ⟨b3.os, b3.tape, b3.output, b3.size, fun k hk _ => ⟨b3.block k hk, grow_old hk⟩, fun _ _ e => e.elim⟩
  have c3 : Cells w3 B3 #[pt b'] 23 := by rw [hw3, hB3]; exact Cells.new _ _ _
  have e1 : G1.bd 0 0 = ⟨[], [], [], 0, 0⟩ := hG
  have F3 := hid (show FkB O q' w b' [] [] [] [] 0 0 B3 (grow O1 w2 0) w3 G1 from by
    have hl : G1.live.map G1.en = [] := by
      have := Mm.bd_live G1 0 0
      rw [e1] at this
      exact this.symm
    exact ⟨(bd1.step stg (fun _ _ => not_false)).parts, (show (G1.bd 0 0).buy = [] by rw [e1]), (show (G1.bd 0 0).sell = [] by rw [e1]), (show (G1.bd 0 0).wait = [] by rw [e1]), by rw [hl], st1.trans (stg.wider (fun _ e => e.elim)), c3, by rw [hB3]; exact grow_new (Nat.le_refl _)⟩)
  obtain ⟨O3, hO3⟩ : ∃ O3, O3 = grow O1 w2 0 := ⟨_, rfl⟩
  rw [← hO3] at F3
  have OLD := hid (fun (O' : Nat → Nat) (w' : World) (st : Step (colB q') O w O' w') => (show BdC O' q w' b G nums last [] from H.out.step st (fun c h1 h2 => by have := h1.1; have := h1.2; have := h2.1; have := h2.2; have := HQ.out; omega)))
  have bo := OLD.out _ _ F3.out.st
  obtain ⟨vw, ve, t1, _⟩ := bo.top.cell
  obtain ⟨vw', ve', t2, _⟩ := F3.out.pt.top.cell
  have y5 : w3.cell? ⟨b, 5, none⟩ = some (.int .i64 nums) := by rw [t1.cell]; rfl
  have y6 : w3.cell? ⟨b, 6, none⟩ = some (.int .i64 last) := by rw [t1.cell]; rfl
  have yl := t1.lt
  have z5 : w3.cell? ⟨b', 5, none⟩ = some (.int .i64 0) := by rw [t2.cell]; rfl
  have z6 : w3.cell? ⟨b', 6, none⟩ = some (.int .i64 0) := by rw [t2.cell]; rfl
  have f5 := t2.frozen 5
  have f6 := t2.frozen 6
  have zl := t2.lt
  have x3 : w3.cell? ⟨B3, 0, none⟩ = some (pt b') := by rw [c3.cell]; rfl
  have xl := c3.lt
  have HW3 := hid hw3
  have HB3 := hid hB3
  clear bd1 hG hb1 hO1 hw3 b3 st1 hB3 stg c3 e1 hO3 bo t1 t2 NW
  go_upto_region 4 with fail
  rw [← HW3.out, ← HB3.out]
  go_cut [] (fun wx => ∃ O4, FkB O q' w b' [] [] [] [] nums last B3 O4 wx G1)
  case first =>
    go_region
    all_goals go_wp2
    all_goals go_meet
    all_goals (
      obtain ⟨p4, s4⟩ := F3.out.pt.setTop nums last
      obtain ⟨c4, o4⟩ := stay0 s4 F3.out.c3 F3.out.o3
      have bd := Below.drew (Below.refl ((w3.setCell ⟨b', 5, none⟩ (.int .i64 nums)).setCell ⟨b', 6, none⟩ (.int .i64 last)).heap.size ((w3.setCell ⟨b', 5, none⟩ (.int .i64 nums)).setCell ⟨b', 6, none⟩ (.int .i64 last)))
      exact ⟨O3, p4.below bd, F3.out.buy, F3.out.sell, F3.out.wait, F3.out.all, F3.out.st.trans (s4.trans (Step.of_below bd (colB q'))), c4.drew, o4⟩)
  case rest =>
    obtain ⟨O4, f4⟩ := hcut
    obtain ⟨w5, hw5⟩ : ∃ w5, w5 = wc.alloc (.cells #[.int .i64 1, .int .i64 2] 3) := ⟨_, rfl⟩
    have b5 : Below wc.heap.size wc w5 := by rw [hw5]; exact (Below.refl _ _).alloc (Nat.le_refl _) _
    obtain ⟨BS, hBS⟩ : ∃ BS, BS = wc.heap.size := ⟨_, rfl⟩
    have cS : Cells w5 BS #[.int .i64 1, .int .i64 2] 3 := by rw [hw5, hBS]; exact Cells.new _ _ _
    have F5 := hid (f4.after b5)
    have oS : grow O4 wc 0 BS = 0 := by rw [hBS]; exact grow_new (Nat.le_refl _)
    have CS := hid cS
    have OS := hid oS
    have HW5 := hid hw5
    have HBS := hid hBS
    obtain ⟨SB, hSB⟩ : ∃ SB, SB = plainH G.lb G.en := ⟨_, rfl⟩
    obtain ⟨SS, hSS⟩ : ∃ SS, SS = plainH G.ls G.en := ⟨_, rfl⟩
    have HSB := hid hSB
    have HSS := hid hSS
    clear f4 b5 cS oS hw5 hBS hSB hSS F3 y5 y6 yl z5 z6 f5 f6 zl x3 xl
    go_upto_block 0 with fail
    rw [← HW5.out, ← HBS.out]
    go_cut [] (fun wx => ∃ O7 G7, FkB O q' w b' SB SS [] (SS.all ++ SB.all) nums last B3 O7 wx G7)
    case first =>
      go_wp2_with fail
      go_loopg [28] 2 (fun k s28 wq => ∃ (i : Nat) (O' : Nat → Nat) (G' : Mm), s28 = .int .i64 i ∧ i ≤ 2 ∧ k = 2 - i ∧ FkL O q' w b' SB SS nums last B3 i O' wq G' ∧ Cells wq BS #[.int .i64 1, .int .i64 2] 3 ∧ O' BS = 0)
      case atStart => exact ⟨0, _, G1, rfl, by omega, by omega, .inl ⟨rfl, F5.out⟩, CS.out, OS.out⟩
      case round =>
        obtain ⟨i, O', G', rfl, hi2, hk, fl, cs, os⟩ := hrel
        have HK := hid hk
        have FL := hid fl
        have CS := hid cs
        have OS := hid os
        clear hk fl cs os F5
        by_cases hi : i < 2
        · have gi : (i : Int) < 2 := by omega
          have gi4 : (0 : Int) ≤ (i : Int) := by omega
          obtain ⟨s, hs⟩ : ∃ s, s = (i : Int) + 1 := ⟨_, rfl⟩
          have hs12 : s = 1 ∨ s = 2 := by omega
          have xs : wr.cell? ⟨BS, i, none⟩ = some (.int .i64 s) := by
            rw [CS.out.cell]
            have : i = 0 ∨ i = 1 := by omega
            rcases this with rfl | rfl
            · rw [hs]; rfl
            · rw [hs]; rfl
          have xsl := CS.out.lt
          obtain ⟨w6, hw6⟩ : ∃ w6, w6 = wr.alloc (.cells #[.int .i64 s] 3) := ⟨_, rfl⟩
          have b6 : Below wr.heap.size wr w6 := by rw [hw6]; exact (Below.refl _ _).alloc (Nat.le_refl _) _
          obtain ⟨B5, hB5⟩ : ∃ B5, B5 = wr.heap.size := ⟨_, rfl⟩
          have c5 : Cells w6 B5 #[.int .i64 s] 3 := by rw [hw6, hB5]; exact Cells.new _ _ _
          obtain ⟨w7, hw7⟩ : ∃ w7, w7 = w6.drew := ⟨_, rfl⟩
          have b7 : Below w6.heap.size w6 w7 := by rw [hw7]; exact (Below.refl _ w6).drew
          have b67 : Below wr.heap.size wr w7 := b6.trans (b7.mono b6.size)
          have fl7 := FL.out.after b67
          obtain ⟨O7, hO7⟩ : ∃ O7, O7 = grow O' wr 0 := ⟨_, rfl⟩
          rw [← hO7] at fl7
          have c57 := c5.below b7 c5.lt
          have o57 : O7 B5 = 0 := by rw [hO7, hB5]; exact grow_new (Nat.le_refl _)
          have cs7 := CS.out.below b67 CS.out.lt
          have os7 : O7 BS = 0 := by rw [hO7, grow_old CS.out.lt]; exact OS.out
          obtain ⟨p7, st7, c37, o37⟩ := fl7.base
          have bo7 := OLD.out _ _ st7
          have fl7' := fl7
          rw [HSB.out, HSS.out] at fl7'
          obtain ⟨D, h0, hD, hnod, hfew, hnext⟩ := fl7'.pre bo7 hi hs
          have hokS := bo7.sok hs12
          have fs := forkSide_calls hs12 (bo7.side hs12) (c := colS q s) (by have := colS_cases q hs12; have := HQ.out; rintro ⟨e1, e2⟩; have := this; omega) hokS (by have := lv_len hokS.sh; have := few_side (G := G) hs12; have := bo7.few; omega) p7 h0 hD hnod hfew bo7.ok.nums.2 c37 o37 c57 o57
          have FS := hid (fs.mono (R' := fun e w' => e = .returned (.tuple #[]) ∧ ∃ O2 G2, FkL O q' w b' SB SS nums last B3 (i + 1) O2 w' G2 ∧ Cells w' BS #[.int .i64 1, .int .i64 2] 3 ∧ O2 BS = 0) (fun e w' ⟨r1, O2, G2, r2, r3, r4, r5, r6⟩ => ⟨r1, O2, G2, by rw [HSB.out, HSS.out]; exact hnext r2 r3 r4 r5 r6, (stay0 r6 cs7 os7).1, (stay0 r6 cs7 os7).2⟩))
          obtain ⟨st6, c36⟩ : Step (colB q') O w O7 w6 ∧ Cells w6 B3 #[pt b'] 23 := by
            have fl6 := FL.out.after b6
            rw [← hO7] at fl6
            exact ⟨fl6.base.2.1, fl6.base.2.2.1⟩
          have bo6 := OLD.out _ _ st6
          obtain ⟨bs, _, _, _, hbl, _, _⟩ := bo6.parts.cells hs12
          have x5 : w6.cell? ⟨B5, 0, none⟩ = some (.int .i64 s) := by rw [c5.cell]; rfl
          have x5l := c5.lt
          have hs3 : 0 ≤ s ∧ s < 3 := by omega
          have HW6 := hid hw6
          have HW7 := hid hw7
          have HB5 := hid hB5
          clear hs hs12 hw6 b6 hB5 c5 hw7 b7 b67 fl7 hO7 c57 o57 cs7 os7 p7 st7 c37 o37 bo7 fl7' h0 hD hnod hfew hnext hokS fs st6 c36 bo6
          go_upto_region 8 with fail
          rw [← HW6.out, ← HB5.out]
          refine region_tail 7 (by kernel_rfl) (by kernel_rfl) ?_
          simp only [List.take_succ_cons, List.take_zero, List.drop_succ_cons, List.drop_zero]
          repeat still_step
          refine wpStill_nil ?_
          go_wp2_with fail
          rw [← HW7.out]
          refine FS.out.mono ?_
          rintro e w8 ⟨rfl, O8, G8, fl8, cs8, os8⟩
          have NX := hid (And.intro fl8 (And.intro cs8 os8))
          clear fl8 cs8 os8 bs hbl x5 x5l xs xsl
          go_wp2
          go_roundg (2 - (i + 1))
          · exact ⟨i + 1, O8, G8, by go_num, by omega, rfl, NX.out.1, NX.out.2.1, NX.out.2.2⟩
          · have := HK.out; omega
        · have gi : ¬ (i : Int) < 2 := by omega
          have F7 := hid (show FkB O q' w b' SB SS [] (SS.all ++ SB.all) nums last B3 O' wr G' by
            rcases FL.out with ⟨e, _⟩ | ⟨e, _⟩ | ⟨_, h⟩
            · omega
            · omega
            · exact h)
          go_wp2
          go_meet
          exact ⟨_, _, F7.out⟩
    case rest =>
      obtain ⟨O7, G7, f7⟩ := hcut
      have F7 := hid f7
      have bo := OLD.out _ _ f7.st
      obtain ⟨vw, w4, ow, ocol, bl, _⟩ := bo.parts.waits
      obtain ⟨pw, cw, gw, hvw, hpw, hcw⟩ := OwnE.cells (enc := encPt) (sz := 1) (fun _ => rfl) ow
      obtain ⟨nw, hnw⟩ : ∃ nw, nw = G.wt.length := ⟨_, rfl⟩
      rw [← hnw] at hvw hpw
      subst hvw
      have hnw4 : nw ≤ 4096 := by
        have h1 := bo.few
        unfold Mm.live at h1
        simp only [List.length_append] at h1
        omega
      obtain ⟨V, hV⟩ : ∃ V, V = G.wt.map G.en := ⟨_, rfl⟩
      have ONCE := hid (show (numsL (V ++ (SS.all ++ SB.all))).Nodup ∧ V.length + (SS.all ++ SB.all).length ≤ 4096 ∧ ∀ e ∈ V, (Lit.int .i64 e.n).wf = true by
        obtain ⟨_, _, n3⟩ := once_sides bo.ok
        have e2 : (G.bd nums last).wait = V := hV.symm
        have e3 : (G.bd nums last).sell = SS := HSS.out.symm
        have e4 : (G.bd nums last).buy = SB := HSB.out.symm
        rw [e2, e3, e4] at n3
        refine ⟨n3, ?_, fun e he => ?_⟩
        · have h1 := bo.few
          unfold Mm.live at h1
          rw [hV, HSS.out, HSB.out, plainH_all, plainH_all]
          simp only [List.length_append, List.length_map] at h1 ⊢
          omega
        · have hw := (bo.ok.wait e (by rw [e2]; exact he)).n
          have := bo.ok.nums
          exact WalkArith.wf_i64 (by omega))
      have HNW := hid hnw
      have HV := hid hV
      have OW := hid ow
      have OCOL := hid ocol
      have HPW := hid (show 0 < nw → pw = some ⟨gw, 0, none⟩ ∧ gw < wc.heap.size from fun h => ⟨(hpw h).1, (hpw h).2.2⟩)
      have HCW := hid (show ∀ i (hi : i < G.wt.length), wc.cell? ⟨gw, i, none⟩ = some (pt G.wt[i]) from fun i hi => by have := hcw i hi 0 (by omega); simpa [encPt] using this)
      clear f7 bo ow ocol hpw hcw hnw hV
      go_wp2_with fail
      go_loopg [46] nw (fun k s46 wq => ∃ (i : Nat) (O' : Nat → Nat) (G' : Mm), s46 = .int .i64 i ∧ i ≤ nw ∧ k = nw - i ∧ (∃ D, FkB O q' w b' SB SS (V.take i) D nums last B3 O' wq G' ∧ D.Perm (V.take i ++ (SS.all ++ SB.all))) ∧ Step (colB q') O7 wc O' wq)
      case atStart => exact ⟨0, O7, G7, rfl, by omega, by omega, ⟨_, F7.out, List.Perm.refl _⟩, Step.of_below (Below.refl _ _) _⟩
      case round =>
        obtain ⟨i, O', G', rfl, hi2, hk, ⟨D, fb, hD⟩, st⟩ := hrel
        have HK := hid hk
        have FB := hid fb
        have HD := hid hD
        have ST := hid st
        clear hk fb hD st w4 bl
        by_cases hi : i < nw
        · have gi : (i : Int) < (nw : Int) := by omega
          have gi4 : (0 : Int) ≤ (i : Int) := by omega
          have hil : i < G.wt.length := by rw [← HNW.out]; exact hi
          obtain ⟨rfl, hgl⟩ := HPW.out (by omega)
          obtain ⟨E, hE⟩ : ∃ E, E = G.wt[i] := ⟨_, rfl⟩
          have hEm : E ∈ G.wt := by rw [hE]; exact List.getElem_mem hil
          have bo := OLD.out _ _ FB.out.st
          have xw : wr.cell? ⟨gw, i, none⟩ = some (pt E) := by
            obtain ⟨cs, hcs⟩ := own_lt OW.out (x := gw) rfl
            have hcr := hcs.kept ST.out.kept (by
              show ¬ colB q' (O7 gw)
              have h1 := OCOL.out gw rfl
              rw [h1]
              have := HQ.out
              rintro ⟨e1, e2⟩
              omega)
            rw [hcr.cell, ← hcs.cell, HCW.out i hil, hE]
          have xwl : gw < wr.heap.size := Nat.lt_of_lt_of_le hgl ST.out.size
          obtain ⟨y, hy⟩ : ∃ y, y = G.en E := ⟨_, rfl⟩
          have eE := (bo.wait.ent E hEm).2
          rw [← hy] at eE
          have hyV : V[i]? = some y := by rw [HV.out, List.getElem?_map, List.getElem?_eq_getElem hil, ← hE, hy]; rfl
          have hyt : V.take (i + 1) = V.take i ++ [y] := by
            obtain ⟨h1, h2⟩ := List.getElem?_eq_some_iff.1 hyV
            rw [List.take_succ_eq_append_getElem h1, h2]
          have hyM : y ∈ V := List.mem_of_getElem? hyV
          have hnew : y.n ∉ numsL D := by
            intro hm
            have h1 := (numsL_perm HD.out).mem_iff.1 hm
            have e1 : V = V.take i ++ [y] ++ V.drop (i + 1) := by rw [← hyt, List.take_append_drop]
            have h2 := ONCE.out.1
            rw [e1] at h2
            have p1 : (V.take i ++ [y] ++ V.drop (i + 1) ++ (SS.all ++ SB.all)).Perm ((y :: (V.take i ++ (SS.all ++ SB.all))) ++ V.drop (i + 1)) := by
              rw [List.append_assoc, List.append_assoc]
              refine (List.perm_middle (l₁ := V.take i) (a := y) (l₂ := V.drop (i + 1) ++ (SS.all ++ SB.all))).trans ?_
              show List.Perm (y :: _) (y :: ((V.take i ++ (SS.all ++ SB.all)) ++ V.drop (i + 1)))
              refine List.Perm.cons y ?_
              rw [List.append_assoc]
              exact List.perm_append_comm.append_left _
            have h3 := (numsL_perm p1).nodup_iff.1 h2
            rw [numsL_append] at h3
            exact (List.nodup_cons.1 (List.nodup_append.1 h3).1).1 h1
          have hfew : D.length ≤ 4096 := by
            have h1 := HD.out.length_eq
            have h2 := ONCE.out.2.1
            rw [List.length_append, List.length_take] at h1
            omega
          obtain ⟨w6, hw6⟩ : ∃ w6, w6 = wr.alloc (.cells #[.int .i64 y.n, .int .i64 y.o.m, .int .i64 y.o.s, .int .i64 y.o.k, .int .i64 y.o.f, .int .i64 y.o.p, .int .i64 y.o.t, .int .i64 y.o.q, .int .i64 y.o.pk, .int .i64 y.l, .int .i64 y.h, .bool true, .pointer none] 99) := ⟨_, rfl⟩
          obtain ⟨⟨a1, a2, a3, a4, a5, a6⟩, w7, r7, ⟨d1, d2, d3⟩, vx, d4, ⟨px, nx, cx, rfl⟩, v', w9, r9, ⟨pv, nv, cv, rfl⟩, ⟨⟨u5, d5⟩, d6, d7, d8, d9⟩, O9, fb9, st9⟩ := fkb_waits FB.out (y := y) (ONCE.out.2.2 y hyM) hnew hfew w6 hw6
          have R7 := hid r7
          have R9 := hid r9
          have FB9 := hid (show ∃ D, FkB O q' w b' SB SS (V.take (i + 1)) D nums last B3 O9 (w9.setCell ⟨b', 4, none⟩ (.slice pv nv cv)) { G' with wt := G'.wt ++ [wr.heap.size], en := setEn G'.en wr.heap.size y } ∧ D.Perm (V.take (i + 1) ++ (SS.all ++ SB.all)) by
            rw [hyt]
            refine ⟨y :: D, fb9, ?_⟩
            rw [List.append_assoc]
            exact (HD.out.cons y).trans List.perm_middle.symm)
          have ST9 := hid (ST.out.trans st9)
          obtain ⟨k0, k1, k2, k3, k4, k5, k6, k7, k8, k9, k10, k11, k12⟩ : wr.cell? ⟨E, 0, none⟩ = some (.int .i64 y.n) ∧ wr.cell? ⟨E, 1, none⟩ = some (.int .i64 y.o.m) ∧ wr.cell? ⟨E, 2, none⟩ = some (.int .i64 y.o.s) ∧ wr.cell? ⟨E, 3, none⟩ = some (.int .i64 y.o.k) ∧ wr.cell? ⟨E, 4, none⟩ = some (.int .i64 y.o.f) ∧ wr.cell? ⟨E, 5, none⟩ = some (.int .i64 y.o.p) ∧ wr.cell? ⟨E, 6, none⟩ = some (.int .i64 y.o.t) ∧ wr.cell? ⟨E, 7, none⟩ = some (.int .i64 y.o.q) ∧ wr.cell? ⟨E, 8, none⟩ = some (.int .i64 y.o.pk) ∧ wr.cell? ⟨E, 9, none⟩ = some (.int .i64 y.l) ∧ wr.cell? ⟨E, 10, none⟩ = some (.int .i64 y.h) ∧ wr.cell? ⟨E, 11, none⟩ = some (.bool true) ∧ wr.cell? ⟨E, 12, none⟩ = some (.pointer none) := by
            refine ⟨?_, ?_, ?_, ?_, ?_, ?_, ?_, ?_, ?_, ?_, ?_, ?_, ?_⟩ <;> (rw [Cells.cell eE]; rfl)
          have kl := Cells.lt eE
          have HW6 := hid hw6
          obtain ⟨X, hX⟩ : ∃ X, X = wr.heap.size := ⟨_, rfl⟩
          rw [← hX] at a5 a6 R7 R9 FB9
          have HX := hid hX
          clear hE hEm bo eE hy hyV hyt hyM hnew hfew hw6 r7 r9 fb9 st9 hgl hil hX
          go_upto_region 14 with fail
          rw [← HW6.out, ← HX.out]
          clear k0 k1 k2 k3 k4 k5 k6 k7 k8 k9 k10 k11 k12 kl xw xwl
          refine region_tail 6 (by kernel_rfl) (by kernel_rfl) ?_
          simp only [List.take_succ_cons, List.take_zero, List.drop_succ_cons, List.drop_zero]
          repeat still_step
          refine wpStill_nil ?_
          refine wpList_mapUpdate_run rfl (.tmp 56) (.tmp 58) (.tmp 8) _ rfl _ _ _ w7 rfl rfl rfl R7.out ?_
          clear a1 a2 a3 a4 a5 a6
          go_upto_region 15 with fail
          go_region_law (refine step_append_run rfl (.tmp 63) (.tmp 64) 89 rfl _ _ (.slice pv nv cv) w9 (by simp [Act.eval, Act.put]) (by simp [Act.eval, Act.put]) R9.out ?_)
          all_goals (
            go_wp2
            go_roundg (nw - (i + 1))
            · exact ⟨i + 1, O9, _, by go_num, by omega, by omega, FB9.out, ST9.out⟩
            · have := HK.out; omega)
        · have hin : i = nw := by omega
          subst hin
          have gi : decide ((i : Int) < (i : Int)) = false := by simp
          have FN := hid (show ∃ O2 G2, PtC O2 q' wr b' G2 nums last [] (prs G2.en G2.live) ∧ G2.bd nums last = G.bd nums last ∧ Step (colB q') O w O2 wr ∧ wr.cell? ⟨B3, 0, none⟩ = some (pt b') ∧ B3 < wr.heap.size ∧ G2.live.length ≤ 4096 by
            have f := FB.out
            have hVl : V.take i = V := List.take_of_length_le (by rw [HV.out, List.length_map, ← HNW.out]; exact Nat.le_refl _)
            have e1 := f.wait
            rw [hVl, HV.out] at e1
            refine ⟨O', G', f.pt, ?_, f.st, by rw [f.c3.cell]; rfl, f.c3.lt, ?_⟩
            · show Bd.mk _ _ _ _ _ = Bd.mk _ _ _ _ _
              rw [f.buy, f.sell, e1, HSB.out, HSS.out]
            · have h1 := f.all.length_eq
              have h2 := HD.out.length_eq
              have h3 := ONCE.out.2.1
              rw [List.length_map] at h1
              rw [List.length_append, List.length_take] at h2
              omega)
          obtain ⟨O2, G2, p2, e2, s2, x3, xl, hl⟩ := FN.out
          have FIN := hid (show R (.returned (pt b')) wr by
            rw [HR.out]
            exact ⟨O2, b', G2, rfl, p2.board (by rw [e2]; exact H.out.ok) hl, e2, s2⟩)
          clear p2 e2 s2 hl FN
          go_wp2
          first | exact FIN.out | (go_ret; exact FIN.out)
end Go.Proofs.Ytdjhpldiifdifaa
