/- StockForks: its walk. -/
import Derived.Test.YtnnbdjfeagcbdaaJFork
namespace Go.Proofs.Ytnnbdjfeagcbdaa
set_option linter.unusedSimpArgs false
set_option linter.unusedVariables false
open Go.RowKit Go.Shelf
attribute [local go_sem] Oper.semAt_some

/-- One register abides a call done to another. -/
theorem Lk.turned {B : Nat} {W w w' : World} {sB vB rB uB : Nat} {vs us : List T} {v u : Value} (h : Lk B W w sB vB vs v) (o : Lk B W w rB uB us u) (hB : B ≤ w.heap.size) (tu : Turned rB uB w w') (h1 : sB ≠ rB) (h2 : vB ≠ uB) : Lk B W w' sB vB vs v :=
  ⟨⟨h.reg.st.turned o.reg.st tu h1 h2, h.reg.fine, h.reg.tiles, h.reg.canon, h.reg.zero, h.reg.below.trans (tu.below o.reg.ls o.reg.lv hB), h.reg.ls, h.reg.lv⟩, h.ref.turned o.reg.st tu, h.bc⟩
/-- Before the fork's own calls, and behind some: the fork with its reference, the register with its own. -/
structure Two1 (w : World) (X Y fB sB vB : Nat) (vs : List T) (x0 : Value) (gB : Nat) (us : List T) (y0 : Value) (wr : World) : Prop where
  f : Lk w.heap.size w wr fB gB us (.agg #[y0])
  s : Lk w.heap.size w wr sB vB vs (.agg #[x0])
  cx : Cells wr X #[x0] 58
  cy : Cells wr Y #[y0] 58
  ext : ∃ e, us = vs ++ e
  d : gB ≠ X ∧ gB ≠ Y ∧ vB ≠ gB
theorem Two1.after {w : World} {X Y fB sB vB : Nat} {vs : List T} {x0 : Value} {gB : Nat} {us : List T} {y0 : Value} {wr wx : World} (h : Two1 w X Y fB sB vB vs x0 gB us y0 wr) (hb : Below wr.heap.size wr wx) : Two1 w X Y fB sB vB vs x0 gB us y0 wx :=
  ⟨h.f.after h.f.reg.below.size hb, h.s.after h.s.reg.below.size hb, h.cx.below hb h.cx.lt, h.cy.below hb h.cy.lt, h.ext, h.d⟩
/-- A call done to the fork, its reference stored. -/
theorem Two1.step {w : World} {X Y fB sB vB : Nat} {vs : List T} {x0 : Value} {gB : Nat} {us : List T} {y0 : Value} {wr wx : World} (h : Two1 w X Y fB sB vB vs x0 gB us y0 wr) {uB : Nat} {us' : List T} {y1 : Value} (hf : fB ≠ sB ∧ X ≠ fB ∧ Y ≠ fB ∧ X ≠ Y ∧ Y ≠ sB ∧ Y ≠ vB ∧ w.heap.size ≤ Y)
    (lk : Lk w.heap.size w wx fB uB us' (.agg #[y1])) (tu : Turned fB gB wr wx) (hu : uB = gB ∨ wr.heap.size ≤ uB) (hus : us' = us ∨ ∃ t', us' = us ++ [t']) :
    Two1 w X Y fB sB vB vs x0 uB us' y1 (wx.setCell ⟨Y, 0, none⟩ y1) ∧ us'.length ≤ us.length + 1 := by
  have cx := (tu.block X h.cx.lt hf.2.1 (fun e => h.d.1 e.symm)).trans h.cx
  have cy : Cells wx Y #[y0] 58 := (tu.block Y h.cy.lt hf.2.2.1 (fun e => h.d.2.1 e.symm)).trans h.cy
  have ls := h.s.turned h.f h.f.reg.below.size tu hf.1.symm h.d.2.2
  have hx := h.cx.lt
  have hy := h.cy.lt
  have hv := h.s.reg.st.lt
  have du : uB ≠ X ∧ uB ≠ Y ∧ vB ≠ uB := by
    rcases hu with e | e
    · rw [e]; exact h.d
    · omega
  refine ⟨⟨lk.set cy hf.2.2.1 du.2.1.symm hf.2.2.2.2.2.2 y1, ls.set cy hf.2.2.2.2.1 hf.2.2.2.2.2.1 hf.2.2.2.2.2.2 y1, Cells.set_far (show Cells wx X #[x0] 58 from cx) 0 y1 hf.2.2.2.1, cy.set 0 y1, ?_, du⟩, ?_⟩
  · obtain ⟨e, he⟩ := h.ext
    rcases hus with h1 | ⟨t', h1⟩
    · exact ⟨e, by rw [h1, he]⟩
    · exact ⟨e ++ [t'], by rw [h1, he, List.append_assoc]⟩
  · rcases hus with h1 | ⟨t', h1⟩
    · rw [h1]; omega
    · rw [h1]; simp
/-- Behind the fork's calls: the register's own. -/
structure Two2 (w : World) (X Y Z fB sB gB : Nat) (us vs0 : List T) (x0 y0 : Value) (vB : Nat) (vs : List T) (z0 : Value) (wr : World) : Prop where
  s : Lk w.heap.size w wr sB vB vs (.agg #[z0])
  f : Lk w.heap.size w wr fB gB us (.agg #[y0])
  x : RefAt wr (.agg #[x0]) (vs0.map inT)
  cx : Cells wr X #[x0] 58
  cy : Cells wr Y #[y0] 58
  cz : Cells wr Z #[z0] 58
  d : vB ≠ X ∧ vB ≠ Y ∧ vB ≠ Z ∧ vB ≠ gB
theorem Two2.after {w : World} {X Y Z fB sB gB : Nat} {us vs0 : List T} {x0 y0 : Value} {vB : Nat} {vs : List T} {z0 : Value} {wr wx : World} (h : Two2 w X Y Z fB sB gB us vs0 x0 y0 vB vs z0 wr) (hb : Below wr.heap.size wr wx) : Two2 w X Y Z fB sB gB us vs0 x0 y0 vB vs z0 wx :=
  ⟨h.s.after h.s.reg.below.size hb, h.f.after h.f.reg.below.size hb, h.x.below hb, h.cx.below hb h.cx.lt, h.cy.below hb h.cy.lt, h.cz.below hb h.cz.lt, h.d⟩
theorem Two2.step {w : World} {X Y Z fB sB gB : Nat} {us vs0 : List T} {x0 y0 : Value} {vB : Nat} {vs : List T} {z0 : Value} {wr wx : World} (h : Two2 w X Y Z fB sB gB us vs0 x0 y0 vB vs z0 wr) {uB : Nat} {vs' : List T} {z1 : Value}
    (hf : fB ≠ sB ∧ X ≠ sB ∧ Y ≠ sB ∧ Z ≠ sB ∧ X ≠ Z ∧ Y ≠ Z ∧ Z ≠ fB ∧ Z ≠ gB ∧ w.heap.size ≤ Z)
    (lk : Lk w.heap.size w wx sB uB vs' (.agg #[z1])) (tu : Turned sB vB wr wx) (hu : uB = vB ∨ wr.heap.size ≤ uB) (hus : vs' = vs ∨ ∃ t', vs' = vs ++ [t']) :
    Two2 w X Y Z fB sB gB us vs0 x0 y0 uB vs' z1 (wx.setCell ⟨Z, 0, none⟩ z1) ∧ vs'.length ≤ vs.length + 1 := by
  obtain ⟨h1, h2, h3, h4, h5, h6, h7, h8, h9⟩ := hf
  have cx : Cells wx X #[x0] 58 := (tu.block X h.cx.lt h2 (fun e => h.d.1 e.symm)).trans h.cx
  have cy : Cells wx Y #[y0] 58 := (tu.block Y h.cy.lt h3 (fun e => h.d.2.1 e.symm)).trans h.cy
  have cz : Cells wx Z #[z0] 58 := (tu.block Z h.cz.lt h4 (fun e => h.d.2.2.1 e.symm)).trans h.cz
  have lf := h.f.turned h.s h.s.reg.below.size tu h1 (fun e => h.d.2.2.2 e.symm)
  have rx := h.x.turned h.s.reg.st tu
  have l1 := h.cx.lt
  have l2 := h.cy.lt
  have l3 := h.cz.lt
  have l4 := h.f.reg.st.lt
  have du : uB ≠ X ∧ uB ≠ Y ∧ uB ≠ Z ∧ uB ≠ gB := by
    rcases hu with e | e
    · rw [e]; exact h.d
    · omega
  refine ⟨⟨lk.set cz h4 du.2.2.1.symm h9 z1, lf.set cz h7 h8 h9 z1, rx.set cz z1, cx.set_far 0 z1 h5, cy.set_far 0 z1 h6, cz.set 0 z1, du⟩, ?_⟩
  rcases hus with h1 | ⟨t', h1⟩
  · rw [h1]; omega
  · rw [h1]; simp

set_option maxRecDepth 100000 in
set_option maxHeartbeats 16000000 in
theorem forks_calls (w : World) (v v2 : Value) (l l2 : List Ac) (hv : ReadsE encA 6 w v l) (hv2 : ReadsE encA 6 w v2 l2) :
    Calls Try.prog 10 #[v, v2] w fun e w' => e = .returned (.bool true) ∧ Below w.heap.size w w' := by
  obtain ⟨hm2, p, cap, b, off, rfl, hp, hc⟩ := hv2
  obtain ⟨n, hn⟩ : ∃ n, n = l2.length := ⟨_, rfl⟩
  rw [← hn] at hp hm2 ⊢
  have HP := hid hp
  have HC := hid hc
  have HN := hid hn
  have HV := hid hv
  clear hv hp hc hn
  go_enter Try.func10, Try.ntmps10
  go_wp2_with fail
  refine (run_calls w v l HV.out 20 (by omega)).mono ?_
  rintro e w1 ⟨sB, vB, vs, v1, rfl, lk1, hvs⟩
  obtain ⟨bs, ns, cs, rfl⟩ := lk1.ref.agg
  obtain ⟨m, t, hml, htl, htm, hbt, hlast⟩ := lk1.last
  have hns : ns = m + 1 := by have := lk1.ref.len; simp at this; omega
  subst hns
  have hz1 := lk1.reg.below.size
  obtain ⟨W1, hW1⟩ : ∃ W1, W1 = w1.alloc (.cells #[.slice (some ⟨bs, 0, none⟩) (m + 1) cs] 58) := ⟨_, rfl⟩
  have LA := hid (show Lk w.heap.size w W1 sB vB vs (.agg #[.slice (some ⟨bs, 0, none⟩) (m + 1) cs]) by rw [hW1]; exact lk1.after hz1 ((Below.refl _ _).alloc (Nat.le_refl _) _))
  obtain ⟨X, hX⟩ : ∃ X, X = w1.heap.size := ⟨_, rfl⟩
  have CX := hid (show Cells W1 X #[.slice (some ⟨bs, 0, none⟩) (m + 1) cs] 58 by rw [hX, hW1]; exact Cells.new _ _ _)
  have hlt1 := lk1.reg.st.lt
  have hlX : sB < X ∧ vB < X ∧ X < W1.heap.size ∧ w.heap.size ≤ X := by rw [hX, hW1]; simp; omega
  obtain ⟨hx1, hx2, hx3, hx4⟩ := hlX
  have HW1 := hid hW1
  have HX := hid hX
  have hzW : w.heap.size ≤ W1.heap.size := LA.out.reg.below.size
  have HML := hid hml
  have HTM := hid htm
  have HBT := hid hbt
  have HLA := hid hlast
  have hvn : vs.length ≤ 1000 := by omega
  have hm20 : m ≤ 20 := by omega
  have hm99 : m ≤ 999 := by omega
  clear lk1 hW1 hX hml htm hbt hlast htl
  go_wp2_with fail
  rw [← HW1.out, ← HX.out]
  refine (fork_calls LA.out.reg hvn).mono ?_
  rintro e w2 ⟨fB, gB0, rfl, fst, hfl, hgl, hfg, hb2⟩
  have L2 := hid (LA.out.after hzW hb2)
  have LF2 := hid (show Lk w.heap.size w w2 fB gB0 vs (.agg #[.slice (some ⟨bs, 0, none⟩) (m + 1) cs]) from ⟨⟨fst, L2.out.reg.fine, L2.out.reg.tiles, L2.out.reg.canon, L2.out.reg.zero, L2.out.reg.below, Nat.le_trans hzW hfl, Nat.le_trans hzW hgl⟩, L2.out.ref, L2.out.bc⟩)
  have CX2 := hid (CX.out.below hb2 hx3)
  have hz2 := hb2.size
  have hflt := fst.lt
  clear fst hb2 LA CX
  go_wp2_with fail
  refine (version_lk LF2.out HML.out hm99).mono ?_
  rintro e w3 ⟨rfl, hb3⟩
  have L3 := hid (L2.out.after (by omega) hb3)
  have LF3 := hid (LF2.out.after (by omega) hb3)
  have CX3 := hid (CX2.out.below hb3 (by omega))
  have hz3 := hb3.size
  clear hb3 L2 LF2 CX2
  go_wp2_with fail
  refine (version_lk L3.out HML.out hm99).mono ?_
  rintro e w4 ⟨rfl, hb4⟩
  have L4 := hid (L3.out.after (by omega) hb4)
  have LF4 := hid (LF3.out.after (by omega) hb4)
  have CX4 := hid (CX3.out.below hb4 (by omega))
  have hz4 := hb4.size
  have xc := cell_one CX4.out
  have xl := CX4.out.lt
  clear hb4 L3 LF3 CX3
  obtain ⟨W5, hW5⟩ : ∃ W5, W5 = w4.alloc (.cells #[.slice (some ⟨bs, 0, none⟩) (m + 1) cs] 58) := ⟨_, rfl⟩
  obtain ⟨Y, hY⟩ : ∃ Y, Y = w4.heap.size := ⟨_, rfl⟩
  have HY := hid hY
  have HW5 := hid hW5
  have S5 := hid (show Two1 w X Y fB sB vB vs (.slice (some ⟨bs, 0, none⟩) (m + 1) cs) gB0 vs (.slice (some ⟨bs, 0, none⟩) (m + 1) cs) W5 by
    rw [hW5, hY]
    exact ⟨LF4.out.after (by omega) ((Below.refl _ _).alloc (Nat.le_refl _) _), L4.out.after (by omega) ((Below.refl _ _).alloc (Nat.le_refl _) _), CX4.out.alloc _, Cells.new _ _ _, ⟨[], by simp⟩, by omega⟩)
  have hf : fB ≠ sB ∧ X ≠ fB ∧ Y ≠ fB ∧ X ≠ Y ∧ Y ≠ sB ∧ Y ≠ vB ∧ w.heap.size ≤ Y := by omega
  have HF := hid hf
  have hz5 : w4.heap.size < W5.heap.size := by rw [hW5]; simp
  clear hW5 hY hf L4 LF4 CX4
  go_upto_block 0 with fail
  rw [← HW5.out, ← HY.out]
  clear xc xl
  go_cut [9] (fun s9 wx => ∃ (b5 n5 c5 gB : Nat) (us : List T), s9 = .bool true ∧ us.length ≤ m + 13 ∧ Two1 w X Y fB sB vB vs (.slice (some ⟨bs, 0, none⟩) (m + 1) cs) gB us (.slice (some ⟨b5, 0, none⟩) n5 c5) wx)
  case first =>
    go_wp2_with fail
    go_loopg [9, 10] 12 (fun k s9 s10 wr => ∃ (i b5 n5 c5 gB : Nat) (us : List T), i + k = 12 ∧ s9 = .bool true ∧ s10 = .int .i64 i ∧ us.length ≤ m + 1 + i ∧ Two1 w X Y fB sB vB vs (.slice (some ⟨bs, 0, none⟩) (m + 1) cs) gB us (.slice (some ⟨b5, 0, none⟩) n5 c5) wr)
    case atStart => exact ⟨0, bs, m + 1, cs, gB0, vs, rfl, rfl, rfl, by rw [HML.out]; omega, S5.out⟩
    case round =>
      obtain ⟨i, b5, n5, c5, gB, us, hik, rfl, rfl, hus, two⟩ := hrel
      have TW := hid two
      have y0 := cell_one two.cy
      have lY := two.cy.lt
      have hsz := two.f.reg.below.size
      have BW := hid two.f.reg.below
      by_cases hi : i < n
      · have g1 : decide ((i : Int) < (n : Int)) = true := by simpa using hi
        by_cases h3 : i < 12
        · have g2 : decide ((i : Int) < 12) = true := by simp; omega
          have i64 : IntKind.i64.wrap ((i : Int) + 1) = (i : Int) + 1 := IntWalk.i64_in _ (by omega)
          have hil : i < l2.length := by rw [← HN.out]; exact hi
          obtain ⟨rfl, hbl⟩ := HP.out (by omega)
          obtain ⟨x, hx⟩ : ∃ x, x = l2[i] := ⟨_, rfl⟩
          have ACT := hid (fun (wx : World) (hwx : ∀ o, wx.cell? ⟨b, o, none⟩ = w.cell? ⟨b, o, none⟩) => act_cell (x := x) hwx (fun j hj => by rw [hx]; exact HC.out i hil j hj))
          have AW := hid (ACT.out wr (fun o => BW.out.cell (p := ⟨b, o, none⟩) hbl))
          obtain ⟨d0, d1, d2, d3, d4, d5⟩ := AW.out
          have n2 : (0 : Int) ≤ (i : Int) := by omega
          have n3 : (i : Int) < (n : Int) := by omega
          have hun : us.length ≤ 999 := by omega
          have TE := hid (show Two1 w X Y fB sB vB vs (.slice (some ⟨bs, 0, none⟩) (m + 1) cs) gB us (.slice (some ⟨b5, 0, none⟩) n5 c5) wr.drew from two.after (Below.refl _ _).drew)
          have LE := hid TE.out.f
          have hsze : w.heap.size ≤ wr.drew.heap.size := hsz
          have hbY : b ≠ Y := by have := HF.out; omega
          have hYf : Y ≠ fB ∧ Y ≠ gB := ⟨HF.out.2.2.1, two.d.2.1.symm⟩
          have lYe : Y < wr.drew.heap.size := lY
          clear hx two hm2
          go_wp2
          go_region_with ((go_at_call 30; (refine (do_lk LE.out hsze hun x.k x.f x.c x.l x.a x.b).mono ?_); rintro e w5 ⟨v5, us5, uB, rfl, lk5, tu5, hu5, hus5⟩; obtain ⟨b7, n7, c7, rfl⟩ := lk5.ref.agg; have a5 := ACT.out w5 (fun o => lk5.reg.below.cell (p := ⟨b, o, none⟩) hbl); have cy5 : Cells w5 Y #[.slice (some ⟨b5, 0, none⟩) n5 c5] 58 := (tu5.block Y lYe hYf.1 hYf.2).trans TE.out.cy; have x5 := cell_one cy5; have x6 := cy5.frozen 0; have x7 := cy5.lt))
          all_goals (
            have ST1 := hid (TE.out.step HF.out lk5 tu5 hu5 hus5)
            clear lk5 tu5 hu5 hus5 cy5 a5 x5 x6 x7
            go_wp2
            go_roundg (gk - 1)
            · exact ⟨i + 1, b7, n7, c7, uB, us5, by omega, rfl, rfl, by have := ST1.out.2; omega, ST1.out.1⟩
            · omega)
        · have g2 : decide ((i : Int) < 12) = false := by simp; omega
          clear two
          go_wp2
          go_meet
          case rel => exact ⟨b5, n5, c5, gB, us, rfl, by omega, TW.out⟩
      · have g1 : decide ((i : Int) < (n : Int)) = false := by simpa using hi
        clear two
        go_wp2
        go_meet
        case rel => exact ⟨b5, n5, c5, gB, us, rfl, by omega, TW.out⟩
  case rest =>
    obtain ⟨b5, n5, c5, gB, us, rfl, hus, two⟩ := hcut
    have TW := hid two
    have x0 := cell_one two.cx
    have lX := two.cx.lt
    have hsz6 := two.f.reg.below.size
    have hsl := two.s.reg.st.lt
    have hfl2 := two.f.reg.st.lt
    have lY6 := two.cy.lt
    obtain ⟨W6, hW6⟩ : ∃ W6, W6 = wc.alloc (.cells #[.slice (some ⟨bs, 0, none⟩) (m + 1) cs] 58) := ⟨_, rfl⟩
    obtain ⟨Z, hZ⟩ : ∃ Z, Z = wc.heap.size := ⟨_, rfl⟩
    have HZ := hid hZ
    have HW6 := hid hW6
    have S6 := hid (show Two2 w X Y Z fB sB gB us vs (.slice (some ⟨bs, 0, none⟩) (m + 1) cs) (.slice (some ⟨b5, 0, none⟩) n5 c5) vB vs (.slice (some ⟨bs, 0, none⟩) (m + 1) cs) W6 by
      rw [hW6, hZ]
      have t2 := TW.out.after ((Below.refl wc.heap.size wc).alloc (Nat.le_refl _) (.cells #[.slice (some ⟨bs, 0, none⟩) (m + 1) cs] 58))
      have hd := two.d
      exact ⟨t2.s, t2.f, t2.s.ref, t2.cx, t2.cy, Cells.new _ _ _, by have := HF.out; omega⟩)
    have HG := hid (show fB ≠ sB ∧ X ≠ sB ∧ Y ≠ sB ∧ Z ≠ sB ∧ X ≠ Z ∧ Y ≠ Z ∧ Z ≠ fB ∧ Z ≠ gB ∧ w.heap.size ≤ Z by have := HF.out; omega)
    have hub : us.length ≤ 999 := by omega
    have EX := hid two.ext
    have nn1 : IntKind.i64.wrap ((n : Int) - 1) = (n : Int) - 1 := IntWalk.i64_in _ (by omega)
    clear hW6 hZ two TW S5
    go_upto_block 2 with fail
    rw [← HW6.out, ← HZ.out]
    clear x0 lX
    go_cut [9] (fun s9 wx => ∃ (b6 n6 c6 vC : Nat) (vt : List T), s9 = .bool true ∧ vt.length ≤ m + 13 ∧ Two2 w X Y Z fB sB gB us vs (.slice (some ⟨bs, 0, none⟩) (m + 1) cs) (.slice (some ⟨b5, 0, none⟩) n5 c5) vC vt (.slice (some ⟨b6, 0, none⟩) n6 c6) wx)
    case first =>
      go_wp2_with fail
      go_loopg [9, 12] 10 (fun k s9 s12 wr => ∃ (j : Int) (q b6 n6 c6 vC : Nat) (vt : List T), q + k = 10 ∧ s9 = .bool true ∧ s12 = .int .i64 j ∧ j = (n : Int) - 1 - q ∧ vt.length ≤ m + 1 + q ∧ Two2 w X Y Z fB sB gB us vs (.slice (some ⟨bs, 0, none⟩) (m + 1) cs) (.slice (some ⟨b5, 0, none⟩) n5 c5) vC vt (.slice (some ⟨b6, 0, none⟩) n6 c6) wr)
      case atStart => exact ⟨(n : Int) - 1, 0, bs, m + 1, cs, vB, vs, rfl, rfl, rfl, by omega, by rw [HML.out]; omega, S6.out⟩
      case round =>
        obtain ⟨j, q, b6, n6, c6, vC, vt, hqk, rfl, rfl, hjq, hvt, two⟩ := hrel
        have TW := hid two
        have y0 := cell_one two.cz
        have lZ := two.cz.lt
        have hsz := two.f.reg.below.size
        have BW := hid two.f.reg.below
        have nn2 : IntKind.i64.wrap ((n : Int) - 10) = (n : Int) - 10 := IntWalk.i64_in _ (by omega)
        have hqb : vt.length ≤ m + 13 := by omega
        by_cases h1 : 0 ≤ j
        · have f1 : decide (0 ≤ j) = true := by simpa using h1
          by_cases h2 : (n : Int) - 10 < j
          · have f2 : decide ((n : Int) - 10 < j) = true := by simpa using h2
            obtain ⟨i, rfl⟩ : ∃ i : Nat, j = i := ⟨j.toNat, by omega⟩
            have HJ := hid hjq
            have hin : i < n := by omega
            have hq9 : q < 9 := by omega
            have i64 : IntKind.i64.wrap ((i : Int) - 1) = (i : Int) - 1 := IntWalk.i64_in _ (by omega)
            have hil : i < l2.length := by rw [← HN.out]; exact hin
            obtain ⟨rfl, hbl⟩ := HP.out (by omega)
            obtain ⟨x, hx⟩ : ∃ x, x = l2[i] := ⟨_, rfl⟩
            have ACT := hid (fun (wx : World) (hwx : ∀ o, wx.cell? ⟨b, o, none⟩ = w.cell? ⟨b, o, none⟩) => act_cell (x := x) hwx (fun j hj => by rw [hx]; exact HC.out i hil j hj))
            have AW := hid (ACT.out wr (fun o => BW.out.cell (p := ⟨b, o, none⟩) hbl))
            obtain ⟨d0, d1, d2, d3, d4, d5⟩ := AW.out
            have n2 : (0 : Int) ≤ (i : Int) := by omega
            have n3 : (i : Int) < (n : Int) := by omega
            have hun : vt.length ≤ 999 := by omega
            have TE := hid (show Two2 w X Y Z fB sB gB us vs (.slice (some ⟨bs, 0, none⟩) (m + 1) cs) (.slice (some ⟨b5, 0, none⟩) n5 c5) vC vt (.slice (some ⟨b6, 0, none⟩) n6 c6) wr.drew from two.after (Below.refl _ _).drew)
            have LE := hid TE.out.s
            have hsze : w.heap.size ≤ wr.drew.heap.size := hsz
            have hbZ : b ≠ Z := by have := HG.out; omega
            have hZs : Z ≠ sB ∧ Z ≠ vC := ⟨HG.out.2.2.2.1, two.d.2.2.1.symm⟩
            have lZe : Z < wr.drew.heap.size := lZ
            clear hx two hm2 hjq nn1
            go_wp2
            go_region_with ((go_at_call 30; (refine (do_lk LE.out hsze hun x.k x.f x.c x.l x.a x.b).mono ?_); rintro e w5 ⟨v5, us5, uB, rfl, lk5, tu5, hu5, hus5⟩; obtain ⟨b7, n7, c7, rfl⟩ := lk5.ref.agg; have a5 := ACT.out w5 (fun o => lk5.reg.below.cell (p := ⟨b, o, none⟩) hbl); have cy5 : Cells w5 Z #[.slice (some ⟨b6, 0, none⟩) n6 c6] 58 := (tu5.block Z lZe hZs.1 hZs.2).trans TE.out.cz; have x5 := cell_one cy5; have x6 := cy5.frozen 0; have x7 := cy5.lt))
            all_goals (
              have ST1 := hid (TE.out.step HG.out lk5 tu5 hu5 hus5)
              clear lk5 tu5 hu5 hus5 cy5 a5 x5 x6 x7
              go_wp2
              go_roundg (gk - 1)
              · exact ⟨(i : Int) - 1, q + 1, b7, n7, c7, uB, us5, by omega, rfl, rfl, by have := HJ.out; omega, by have := ST1.out.2; omega, ST1.out.1⟩
              · omega)
          · have f2 : decide ((n : Int) - 10 < j) = false := by simpa using h2
            clear two hjq nn1
            go_wp2
            go_meet
            case rel => exact ⟨b6, n6, c6, vC, vt, rfl, hqb, TW.out⟩
        · have f1 : decide (0 ≤ j) = false := by simpa using h1
          clear two hjq nn1
          go_wp2
          go_meet
          case rel => exact ⟨b6, n6, c6, vC, vt, rfl, hqb, TW.out⟩
    case rest =>
      obtain ⟨b6, n6, c6, vC, vt, rfl, hvt, two⟩ := hcut
      have TW := hid two
      obtain ⟨mf, tf, hmlf, _, htmf, hbtf, hlastf⟩ := two.f.last
      obtain ⟨ms, ts, hmls, _, htms, hbts, hlasts⟩ := two.s.last
      have hn5 : n5 = mf + 1 := by have := two.f.ref.len; simp at this; omega
      have hn6 : n6 = ms + 1 := by have := two.s.ref.len; simp at this; omega
      subst hn5 hn6
      have x9 := cell_one two.cx
      have y9 := cell_one two.cy
      have z9 := cell_one two.cz
      have lX9 := two.cx.lt
      have lY9 := two.cy.lt
      have lZ9 := two.cz.lt
      have hsz9 : w.heap.size ≤ wc.heap.size := two.s.reg.below.size
      have BW9 := hid two.s.reg.below
      have HMLF := hid hmlf
      have HMLS := hid hmls
      have HTMF := hid htmf
      have HTMS := hid htms
      have HBTF := hid hbtf
      have HBTS := hid hbts
      have HLF := hid hlastf
      have HLS := hid hlasts
      have HTMX := hid (show us[m]? = some t by
        obtain ⟨e, he⟩ := EX.out
        rw [he, List.getElem?_append_left (by rw [HML.out]; omega)]
        exact HTM.out)
      have hmf9 : mf ≤ 999 := by omega
      have hms9 : ms ≤ 999 := by omega
      have hfn : us.length ≤ 1000 := by omega
      have hsn : vt.length ≤ 1000 := by omega
      have hyn : (us.map inT).length ≤ 1000 := by simpa using hfn
      have hzn : (vt.map inT).length ≤ 1000 := by simpa using hsn
      have hxn : (vs.map inT).length ≤ 1000 := by simpa using hvn
      have w9 : IntKind.i64.wrap ((m : Int) + 1 - 1) = (m : Int) := by rw [IntWalk.i64_in _ (by omega)]; omega
      have w11 : IntKind.i64.wrap (m : Int) = (m : Int) := IntWalk.i64_in _ (by omega)
      have w10 : wrap64 (m : Int) = (m : Int) := by unfold wrap64; rw [← IntKind.wrap_i64]; exact IntWalk.i64_in _ (by omega)
      have hcur : Below wc.heap.size wc wc.drew := (Below.refl _ _).drew
      clear two hmlf htmf hbtf hlastf hmls htms hbts hlasts S6 nn1 hm2 HP HC
      as_aux_lemma =>
        go_wp2
        go_region_held3 (fun wh => wh.cell? ⟨X, 0, none⟩ = some (.slice (some ⟨bs, 0, none⟩) (m + 1) cs) ∧ wh.cell? ⟨Y, 0, none⟩ = some (.slice (some ⟨b5, 0, none⟩) (mf + 1) c5) ∧ wh.cell? ⟨Z, 0, none⟩ = some (.slice (some ⟨b6, 0, none⟩) (ms + 1) c6))
          (first | assumption | go_keep)
          (first
            | (go_at_call 19; (with_reducible refine (version_lk (TW.out.after hcur).f HMLF.out hmf9).mono ?_); rintro e w6 ⟨rfl, hb6⟩; (try have huY := huY.below hb6); (try have huZ := huZ.below hb6); (try have huX := huX.below hb6); have hcur := hcur.trans (hb6.mono hcur.size); have xX := (hcur.cell (p := ⟨X, 0, none⟩) lX9).trans x9; have xY := (hcur.cell (p := ⟨Y, 0, none⟩) lY9).trans y9; have xZ := (hcur.cell (p := ⟨Z, 0, none⟩) lZ9).trans z9)
            | (go_at_call 19; (with_reducible refine (version_lk (TW.out.after hcur).s HMLS.out hms9).mono ?_); rintro e w6 ⟨rfl, hb6⟩; (try have huY := huY.below hb6); (try have huZ := huZ.below hb6); (try have huX := huX.below hb6); have hcur := hcur.trans (hb6.mono hcur.size); have xX := (hcur.cell (p := ⟨X, 0, none⟩) lX9).trans x9; have xY := (hcur.cell (p := ⟨Y, 0, none⟩) lY9).trans y9; have xZ := (hcur.cell (p := ⟨Z, 0, none⟩) lZ9).trans z9)
            | (go_at_call 32; (with_reducible refine (last_rcalls _ (.agg #[.slice (some ⟨b5, 0, none⟩) (mf + 1) c5]) _ (TW.out.after hcur).f.ref hyn _ HLF.out).mono ?_); rintro e w7 ⟨uY, rfl, huY, hb6⟩; (try have huZ := huZ.below hb6); (try have huX := huX.below hb6); have hcur := hcur.trans (hb6.mono hcur.size); have xX := (hcur.cell (p := ⟨X, 0, none⟩) lX9).trans x9; have xY := (hcur.cell (p := ⟨Y, 0, none⟩) lY9).trans y9; have xZ := (hcur.cell (p := ⟨Z, 0, none⟩) lZ9).trans z9)
            | (go_at_call 32; (with_reducible refine (last_rcalls _ (.agg #[.slice (some ⟨b6, 0, none⟩) (ms + 1) c6]) _ (TW.out.after hcur).s.ref hzn _ HLS.out).mono ?_); rintro e w7 ⟨uZ, rfl, huZ, hb6⟩; (try have huY := huY.below hb6); (try have huX := huX.below hb6); have hcur := hcur.trans (hb6.mono hcur.size); have xX := (hcur.cell (p := ⟨X, 0, none⟩) lX9).trans x9; have xY := (hcur.cell (p := ⟨Y, 0, none⟩) lY9).trans y9; have xZ := (hcur.cell (p := ⟨Z, 0, none⟩) lZ9).trans z9)
            | (go_at_call 32; (with_reducible refine (last_rcalls _ (.agg #[.slice (some ⟨bs, 0, none⟩) (m + 1) cs]) _ (TW.out.after hcur).x hxn _ HLA.out).mono ?_); rintro e w7 ⟨uX, rfl, huX, hb6⟩; (try have huY := huY.below hb6); (try have huZ := huZ.below hb6); have hcur := hcur.trans (hb6.mono hcur.size); have xX := (hcur.cell (p := ⟨X, 0, none⟩) lX9).trans x9; have xY := (hcur.cell (p := ⟨Y, 0, none⟩) lY9).trans y9; have xZ := (hcur.cell (p := ⟨Z, 0, none⟩) lZ9).trans z9)
            | (go_at_call 31; (with_reducible refine (shows_calls (TW.out.after hcur).f.reg (Nat.le_trans hsz9 hcur.size) hfn HTMF.out HBTF.out uY huY).mono ?_); rintro e w8 ⟨rfl, hb6⟩; (try have huZ := huZ.below hb6); (try have huX := huX.below hb6); have hcur := hcur.trans (hb6.mono hcur.size); have xX := (hcur.cell (p := ⟨X, 0, none⟩) lX9).trans x9; have xY := (hcur.cell (p := ⟨Y, 0, none⟩) lY9).trans y9; have xZ := (hcur.cell (p := ⟨Z, 0, none⟩) lZ9).trans z9)
            | (go_at_call 31; (with_reducible refine (shows_calls (TW.out.after hcur).s.reg (Nat.le_trans hsz9 hcur.size) hsn HTMS.out HBTS.out uZ huZ).mono ?_); rintro e w8 ⟨rfl, hb6⟩; (try have huY := huY.below hb6); (try have huX := huX.below hb6); have hcur := hcur.trans (hb6.mono hcur.size); have xX := (hcur.cell (p := ⟨X, 0, none⟩) lX9).trans x9; have xY := (hcur.cell (p := ⟨Y, 0, none⟩) lY9).trans y9; have xZ := (hcur.cell (p := ⟨Z, 0, none⟩) lZ9).trans z9)
            | (go_at_call 31; (with_reducible refine (shows_calls (TW.out.after hcur).f.reg (Nat.le_trans hsz9 hcur.size) hfn HTMX.out HBT.out uX huX).mono ?_); rintro e w8 ⟨rfl, hb6⟩; have hcur := hcur.trans (hb6.mono hcur.size); have xX := (hcur.cell (p := ⟨X, 0, none⟩) lX9).trans x9; have xY := (hcur.cell (p := ⟨Y, 0, none⟩) lY9).trans y9; have xZ := (hcur.cell (p := ⟨Z, 0, none⟩) lZ9).trans z9)
            | (go_at_call 16; (with_reducible refine (awake_calls _).mono ?_); rintro e w9 ⟨rfl, hb6⟩; have hcur := hcur.trans (hb6.mono hcur.size); have xX := (hcur.cell (p := ⟨X, 0, none⟩) lX9).trans x9; have xY := (hcur.cell (p := ⟨Y, 0, none⟩) lY9).trans y9; have xZ := (hcur.cell (p := ⟨Z, 0, none⟩) lZ9).trans z9))
        all_goals (
          have BF := hid (BW9.out.trans (hcur.mono hsz9))
          clear hcur
          go_wp2
          exact bodyPost_ret (v := .bool true) (by simp [results, Try.results10, go_sem]) rfl ⟨rfl, BF.out⟩)
end Go.Proofs.Ytnnbdjfeagcbdaa
