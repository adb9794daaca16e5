/- StockRuns: its walk. -/
import Derived.Test.YtnnbdjfeagcbdaaJDo1
namespace Go.Proofs.Ytnnbdjfeagcbdaa
set_option linter.unusedSimpArgs false
set_option linter.unusedVariables false
open Go.RowKit Go.Shelf
attribute [local go_sem] Oper.semAt_some

theorem version_lk {B : Nat} {W w : World} {sB vB : Nat} {vs : List T} {v : Value} (h : Lk B W w sB vB vs v) {m : Nat} (hm : vs.length = m + 1) (hn : m ≤ 999) : Calls Try.prog 19 #[.pointer (some ⟨sB, 0, none⟩)] w fun e w' => e = .returned (.int .i64 (m : Int)) ∧ Below w.heap.size w w' := by
  obtain ⟨cp, hc, _⟩ := h.reg.cell
  refine (version_calls w sB (.bool true) vs.length cp _ (by omega) hc).mono ?_
  rintro e w' ⟨he, hw⟩
  rw [hw]
  refine ⟨?_, Below.refl _ _⟩
  rw [he, hm]
  congr 2
  omega
theorem RefAt.len {w : World} {bs ns cs : Nat} {xs : List (List Pc)} (h : RefAt w (.agg #[.slice (some ⟨bs, 0, none⟩) ns cs]) xs) : ns = xs.length := by
  obtain ⟨_, b, cap, us, hv, _⟩ := h
  simp at hv
  omega
theorem cell_one {w : World} {C : Nat} {u : Value} {ty : TypeId} (h : Cells w C #[u] ty) : w.cell? ⟨C, 0, none⟩ = some u := by simp [h.cell]
/-- The calls, read at a world. -/
theorem act_cell {w wr : World} {b off i : Nat} {x : Ac} (hb : ∀ o, wr.cell? ⟨b, o, none⟩ = w.cell? ⟨b, o, none⟩) (h : ∀ j, j < 6 → w.cell? ⟨b, off + i * 6 + j, none⟩ = (encA x)[j]?) :
    wr.cell? ⟨b, off + i * 6, none⟩ = some (.int .i64 x.k) ∧ wr.cell? ⟨b, off + i * 6 + 1, none⟩ = some (.int .i64 x.f) ∧ wr.cell? ⟨b, off + i * 6 + 2, none⟩ = some (.int .i64 x.c) ∧ wr.cell? ⟨b, off + i * 6 + 3, none⟩ = some (.int .i64 x.l) ∧ wr.cell? ⟨b, off + i * 6 + 4, none⟩ = some (.int .i64 x.a) ∧ wr.cell? ⟨b, off + i * 6 + 5, none⟩ = some (.int .i64 x.b) := by
  have k0 := (hb _).trans (h 0 (by omega))
  have k1 := (hb _).trans (h 1 (by omega))
  have k2 := (hb _).trans (h 2 (by omega))
  have k3 := (hb _).trans (h 3 (by omega))
  have k4 := (hb _).trans (h 4 (by omega))
  have k5 := (hb _).trans (h 5 (by omega))
  simp [encA] at k0 k1 k2 k3 k4 k5
  exact ⟨k0, k1, k2, k3, k4, k5⟩

/-- What a round reads: the reference's register, the call. -/
@[reducible] def RunS (X : Nat) (s : Value) (b o : Nat) (x : Ac) (wh : World) : Prop :=
  wh.cell? ⟨X, 0, none⟩ = some s ∧ wh.cell? ⟨b, o, none⟩ = some (.int .i64 x.k) ∧ wh.cell? ⟨b, o + 1, none⟩ = some (.int .i64 x.f) ∧ wh.cell? ⟨b, o + 2, none⟩ = some (.int .i64 x.c) ∧ wh.cell? ⟨b, o + 3, none⟩ = some (.int .i64 x.l) ∧ wh.cell? ⟨b, o + 4, none⟩ = some (.int .i64 x.a) ∧ wh.cell? ⟨b, o + 5, none⟩ = some (.int .i64 x.b)
theorem RunS.moved {X : Nat} {s : Value} {b o : Nat} {x : Ac} {w w' : World} (h : RunS X s b o x w) (h1 : w'.heap[X]? = w.heap[X]?) (h2 : w'.heap[b]? = w.heap[b]?) : RunS X s b o x w' := by
  obtain ⟨d, d0, d1, d2, d3, d4, d5⟩ := h
  exact ⟨(World.cell?_of_block (w := w) (a := ⟨X, 0, none⟩) h1).trans d, (World.cell?_of_block (w := w) (a := ⟨b, o, none⟩) h2).trans d0, (World.cell?_of_block (w := w) (a := ⟨b, o + 1, none⟩) h2).trans d1, (World.cell?_of_block (w := w) (a := ⟨b, o + 2, none⟩) h2).trans d2, (World.cell?_of_block (w := w) (a := ⟨b, o + 3, none⟩) h2).trans d3, (World.cell?_of_block (w := w) (a := ⟨b, o + 4, none⟩) h2).trans d4, (World.cell?_of_block (w := w) (a := ⟨b, o + 5, none⟩) h2).trans d5⟩
theorem RunS.far {X : Nat} {s : Value} {b o : Nat} {x : Ac} {w : World} (h : RunS X s b o x w) {C : Nat} (h1 : X ≠ C) (h2 : b ≠ C) (u : Value) : RunS X s b o x (w.setCell ⟨C, 0, none⟩ u) :=
  h.moved (Below.heap_setCell w ⟨C, 0, none⟩ u X h1) (Below.heap_setCell w ⟨C, 0, none⟩ u b h2)
theorem RunS.alloc {X : Nat} {s : Value} {b o : Nat} {x : Ac} {w : World} (h : RunS X s b o x w) (h1 : X < w.heap.size) (h2 : b < w.heap.size) (ob : Obj) : RunS X s b o x (w.alloc ob) :=
  h.moved (heap_alloc_old w ob h1) (heap_alloc_old w ob h2)

set_option maxRecDepth 100000 in
set_option maxHeartbeats 8000000 in
theorem runs_calls (w : World) (v : Value) (l : List Ac) (hv : ReadsE encA 6 w v l) :
    Calls Try.prog 5 #[v] w fun e w' => e = .returned (.bool true) ∧ Below w.heap.size w w' := by
  obtain ⟨hm, p, cap, b, off, rfl, hp, hc⟩ := hv
  obtain ⟨n, hn⟩ : ∃ n, n = l.length := ⟨_, rfl⟩
  rw [← hn] at hp hm ⊢
  have HP := hid hp
  have HC := hid hc
  have HN := hid hn
  clear hp hc hn
  go_enter Try.func5, Try.ntmps5
  go_wp2_with fail
  refine (new_reg w).mono ?_
  rintro e w1 ⟨sB, vB0, t0, rfl, rg0, tl0⟩
  have RG0 := hid rg0
  have hls := rg0.st.lt
  have hl1 := rg0.ls
  have hl2 := rg0.lv
  have hz1 := rg0.below.size
  clear rg0
  go_wp2_with fail
  refine (new_rcalls w1).mono ?_
  rintro e w2 ⟨v0, rfl, ra0, hb2⟩
  obtain ⟨b0, n0, c0, rfl⟩ := ra0.agg
  have L0 := hid (Lk.start (RG0.out.after hz1 hb2) tl0 ra0)
  have hz2 := hb2.size
  obtain ⟨X, hX⟩ : ∃ X, X = w2.heap.size := ⟨_, rfl⟩
  have CX := hid (show Cells (w2.alloc (.cells #[.slice (some ⟨b0, 0, none⟩) n0 c0] 58)) X #[.slice (some ⟨b0, 0, none⟩) n0 c0] 58 by rw [hX]; exact Cells.new _ _ _)
  have LA := hid (L0.out.after (by omega) ((Below.refl w2.heap.size w2).alloc (Nat.le_refl _) (.cells #[.slice (some ⟨b0, 0, none⟩) n0 c0] 58)))
  clear RG0 tl0 ra0 hb2 L0
  go_wp2_with fail
  rw [← hX]
  have hXs : sB ≠ X ∧ vB0 ≠ X ∧ w.heap.size ≤ X := by omega
  obtain ⟨hXs1, hXs2, hXs3⟩ := hXs
  have HX := hid hX
  clear hX hz2
  go_loopg [5] 30 (fun k s5 wr => ∃ (i bs ns cs vB : Nat) (vs : List T), i + k = 30 ∧ s5 = .int .i64 i ∧ vs.length ≤ i + 1 ∧ vB ≠ X ∧ Lk w.heap.size w wr sB vB vs (.agg #[.slice (some ⟨bs, 0, none⟩) ns cs]) ∧ Cells wr X #[.slice (some ⟨bs, 0, none⟩) ns cs] 58)
  case atStart => exact ⟨0, b0, n0, c0, vB0, [t0], rfl, rfl, by simp, hXs2, LA.out, CX.out⟩
  case round =>
    obtain ⟨i, bs, ns, cs, vB, vs, hik, rfl, hvs, hvX, lk, cx⟩ := hrel
    have LK := hid lk
    have HCX := hid cx
    have BW := hid lk.reg.below
    have hsz := lk.reg.below.size
    have lX := cx.lt
    have x0 : wr.cell? ⟨X, 0, none⟩ = some (.slice (some ⟨bs, 0, none⟩) ns cs) := by simp [cx.cell]
    by_cases hi : i < n
    · have g1 : decide ((i : Int) < (n : Int)) = true := by simpa using hi
      by_cases h3 : i < 30
      · have g2 : decide ((i : Int) < 30) = true := by simp; omega
        have i64 : IntKind.i64.wrap ((i : Int) + 1) = (i : Int) + 1 := IntWalk.i64_in _ (by omega)
        have hil : i < l.length := by rw [← HN.out]; exact hi
        obtain ⟨rfl, hbl⟩ := HP.out (by omega)
        obtain ⟨x, hx⟩ : ∃ x, x = l[i] := ⟨_, rfl⟩
        have ACT := hid (fun (wx : World) (hwx : ∀ o, wx.cell? ⟨b, o, none⟩ = w.cell? ⟨b, o, none⟩) => act_cell (x := x) hwx (fun j hj => by rw [hx]; exact HC.out i hil j hj))
        have AW := hid (ACT.out wr (fun o => lk.reg.below.cell (p := ⟨b, o, none⟩) hbl))
        obtain ⟨d0, d1, d2, d3, d4, d5⟩ := AW.out
        have n2 : (0 : Int) ≤ (i : Int) := by omega
        have n3 : (i : Int) < (n : Int) := by omega
        have lb : b < wr.heap.size := Nat.lt_of_lt_of_le hbl hsz
        have LD := hid (show Lk w.heap.size w (wr.alloc (.cells #[.slice none 0 0] 58)).drew sB vB vs (.agg #[.slice (some ⟨bs, 0, none⟩) ns cs]) from lk.after hsz ((Below.refl _ _).alloc (Nat.le_refl _) _).drew)
        have hszd : w.heap.size ≤ (wr.alloc (.cells #[.slice none 0 0] 58)).drew.heap.size := by simp; omega
        have CY := hid (show Cells (wr.alloc (.cells #[.slice none 0 0] 58)).drew wr.heap.size #[.slice none 0 0] 58 from (Cells.new wr _ _).drew)
        have CXD := hid (show Cells (wr.alloc (.cells #[.slice none 0 0] 58)).drew X #[.slice (some ⟨bs, 0, none⟩) ns cs] 58 from (cx.alloc _).drew)
        have hlt2 := lk.reg.st.lt
        have ys : wr.heap.size ≠ sB := by omega
        have yv : wr.heap.size ≠ vB := by omega
        have yX : X ≠ wr.heap.size := by omega
        have yb : b ≠ wr.heap.size := by omega
        have lXd : X < (wr.alloc (.cells #[.slice none 0 0] 58)).drew.heap.size := by simp; omega
        have lYd : wr.heap.size < (wr.alloc (.cells #[.slice none 0 0] 58)).drew.heap.size := by simp
        have hvn : vs.length ≤ 999 := by omega
        have hsX : sB ≠ X := hXs1
        have hls2 := lk.reg.ls
        have hlv2 := lk.reg.lv
        clear hx lk cx hm
        have LE := hid (show Lk w.heap.size w wr.drew sB vB vs (.agg #[.slice (some ⟨bs, 0, none⟩) ns cs]) from LK.out.after hsz (Below.refl _ _).drew)
        have hsze : w.heap.size ≤ wr.drew.heap.size := hsz
        have lXe : X < wr.drew.heap.size := lX
        have CXE := hid (show Cells wr.drew X #[.slice (some ⟨bs, 0, none⟩) ns cs] 58 from HCX.out.drew)
        go_upto_region 7 with fail
        go_cut [6, 7] (fun s6 s7 wx => ∃ (Y b5 n5 c5 uB : Nat) (us : List T), s6 = .pointer (some ⟨Y, 0, none⟩) ∧ s7 = .bool true ∧ us.length ≤ i + 2 ∧ uB ≠ X ∧ Lk w.heap.size w wx sB uB us (.agg #[.slice (some ⟨b5, 0, none⟩) n5 c5]) ∧ Cells wx X #[.slice (some ⟨bs, 0, none⟩) ns cs] 58 ∧ Cells wx Y #[.slice (some ⟨b5, 0, none⟩) n5 c5] 58)
        case rest =>
          obtain ⟨Y, b5, n5, c5, uB, us, rfl, rfl, hus, huX, lk5, cx5, cy5⟩ := hcut
          have L5 := hid lk5
          have CX5 := hid cx5
          have y0 := cell_one cy5
          have y1 := cell_one cx5
          have y2 := cx5.frozen 0
          have y3 := cx5.lt
          have y4 := cy5.lt
          clear lk5 cx5 cy5
          go_upto_region 9 with fail
          have L6 := hid (L5.out.set CX5.out hsX.symm huX.symm hXs3 (.slice (some ⟨b5, 0, none⟩) n5 c5))
          have CX6 := hid (CX5.out.set 0 (.slice (some ⟨b5, 0, none⟩) n5 c5))
          obtain ⟨m, t, hml, _, htm, hbt, hlast⟩ := L6.out.last
          have hn5 : n5 = m + 1 := by have := L6.out.ref.len; simp at this; omega
          subst hn5
          have hm9 : m ≤ 999 := by omega
          have hmn : us.length ≤ 1000 := by omega
          have hxn : (us.map inT).length ≤ 1000 := by simpa using hmn
          have w9 : IntKind.i64.wrap ((m : Int) + 1 - 1) = (m : Int) := by rw [IntWalk.i64_in _ (by omega)]; omega
          have w11 : IntKind.i64.wrap (m : Int) = (m : Int) := IntWalk.i64_in _ (by omega)
          have w10 : wrap64 (m : Int) = (m : Int) := by unfold wrap64; rw [← IntKind.wrap_i64]; exact IntWalk.i64_in _ (by omega)
          have HML := hid hml
          have HTM := hid htm
          have HLA := hid hlast
          have HBT := hid hbt
          obtain ⟨W9, hW9⟩ : ∃ W9, W9 = wc.setCell ⟨X, 0, none⟩ (.slice (some ⟨b5, 0, none⟩) (m + 1) c5) := ⟨_, rfl⟩
          rw [← hW9] at L6 CX6 ⊢
          have hB9 : w.heap.size ≤ W9.heap.size := L6.out.reg.below.size
          have hX9 := CX6.out.lt
          have x9 := cell_one CX6.out
          have hcur : Below W9.heap.size W9 W9.drew := (Below.refl _ _).drew
          clear hW9 y0 y1 y2 y3 y4 hml htm hlast hbt LK LD LE CY CXD CXE AW ACT HCX lXd lYd lXe d0 d1 d2 d3 d4 d5
          go_wp2
          go_region_held3 (fun wh => wh.cell? ⟨X, 0, none⟩ = some (.slice (some ⟨b5, 0, none⟩) (m + 1) c5))
            (first | assumption | go_keep)
            (first
              | (go_at_call 19; (refine (version_lk (L6.out.after hB9 hcur) HML.out hm9).mono ?_); rintro e w6 ⟨rfl, hb6⟩; (try have hu7 := hu7.below hb6); have hcur := hcur.trans (hb6.mono hcur.size); have x10 := (hcur.cell (p := ⟨X, 0, none⟩) hX9).trans x9)
              | (go_at_call 32; (refine (last_rcalls _ _ _ (L6.out.after hB9 hcur).ref hxn _ HLA.out).mono ?_); rintro e w7 ⟨u7, rfl, hu7, hb6⟩; have hcur := hcur.trans (hb6.mono hcur.size); have x10 := (hcur.cell (p := ⟨X, 0, none⟩) hX9).trans x9)
              | (go_at_call 31; (refine (shows_calls (L6.out.after hB9 hcur).reg (Nat.le_trans hB9 hcur.size) hmn HTM.out HBT.out u7 hu7).mono ?_); rintro e w8 ⟨rfl, hb6⟩; have hcur := hcur.trans (hb6.mono hcur.size); have x10 := (hcur.cell (p := ⟨X, 0, none⟩) hX9).trans x9))
          all_goals (
            have L9 := hid (L6.out.after hB9 hcur)
            have C9 := hid (CX6.out.below hcur hX9)
            clear hcur hb6 hu7
            clear x10
            go_wp2
            go_roundg (gk - 1)
            · exact ⟨i + 1, b5, m + 1, c5, uB, us, by omega, rfl, by omega, huX, L9.out, C9.out⟩
            · omega)
        case first =>
        go_wp2
        go_region_held3 (fun wh => wh.cell? ⟨X, 0, none⟩ = some (.slice (some ⟨bs, 0, none⟩) ns cs) ∧ wh.cell? ⟨b, off + i * 6, none⟩ = some (.int .i64 x.k) ∧ wh.cell? ⟨b, off + i * 6 + 1, none⟩ = some (.int .i64 x.f) ∧ wh.cell? ⟨b, off + i * 6 + 2, none⟩ = some (.int .i64 x.c) ∧ wh.cell? ⟨b, off + i * 6 + 3, none⟩ = some (.int .i64 x.l) ∧ wh.cell? ⟨b, off + i * 6 + 4, none⟩ = some (.int .i64 x.a) ∧ wh.cell? ⟨b, off + i * 6 + 5, none⟩ = some (.int .i64 x.b))
          (first | assumption | go_keep)
          (first
            | (go_at_call 30; (refine (do_lk LD.out hszd hvn x.k x.f x.c x.l x.a x.b).mono ?_); rintro e w5 ⟨v5, us, uB, rfl, lk5, tu5, hu5, hus⟩; obtain ⟨b5, n5, c5, rfl⟩ := lk5.ref.agg; have a5 := ACT.out w5 (fun o => lk5.reg.below.cell (p := ⟨b, o, none⟩) hbl); have cx5 : Cells w5 X #[.slice (some ⟨bs, 0, none⟩) ns cs] 58 := (tu5.block X lXd hsX.symm hvX.symm).trans CXD.out; have x5 := cell_one cx5; have cy5 : Cells w5 wr.heap.size #[.slice none 0 0] 58 := (tu5.block _ lYd ys yv).trans CY.out; have y5 := cell_one cy5; have y6 := cy5.frozen 0; have y7 := cy5.lt; have s5 : RunS X (.slice (some ⟨bs, 0, none⟩) ns cs) b (off + i * 6) x w5 := ⟨x5, a5⟩; have s6 := s5.far yX yb (.slice (some ⟨b5, 0, none⟩) n5 c5))
            | (go_at_call 30; (refine (do_lk LE.out hsze hvn x.k x.f x.c x.l x.a x.b).mono ?_); rintro e w5 ⟨v5, us, uB, rfl, lk5, tu5, hu5, hus⟩; obtain ⟨b5, n5, c5, rfl⟩ := lk5.ref.agg; have a5 := ACT.out w5 (fun o => lk5.reg.below.cell (p := ⟨b, o, none⟩) hbl); have cx5 : Cells w5 X #[.slice (some ⟨bs, 0, none⟩) ns cs] 58 := (tu5.block X lXe hsX.symm hvX.symm).trans CXE.out; have x5 := cell_one cx5; have x7 := cx5.lt; have x8 : b < w5.heap.size := Nat.lt_of_lt_of_le lb tu5.size; have s5 : RunS X (.slice (some ⟨bs, 0, none⟩) ns cs) b (off + i * 6) x w5 := ⟨x5, a5⟩; have s6 := s5.alloc x7 x8 (.cells #[.slice none 0 0] 58); have s7 := s6.far (Nat.ne_of_lt x7) (Nat.ne_of_lt x8) (.slice (some ⟨b5, 0, none⟩) n5 c5); have s8 := s5.alloc x7 x8 (.cells #[.slice (some ⟨b5, 0, none⟩) n5 c5] 58)))
        · have L5 := hid lk5
          have T5 := hid tu5
          have CX5 := hid cx5
          have BE := hid (show us.length ≤ i + 2 ∧ uB ≠ X by
            refine ⟨?_, ?_⟩
            · rcases hus with h | ⟨t', h⟩
              · rw [h]; omega
              · rw [h, List.length_append]; simp; omega
            · rcases hu5 with h | h
              · rw [h]; exact hvX
              · omega)
          clear lk5 tu5 hu5 hus cx5 a5 x5 x7 x8 s5 s6 s7 s8
          go_wp2
          go_meet
          case rel => exact ⟨w5.heap.size, b5, n5, c5, uB, us, rfl, rfl, BE.out.1, BE.out.2, L5.out.after (Nat.le_trans hsz T5.out.size) ((Below.refl _ _).alloc (Nat.le_refl _) _), CX5.out.alloc _, Cells.new _ _ _⟩
        · have L5 := hid lk5
          have T5 := hid tu5
          have CX5 := hid cx5
          have CY5 := hid cy5
          have BE := hid (show us.length ≤ i + 2 ∧ uB ≠ X ∧ wr.heap.size ≠ uB by
            refine ⟨?_, ?_, ?_⟩
            · rcases hus with h | ⟨t', h⟩
              · rw [h]; omega
              · rw [h, List.length_append]; simp; omega
            · rcases hu5 with h | h
              · rw [h]; exact hvX
              · omega
            · rcases hu5 with h | h
              · rw [h]; exact yv
              · omega)
          clear lk5 tu5 hu5 hus cx5 a5 x5 cy5 y5 y6 y7 s5 s6
          go_wp2
          go_meet
          case rel => exact ⟨wr.heap.size, b5, n5, c5, uB, us, rfl, rfl, BE.out.1, BE.out.2.1, L5.out.set CY5.out ys BE.out.2.2 hsz _, CX5.out.set_far 0 _ yX, CY5.out.set 0 _⟩
      · have g2 : decide ((i : Int) < 30) = false := by simp; omega
        clear lk cx
        go_wp2_with fail
        refine (awake_calls _).mono ?_
        rintro e w14 ⟨rfl, hb14⟩
        have BF := hid (BW.out.trans (hb14.mono BW.out.size))
        clear hb14
        go_wp2
        exact bodyPost_ret (v := .bool true) (by simp [results, Try.results5, go_sem]) rfl ⟨rfl, BF.out⟩
    · have g1 : decide ((i : Int) < (n : Int)) = false := by simpa using hi
      clear lk cx
      go_wp2_with fail
      refine (awake_calls _).mono ?_
      rintro e w14 ⟨rfl, hb14⟩
      have BF := hid (BW.out.trans (hb14.mono BW.out.size))
      clear hb14
      go_wp2
      exact bodyPost_ret (v := .bool true) (by simp [results, Try.results5, go_sem]) rfl ⟨rfl, BF.out⟩
end Go.Proofs.Ytnnbdjfeagcbdaa
