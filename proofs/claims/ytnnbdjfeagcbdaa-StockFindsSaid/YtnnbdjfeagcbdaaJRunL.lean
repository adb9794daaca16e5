/- The law's run: a script done to both. -/
import Derived.Test.YtnnbdjfeagcbdaaJRunsL
namespace Go.Proofs.Ytnnbdjfeagcbdaa
set_option linter.unusedSimpArgs false
set_option linter.unusedVariables false
open Go.RowKit Go.Shelf
attribute [local go_sem] Oper.semAt_some

theorem Lk.base {B B' : Nat} {W W' w : World} {sB vB : Nat} {vs : List T} {v : Value} (h : Lk B W w sB vB vs v) (hb : B' ≤ B) (hW : Below B' W' W) : Lk B' W' w sB vB vs v :=
  ⟨⟨h.reg.st, h.reg.fine, h.reg.tiles, h.reg.canon, h.reg.zero, hW.trans (h.reg.below.mono hb), Nat.le_trans hb h.reg.ls, Nat.le_trans hb h.reg.lv⟩, h.ref, h.bc⟩

/-- What a round reads of the call. -/
@[reducible] def ActS (b o : Nat) (x : Ac) (wh : World) : Prop :=
  wh.cell? ⟨b, o, none⟩ = some (.int .i64 x.k) ∧ wh.cell? ⟨b, o + 1, none⟩ = some (.int .i64 x.f) ∧ wh.cell? ⟨b, o + 2, none⟩ = some (.int .i64 x.c) ∧ wh.cell? ⟨b, o + 3, none⟩ = some (.int .i64 x.l) ∧ wh.cell? ⟨b, o + 4, none⟩ = some (.int .i64 x.a) ∧ wh.cell? ⟨b, o + 5, none⟩ = some (.int .i64 x.b)
theorem ActS.moved {b o : Nat} {x : Ac} {w w' : World} (h : ActS b o x w) (h2 : w'.heap[b]? = w.heap[b]?) : ActS b o x w' := by
  obtain ⟨d0, d1, d2, d3, d4, d5⟩ := h
  exact ⟨(World.cell?_of_block (w := w) (a := ⟨b, o, none⟩) h2).trans d0, (World.cell?_of_block (w := w) (a := ⟨b, o + 1, none⟩) h2).trans d1, (World.cell?_of_block (w := w) (a := ⟨b, o + 2, none⟩) h2).trans d2, (World.cell?_of_block (w := w) (a := ⟨b, o + 3, none⟩) h2).trans d3, (World.cell?_of_block (w := w) (a := ⟨b, o + 4, none⟩) h2).trans d4, (World.cell?_of_block (w := w) (a := ⟨b, o + 5, none⟩) h2).trans d5⟩
theorem ActS.far {b o : Nat} {x : Ac} {w : World} (h : ActS b o x w) {C : Nat} (h2 : b ≠ C) (u : Value) : ActS b o x (w.setCell ⟨C, 0, none⟩ u) := h.moved (Below.heap_setCell w ⟨C, 0, none⟩ u b h2)

set_option maxRecDepth 100000 in
set_option maxHeartbeats 8000000 in
theorem run_calls (w : World) (v : Value) (l : List Ac) (hv : ReadsE encA 6 w v l) (most : Nat) (hmost : most ≤ 30) :
    Calls Try.prog 33 #[v, .int .i64 most] w fun e w' => ∃ (sB vB : Nat) (vs : List T) (v' : Value), e = .returned (.tuple #[.pointer (some ⟨sB, 0, none⟩), v']) ∧ Lk w.heap.size w w' sB vB vs v' ∧ vs.length ≤ most + 1 := by
  obtain ⟨hm, p, cap, b, off, rfl, hp, hc⟩ := hv
  obtain ⟨n, hn⟩ : ∃ n, n = l.length := ⟨_, rfl⟩
  rw [← hn] at hp hm ⊢
  have HP := hid hp
  have HC := hid hc
  have HN := hid hn
  clear hp hc hn
  obtain ⟨W0, hW0⟩ : ∃ W0, W0 = w.alloc (.cells #[.slice none 0 0] 58) := ⟨_, rfl⟩
  have CR0 := hid (show Cells W0 w.heap.size #[.slice none 0 0] 58 by rw [hW0]; exact Cells.new _ _ _)
  have BR0 := hid (show Below w.heap.size w W0 by rw [hW0]; exact (Below.refl _ _).alloc (Nat.le_refl _) _)
  have hz0 : W0.heap.size = w.heap.size + 1 := by rw [hW0]; simp
  have HW0 := hid hW0
  go_enter Try.func33, Try.ntmps33
  clear hW0
  go_wp2_with fail
  rw [← HW0.out]
  refine (new_reg W0).mono ?_
  rintro e w1 ⟨sB, vB0, t0, rfl, rg0, tl0⟩
  have RG0 := hid rg0
  have hls := rg0.st.lt
  have hl1 := rg0.ls
  have hl2 := rg0.lv
  have hz1 := rg0.below.size
  clear rg0
  go_wp2_with fail
  refine (new_rcalls w1).mono ?_
  rintro e w2 ⟨v0, rfl, ra0, hb2⟩
  obtain ⟨b0, n0, c0, rfl⟩ := ra0.agg
  have L0 := hid (Lk.start (RG0.out.after hz1 hb2) tl0 ra0)
  have hz2 := hb2.size
  obtain ⟨X, hX⟩ : ∃ X, X = w2.heap.size := ⟨_, rfl⟩
  have CX := hid (show Cells (w2.alloc (.cells #[.slice (some ⟨b0, 0, none⟩) n0 c0] 58)) X #[.slice (some ⟨b0, 0, none⟩) n0 c0] 58 by rw [hX]; exact Cells.new _ _ _)
  have LA := hid (L0.out.after (by omega) ((Below.refl w2.heap.size w2).alloc (Nat.le_refl _) (.cells #[.slice (some ⟨b0, 0, none⟩) n0 c0] 58)))
  have CR := hid (show Cells (w2.alloc (.cells #[.slice (some ⟨b0, 0, none⟩) n0 c0] 58)) w.heap.size #[.slice none 0 0] 58 from ((CR0.out.below RG0.out.below (by omega)).below hb2 (by omega)).alloc _)
  clear RG0 tl0 ra0 hb2 L0
  go_wp2_with fail
  rw [← hX]
  have hXs : sB ≠ X ∧ vB0 ≠ X ∧ W0.heap.size ≤ X := by omega
  obtain ⟨hXs1, hXs2, hXs3⟩ := hXs
  clear hX hz2
  go_loopg [8, 9] most (fun k s8 s9 wr => ∃ (i bs ns cs vB : Nat) (vs : List T), i + k = most ∧ s8 = .bool true ∧ s9 = .int .i64 i ∧ vs.length ≤ i + 1 ∧ vB ≠ X ∧ Lk W0.heap.size W0 wr sB vB vs (.agg #[.slice (some ⟨bs, 0, none⟩) ns cs]) ∧ Cells wr X #[.slice (some ⟨bs, 0, none⟩) ns cs] 58 ∧ Cells wr w.heap.size #[.slice none 0 0] 58)
  case atStart => exact ⟨0, b0, n0, c0, vB0, [t0], by omega, rfl, rfl, by simp, hXs2, LA.out, CX.out, CR.out⟩
  case round =>
    obtain ⟨i, bs, ns, cs, vB, vs, hik, rfl, rfl, hvs, hvX, lk, cx, cr⟩ := hrel
    have LK := hid lk
    have HCX := hid cx
    have HCR := hid cr
    have BW := hid (BR0.out.trans (lk.reg.below.mono BR0.out.size))
    have hsz := lk.reg.below.size
    have lX := cx.lt
    have x0 : wr.cell? ⟨X, 0, none⟩ = some (.slice (some ⟨bs, 0, none⟩) ns cs) := by simp [cx.cell]
    have hlv := lk.reg.lv
    have hlt2 := lk.reg.st.lt
    by_cases hi : i < n
    · have g1 : decide ((i : Int) < (n : Int)) = true := by simpa using hi
      by_cases h3 : i < most
      · have g2 : decide ((i : Int) < (most : Int)) = true := by simpa using h3
        have i64 : IntKind.i64.wrap ((i : Int) + 1) = (i : Int) + 1 := IntWalk.i64_in _ (by omega)
        have hil : i < l.length := by rw [← HN.out]; exact hi
        obtain ⟨rfl, hbl⟩ := HP.out (by omega)
        obtain ⟨x, hx⟩ : ∃ x, x = l[i] := ⟨_, rfl⟩
        have ACT := hid (fun (wx : World) (hwx : ∀ o, wx.cell? ⟨b, o, none⟩ = w.cell? ⟨b, o, none⟩) => act_cell (x := x) hwx (fun j hj => by rw [hx]; exact HC.out i hil j hj))
        have AW := hid (ACT.out wr (fun o => BW.out.cell (p := ⟨b, o, none⟩) hbl))
        obtain ⟨d0, d1, d2, d3, d4, d5⟩ := AW.out
        have n2 : (0 : Int) ≤ (i : Int) := by omega
        have n3 : (i : Int) < (n : Int) := by omega
        have lb : b < wr.heap.size := Nat.lt_of_lt_of_le hbl BW.out.size
        have hvn : vs.length ≤ 999 := by omega
        have LE := hid (show Lk W0.heap.size W0 wr.drew sB vB vs (.agg #[.slice (some ⟨bs, 0, none⟩) ns cs]) from LK.out.after hsz (Below.refl _ _).drew)
        have hsze : W0.heap.size ≤ wr.drew.heap.size := hsz
        have lXe : X < wr.drew.heap.size := lX
        have CXE := hid (show Cells wr.drew X #[.slice (some ⟨bs, 0, none⟩) ns cs] 58 from HCX.out.drew)
        have CRE := hid (show Cells wr.drew w.heap.size #[.slice none 0 0] 58 from HCR.out.drew)
        have lRe : w.heap.size < wr.drew.heap.size := HCR.out.lt
        have hR1 : w.heap.size ≠ sB := by omega
        have hR2 : w.heap.size ≠ vB := by omega
        have hbX : b ≠ X := by omega
        have hRX : w.heap.size ≠ X := by omega
        clear hx lk cx cr hm
        go_wp2
        go_region_with ((go_at_call 30; (refine (do_lk LE.out hsze hvn x.k x.f x.c x.l x.a x.b).mono ?_); rintro e w5 ⟨v5, us, uB, rfl, lk5, tu5, hu5, hus⟩; obtain ⟨b5, n5, c5, rfl⟩ := lk5.ref.agg; have a5 := ACT.out w5 (fun o => (BR0.out.trans (lk5.reg.below.mono BR0.out.size)).cell (p := ⟨b, o, none⟩) hbl); have cx5 : Cells w5 X #[.slice (some ⟨bs, 0, none⟩) ns cs] 58 := (tu5.block X lXe hXs1.symm hvX.symm).trans CXE.out; have cr5 : Cells w5 w.heap.size #[.slice none 0 0] 58 := (tu5.block _ lRe hR1 hR2).trans CRE.out; have x5 := cell_one cx5; have x6 := cx5.frozen 0; have x7 := cx5.lt; have s5 : ActS b (off + i * 6) x w5 := a5; have s6 := s5.far hbX (.slice (some ⟨b5, 0, none⟩) n5 c5)))
        all_goals (
          have L5 := hid lk5
          have CX5 := hid cx5
          have CR5 := hid cr5
          have BE := hid (show us.length ≤ i + 2 ∧ uB ≠ X by
            refine ⟨?_, ?_⟩
            · rcases hus with h | ⟨t', h⟩
              · rw [h]; omega
              · rw [h, List.length_append]; simp; omega
            · rcases hu5 with h | h
              · rw [h]; exact hvX
              · omega)
          clear lk5 tu5 hu5 hus cx5 cr5 a5 x5 x6 x7 s5 s6
          go_wp2
          go_roundg (gk - 1)
          · exact ⟨i + 1, b5, n5, c5, uB, us, by omega, rfl, rfl, BE.out.1, BE.out.2, L5.out.set CX5.out hXs1.symm BE.out.2.symm hXs3 _, CX5.out.set 0 _, CR5.out.set_far 0 _ hRX⟩
          · omega)
      · have g2 : decide ((i : Int) < (most : Int)) = false := by simpa using h3
        have hR1 : w.heap.size ≠ sB := by omega
        have hR2 : w.heap.size ≠ vB := by omega
        have hRX : w.heap.size ≠ X := by omega
        have r0 := cell_one cr
        have r1 := cr.frozen 0
        have r2 := cr.lt
        have LF := hid (LK.out.base (by omega) BR0.out)
        have hvm : vs.length ≤ most + 1 := by omega
        clear lk cx cr
        go_wp2
        go_region
        go_wp2
        have c9 := (HCR.out.set 0 (.slice (some ⟨bs, 0, none⟩) ns cs))
        have l9 := LF.out.set HCR.out hR1 hR2 (Nat.le_refl _) (.slice (some ⟨bs, 0, none⟩) ns cs)
        have c10 := c9.drew
        refine bodyPost_ret (v := .tuple #[.pointer (some ⟨sB, 0, none⟩), .agg #[.slice (some ⟨bs, 0, none⟩) ns cs]]) (by simp [results, Try.results33, go_sem, c9.cell]) rfl ⟨sB, vB, vs, _, rfl, l9.after (by have := LF.out.reg.below.size; simpa [World.setCell] using this) (Below.refl _ _).drew, hvm⟩
    · have g1 : decide ((i : Int) < (n : Int)) = false := by simpa using hi
      have hR1 : w.heap.size ≠ sB := by omega
      have hR2 : w.heap.size ≠ vB := by omega
      have hRX : w.heap.size ≠ X := by omega
      have r0 := cell_one cr
      have r1 := cr.frozen 0
      have r2 := cr.lt
      have LF := hid (LK.out.base (by omega) BR0.out)
      have hvm : vs.length ≤ most + 1 := by omega
      clear lk cx cr
      go_wp2
      go_region
      go_wp2
      have c9 := (HCR.out.set 0 (.slice (some ⟨bs, 0, none⟩) ns cs))
      have l9 := LF.out.set HCR.out hR1 hR2 (Nat.le_refl _) (.slice (some ⟨bs, 0, none⟩) ns cs)
      have c10 := c9.drew
      refine bodyPost_ret (v := .tuple #[.pointer (some ⟨sB, 0, none⟩), .agg #[.slice (some ⟨bs, 0, none⟩) ns cs]]) (by simp [results, Try.results33, go_sem, c9.cell]) rfl ⟨sB, vB, vs, _, rfl, l9.after (by have := LF.out.reg.below.size; simpa [World.setCell] using this) (Below.refl _ _).drew, hvm⟩
end Go.Proofs.Ytnnbdjfeagcbdaa
