/- BoardRuns: the walk. -/
import Derived.Deep.RegionHeld3
import Derived.Deep.DeepCutAuto
import Derived.Test.YtdjhpldiifdifaaJRun0
namespace Go.Proofs.Ytdjhpldiifdifaa
set_option linter.unusedSimpArgs false
set_option linter.unusedVariables false
open Go.RowKit Go.Shelf
attribute [local go_sem] Oper.semAt_some
attribute [local go_sem ↓] Go.wp_at_zero Go.wp_at_succ

set_option maxRecDepth 100000 in
set_option maxHeartbeats 20000000 in
theorem runs_calls (w : World) (v : Value) (l : List Ac) (hv : ReadsE encA 13 w v l) (hok : ∀ x ∈ l, AcOk x) :
    Calls Try.prog 8 #[v] w fun e w' => e = .returned (.bool true) ∧ Below w.heap.size w w' := by
  obtain ⟨hm, p, cap0, ba, off, rfl, hp, hc⟩ := hv
  obtain ⟨n, hn⟩ : ∃ n, n = l.length := ⟨_, rfl⟩
  rw [← hn] at hp hm ⊢
  have HP := hid hp
  have HC := hid hc
  have HN := hid hn
  have HOK := hid hok
  have NW := hid (new_calls (fun _ => 0) 0 w)
  have AW := hid awake_calls
  obtain ⟨R, hR⟩ : ∃ R : Ending → World → Prop, R = fun e w' => e = .returned (.bool true) ∧ Below w.heap.size w w' := ⟨_, rfl⟩
  have FIN := hid (show ∀ w', Below w.heap.size w w' → R (.returned (.bool true)) w' by intro w' h; rw [hR]; exact ⟨rfl, h⟩)
  rw [← hR]
  clear hp hc hn hok hR
  go_enter Try.func8, Try.ntmps8
  go_wp2_with fail
  refine NW.out.mono ?_
  rintro e w2 ⟨O1, b, G1, rfl, bd1, hG, hb1, hO1⟩
  obtain ⟨O, lk, lo⟩ := lk_start bd1 hG hb1 hO1
  obtain ⟨w3, hw3⟩ : ∃ w3, w3 = w2.alloc (.cells #[.slice none 0 0, .int .i64 0, .int .i64 0, .int .i64 0] 49) := ⟨_, rfl⟩
  have b3 : Below w2.heap.size w2 w3 := by rw [hw3]; exact (Below.refl _ _).alloc (Nat.le_refl _) _
  have c3 : Cells w3 w2.heap.size #[.slice none 0 0, .int .i64 0, .int .i64 0, .int .i64 0] 49 := by rw [hw3]; exact Cells.new _ _ _
  have R0 := hid (show RuC w w3 b w2.heap.size (grow O w2 0) G1 0 0 (.slice none 0 0) ⟨[], 0, 0, 0⟩ 0 from
    ⟨lk.grow b3, c3, grow_new (Nat.le_refl _), hb1.size, hb1.trans (b3.mono hb1.size), fun k hk => by rw [grow_old (Nat.lt_of_lt_of_le hk hb1.size)]; exact lo _ hk⟩)
  have HW3 := hid hw3
  obtain ⟨r7, hr7⟩ : ∃ r7, r7 = w2.heap.size := ⟨_, rfl⟩
  rw [← hr7] at R0
  have HR7 := hid hr7
  clear bd1 hG hb1 hO1 lk lo b3 c3 hw3 NW hr7
  go_upto_block 0 with fail
  rw [← HW3.out, ← HR7.out]
  go_cut [] (fun wx => Below w.heap.size w wx)
  case first =>
    go_wp2_with fail
    go_loopg [5] 30 (fun k s5 wr => ∃ (i : Nat) (O : Nat → Nat) (G : Mm) (N : Nat) (last : Int) (vx : Value) (x : Rb), i + k = 30 ∧ s5 = .int .i64 i ∧ RuC w wr b r7 O G N last vx x i)
    case atStart => exact ⟨0, _, _, _, _, _, _, by omega, rfl, R0.out⟩
    case round =>
      obtain ⟨i, O, G, N, last, vx, x, hik, rfl, kp⟩ := hrel
      have KP := hid kp
      have HIK := hid hik
      clear kp hik R0
      by_cases hi : i < n
      · by_cases h40 : i < 30
        · have hil : i < l.length := by rw [← HN.out]; exact hi
          obtain ⟨hpp, hbl⟩ := HP.out (by omega)
          subst hpp
          obtain ⟨a, ha⟩ : ∃ a, a = l[i] := ⟨_, rfl⟩
          have key : ∀ j, j < 13 → wr.cell? ⟨ba, off + i * 13 + j, none⟩ = (encA a)[j]? := fun j hj => by rw [ha]; exact (KP.out.below.cell (p := ⟨ba, off + i * 13 + j, none⟩) hbl).trans (HC.out i hil j hj)
          have AOK := hid (HOK.out a (by rw [ha]; exact List.getElem_mem hil))
          have hbr := Nat.lt_of_lt_of_le hbl KP.out.below.size
          have c0 : wr.cell? ⟨ba, off + i * 13, none⟩ = some (.int .i64 a.k) := key 0 (by omega)
          have c1 : wr.cell? ⟨ba, off + i * 13 + 1, none⟩ = some (.int .i64 a.o.m) := key 1 (by omega)
          have c2 : wr.cell? ⟨ba, off + i * 13 + 2, none⟩ = some (.int .i64 a.o.s) := key 2 (by omega)
          have c3 : wr.cell? ⟨ba, off + i * 13 + 3, none⟩ = some (.int .i64 a.o.k) := key 3 (by omega)
          have c4 : wr.cell? ⟨ba, off + i * 13 + 4, none⟩ = some (.int .i64 a.o.f) := key 4 (by omega)
          have c5 : wr.cell? ⟨ba, off + i * 13 + 5, none⟩ = some (.int .i64 a.o.p) := key 5 (by omega)
          have c6 : wr.cell? ⟨ba, off + i * 13 + 6, none⟩ = some (.int .i64 a.o.t) := key 6 (by omega)
          have c7 : wr.cell? ⟨ba, off + i * 13 + 7, none⟩ = some (.int .i64 a.o.q) := key 7 (by omega)
          have c8 : wr.cell? ⟨ba, off + i * 13 + 8, none⟩ = some (.int .i64 a.o.pk) := key 8 (by omega)
          have c9 : wr.cell? ⟨ba, off + i * 13 + 9, none⟩ = some (.int .i64 a.n) := key 9 (by omega)
          have c10 : wr.cell? ⟨ba, off + i * 13 + 10, none⟩ = some (.int .i64 a.m) := key 10 (by omega)
          have c11 : wr.cell? ⟨ba, off + i * 13 + 11, none⟩ = some (.int .i64 a.p) := key 11 (by omega)
          have c12 : wr.cell? ⟨ba, off + i * 13 + 12, none⟩ = some (.int .i64 a.q) := key 12 (by omega)
          have g1 : decide ((i : Int) < (n : Int)) = true := by simpa using hi
          have g2 : decide ((i : Int) < 30) = true := by simp; omega
          obtain ⟨wz, hwz⟩ : ∃ wz, wz = wr.alloc (.cells #[.slice none 0 0, .int .i64 0, .int .i64 0, .int .i64 0] 49) := ⟨_, rfl⟩
          have CZ := hid (show Cells wz.drew wr.heap.size #[.slice none 0 0, .int .i64 0, .int .i64 0, .int .i64 0] 49 by rw [hwz]; exact (Cells.new _ _ _).drew)
          have DQ := hid (do_u KP.out (by omega) a AOK.out wr.drew (Below.refl wr.heap.size wr).drew)
          have DZ := hid (do_u KP.out (by omega) a AOK.out wz.drew (by rw [hwz]; exact ((Below.refl wr.heap.size wr).alloc (Nat.le_refl _) _).drew))
          rw [hwz] at DZ CZ
          obtain ⟨p9, cap9, g9, rfl, _, _⟩ := KP.out.lk.row.rows
          obtain ⟨n9, hn9⟩ : ∃ n9, n9 = x.L.length := ⟨_, rfl⟩
          rw [← hn9] at DQ DZ KP
          obtain ⟨x0, x1, x2, x3⟩ : wr.cell? ⟨r7, 0, none⟩ = some (.slice p9 n9 cap9) ∧ wr.cell? ⟨r7, 1, none⟩ = some (.int .i64 x.nums) ∧ wr.cell? ⟨r7, 2, none⟩ = some (.int .i64 x.turn) ∧ wr.cell? ⟨r7, 3, none⟩ = some (.int .i64 x.paid) := by
            refine ⟨?_, ?_, ?_, ?_⟩ <;> (rw [KP.out.c7.cell]; rfl)
          have xl := KP.out.c7.lt
          unfold rbV encA at DQ DZ
          clear key ha hn9
          go_upto_region 8 with fail
          go_cut [6, 7] (fun s6 s7 wx => ∃ r6 p' cap' n' nu tu pa, s6 = pt r6 ∧ s7 = .bool true ∧ Cells wx r6 #[.slice p' n' cap', .int .i64 nu, .int .i64 tu, .int .i64 pa] 49 ∧ StU w wx b r7 i p' cap' n' nu tu pa)
          case first =>
            go_region_with (first
              | (go_at_call 32; (with_reducible refine DQ.out.mono ?_); rintro e w6 ⟨p', cap', n', nu, tu, pa, rfl, _, rn⟩; have RN := hid rn; clear rn)
              | (go_at_call 32; (with_reducible refine DZ.out.mono ?_); rintro e w6 ⟨p', cap', n', nu, tu, pa, rfl, kz, rn⟩; have C6 := hid (kz _ _ _ (Nat.le_refl _) CZ.out); obtain ⟨y0, y1, y2, y3⟩ := C6.out.cells4; have y4 := C6.out.frozen 0; have y5 := C6.out.frozen 1; have y6 := C6.out.frozen 2; have y7 := C6.out.frozen 3; have y8 := C6.out.lt; have RN := hid rn; clear rn kz))
            all_goals (
              clear x0 x1 x2 x3 xl c0 c1 c2 c3 c4 c5 c6 c7 c8 c9 c10 c11 c12
              go_wp2
              go_meet
              first
                | (refine ⟨w6.heap.size, p', cap', n', nu, tu, pa, rfl, rfl, ?_, ?_⟩
                   · exact Cells.new _ _ _
                   · exact RN.out _ (.inl ((Below.refl _ _).alloc (Nat.le_refl _) _)))
                | (refine ⟨wr.heap.size, p', cap', n', nu, tu, pa, rfl, rfl, ?_, ?_⟩
                   · exact put_res C6.out (.slice p' n' cap') nu tu pa
                   · exact RN.out _ (.inr ⟨wr.heap.size, _, Nat.le_refl _, CZ.out, kept_res (Kept.refl (fun k => k = wr.heap.size) w6) (.slice p' n' cap') nu tu pa, by simp [size_setCell]⟩)))
          case rest =>
            obtain ⟨r6, p', cap', n', nu, tu, pa, rfl, rfl, c6, su⟩ := hcut
            obtain ⟨⟨ya, yb, yc, yd, c7'⟩, RU⟩ := su
            have RU := hid RU
            obtain ⟨z0, z1, z2, z3⟩ := c6.cells4
            obtain ⟨y0, y1, y2, y3⟩ := c7'.cells4
            have y4 := c7'.frozen 0
            have y5 := c7'.frozen 1
            have y6 := c7'.frozen 2
            have y7 := c7'.frozen 3
            have yl := c7'.lt
            have zl := c6.lt
            clear x0 x1 x2 x3 xl c0 c1 c2 c3 c4 c5 c6 c7 c8 c9 c10 c11 c12 DQ DZ CZ c7'
            go_upto_region 10 with fail
            obtain ⟨w9, hw9⟩ : ∃ w9, w9 = (((wc.setCell ⟨r7, 0, none⟩ (.slice p' n' cap')).setCell ⟨r7, 1, none⟩ (.int .i64 nu)).setCell ⟨r7, 2, none⟩ (.int .i64 tu)).setCell ⟨r7, 3, none⟩ (.int .i64 pa) := ⟨_, rfl⟩
            have RU9 := RU.out
            rw [← hw9] at RU9 ⊢
            obtain ⟨O9, G9, N9, l9, x', rfl, rfl, rfl, rfl, ru⟩ := RU9
            have R9 := hid ru
            have SH := hid (shows_calls ru.lk (by omega))
            obtain ⟨x0, x1, x2, x3⟩ := ru.c7.cells4
            have xl := ru.c7.lt
            obtain ⟨n8, hn8⟩ : ∃ n8, n8 = x'.L.length := ⟨_, rfl⟩
            rw [← hn8] at x0
            unfold rbV at SH
            rw [← hn8] at SH R9
            have HN8 := hid hn8
            clear hw9 ru RU y0 y1 y2 y3 y4 y5 y6 y7 yl z0 z1 z2 z3 zl hn8
            go_wp2_with fail
            refine SH.out.mono ?_
            rintro e w10 ⟨rfl, hb10⟩
            have R10 := hid (R9.out.after hb10)
            clear hb10 x0 x1 x2 x3 xl
            go_wp2
            go_roundg (30 - (i + 1))
            · exact ⟨i + 1, _, _, _, _, _, _, by omega, by go_num, R10.out⟩
            · have := HIK.out; omega
        · have g1 : decide ((i : Int) < (n : Int)) = true := by simpa using hi
          have g2 : decide ((i : Int) < 30) = false := by simp; omega
          go_wp2
          go_meet
          exact KP.out.below
      · have g1 : decide ((i : Int) < (n : Int)) = false := by simpa using hi
        go_wp2
        go_meet
        exact KP.out.below
  case rest =>
    have hb8 : Below w.heap.size w wc := hcut
    have BL := hid hb8
    clear hb8 hcut
    go_wp2_with fail
    refine (AW.out _).mono ?_
    rintro e w10 ⟨rfl, hb10⟩
    have FN := hid (FIN.out w10 (BL.out.trans (hb10.mono BL.out.size)))
    go_wp2
    first | exact FN.out | (go_ret; exact FN.out)
end Go.Proofs.Ytdjhpldiifdifaa
