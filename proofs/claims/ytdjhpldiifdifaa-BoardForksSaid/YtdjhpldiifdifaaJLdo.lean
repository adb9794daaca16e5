/- The law's do: walked. The law's run: walked. -/
import Derived.BigQuiet
import Derived.Deep.RegionHeld3
import Derived.Deep.DeepCutAuto
import Derived.Test.YtdjhpldiifdifaaJLk0
import Derived.Test.YtdjhpldiifdifaaJLw0
import Derived.Test.YtdjhpldiifdifaaJAwk
namespace Go.Proofs.Ytdjhpldiifdifaa
set_option linter.unusedSimpArgs false
set_option linter.unusedVariables false
open Go.RowKit Go.Shelf
attribute [local go_sem] Oper.semAt_some
attribute [local go_sem ↓] Go.wp_at_zero Go.wp_at_succ

theorem ev_reads {B : Nat} {w : World} {v : Value} {l : List Ev} (h : OwnE encEv 5 40 B w v l) (hl : l.length ≤ 1000000000000) : ReadsE encEv 5 w v l := OwnE.reads (enc := encEv) (sz := 5) (l := l) (fun _ => rfl) h (by omega)
theorem ev_readsR {B : Nat} {w : World} {v : Value} {l : List Ev} (h : RowE B w v l) (hl : l.length ≤ 1000000000000) : ReadsE encEv 5 w v l := OwnE.reads (enc := encEv) (sz := 5) (l := l) (fun _ => rfl) h (by omega)
theorem Mid.evs {q : Nat} {w : World} {b : Nat} {O : Nat → Nat} {v : Value} {evs : List Ev} {O1 : Nat → Nat} {G1 : Mm} {N1 : Nat} {last1 : Int} {w1 w2 : World} (m : Mid q w b O v evs O1 G1 N1 last1 w1) (hb : Below w1.heap.size w1 w2) : ReadsE encEv 5 w2 v evs := ev_reads (OwnE.below m.ev hb) m.len

set_option maxRecDepth 100000 in
set_option maxHeartbeats 20000000 in
theorem do_calls {q : Nat} {w : World} {b : Nat} {O : Nat → Nat} {G : Mm} {N : Nat} {last : Int} {vx : Value} {x : Rb} {i : Nat} (k : LkS q w b O G N last vx x i) (hi : i ≤ 90) (a : Ac) (hok : AcOk a) :
    Calls Try.prog 32 #[pt b, rbV vx x.nums x.turn x.paid, .agg (encA a).toArray] w (DoP q w b O i) := by
  obtain ⟨p0, cap0, g0, hv0, hp0, hc0⟩ := k.row.rows
  obtain ⟨NL, hNL⟩ : ∃ NL, NL = x.L.length := ⟨_, rfl⟩
  rw [← hNL] at hv0 hp0
  subst hv0
  obtain ⟨wa, hwa⟩ : ∃ wa, wa = ((w.alloc (.cells #[.slice p0 NL cap0, .int .i64 x.nums, .int .i64 x.turn, .int .i64 x.paid] 49)).alloc (.cells (encA a).toArray 29)).alloc (.cells #[.slice none 0 0, .int .i64 0, .int .i64 0, .int .i64 0] 49) := ⟨_, rfl⟩
  have ba : Below w.heap.size w wa := by rw [hwa]; exact (((Below.refl _ w).alloc (Nat.le_refl _) _).alloc (by simp) _).alloc (by simp; omega) _
  have cB : Cells wa w.heap.size #[.slice p0 NL cap0, .int .i64 x.nums, .int .i64 x.turn, .int .i64 x.paid] 49 := by rw [hwa]; exact ((Cells.new w _ _).alloc _).alloc _
  have cA : Cells wa (w.heap.size + 1) (encA a).toArray 29 := by
    rw [hwa]
    have := (Cells.new (w.alloc (.cells #[.slice p0 NL cap0, .int .i64 x.nums, .int .i64 x.turn, .int .i64 x.paid] 49)) (encA a).toArray 29).alloc (.cells #[.slice none 0 0, .int .i64 0, .int .i64 0, .int .i64 0] 49)
    rwa [World.size_alloc] at this
  have cR : Cells wa (w.heap.size + 1 + 1) #[.slice none 0 0, .int .i64 0, .int .i64 0, .int .i64 0] 49 := by
    rw [hwa]
    have := Cells.new ((w.alloc (.cells #[.slice p0 NL cap0, .int .i64 x.nums, .int .i64 x.turn, .int .i64 x.paid] 49)).alloc (.cells (encA a).toArray 29)) #[.slice none 0 0, .int .i64 0, .int .i64 0, .int .i64 0] 49
    rwa [World.size_alloc, World.size_alloc] at this
  obtain ⟨k0, st0⟩ := k.pre ba
  have K := hid k
  have K0 := hid k0
  have ST0 := hid st0
  have CB := hid cB
  have CA := hid cA
  have CR := hid cR
  have HWA := hid hwa
  have HOK := hid hok
  have HI := hid hi
  obtain ⟨O0, hO0⟩ : ∃ O0, O0 = grow O w 0 := ⟨_, rfl⟩
  have Z0 := hid (show ∀ k, w.heap.size ≤ k → O0 k = 0 from fun k h => by rw [hO0]; exact grow_new h)
  rw [← hO0] at K0 ST0
  have lB := cB.lt
  have lA := cA.lt
  have lR := cR.lt
  have a0 : wa.cell? ⟨w.heap.size + 1, 0, none⟩ = some (.int .i64 a.k) := by rw [cA.cell]; rfl
  have a1 : wa.cell? ⟨w.heap.size + 1, 1, none⟩ = some (.int .i64 a.o.m) := by rw [cA.cell]; rfl
  have a2 : wa.cell? ⟨w.heap.size + 1, 2, none⟩ = some (.int .i64 a.o.s) := by rw [cA.cell]; rfl
  have a3 : wa.cell? ⟨w.heap.size + 1, 3, none⟩ = some (.int .i64 a.o.k) := by rw [cA.cell]; rfl
  have a4 : wa.cell? ⟨w.heap.size + 1, 4, none⟩ = some (.int .i64 a.o.f) := by rw [cA.cell]; rfl
  have a5 : wa.cell? ⟨w.heap.size + 1, 5, none⟩ = some (.int .i64 a.o.p) := by rw [cA.cell]; rfl
  have a6 : wa.cell? ⟨w.heap.size + 1, 6, none⟩ = some (.int .i64 a.o.t) := by rw [cA.cell]; rfl
  have a7 : wa.cell? ⟨w.heap.size + 1, 7, none⟩ = some (.int .i64 a.o.q) := by rw [cA.cell]; rfl
  have a8 : wa.cell? ⟨w.heap.size + 1, 8, none⟩ = some (.int .i64 a.o.pk) := by rw [cA.cell]; rfl
  have a9 : wa.cell? ⟨w.heap.size + 1, 9, none⟩ = some (.int .i64 a.n) := by rw [cA.cell]; rfl
  have a10 : wa.cell? ⟨w.heap.size + 1, 10, none⟩ = some (.int .i64 a.m) := by rw [cA.cell]; rfl
  have a11 : wa.cell? ⟨w.heap.size + 1, 11, none⟩ = some (.int .i64 a.p) := by rw [cA.cell]; rfl
  have a12 : wa.cell? ⟨w.heap.size + 1, 12, none⟩ = some (.int .i64 a.q) := by rw [cA.cell]; rfl
  obtain ⟨r, hr1, hr2, hr3, hr4⟩ := kind_mod a.k
  obtain ⟨R, hRR⟩ : ∃ R, R = DoP q w b O i := ⟨_, rfl⟩
  have HRR := hid hRR
  rw [← hRR]
  have HNL := hid hNL
  unfold encA at HWA ⊢
  unfold rbV
  clear hwa ba cB cA cR k k0 st0 hO0 hp0 hc0 hNL hok hi hRR
  go_enter Try.func32, Try.ntmps32
  go_upto_region 2 with fail
  rw [← HWA.out]
  go_upto_if 32 with fail
  go_cut [32] (fun s32 wx => ∃ t, s32 = .bool t ∧ t = decide (r ≤ 4) ∧ wx = wa)
  case first =>
    have hc : r = 0 ∨ r = 1 ∨ r = 2 ∨ r = 3 ∨ r = 4 ∨ r = 5 ∨ r = 6 ∨ r = 7 := by omega
    rcases hc with rfl | rfl | rfl | rfl | rfl | rfl | rfl | rfl
    all_goals (
      go_wp2
      go_meet
      exact ⟨_, rfl, rfl, rfl⟩)
  case rest =>
    obtain ⟨t, rfl, ht, rfl⟩ := hcut
    by_cases h4 : r ≤ 4
    · obtain rfl : t = true := by rw [ht]; exact decide_eq_true h4
      clear ht
      --{E
      have TM := hid (tame_calls a.o HOK.out.1 wc)
      unfold Od.vals at TM
      clear h4
      go_wp2_with fail
      refine TM.out.mono ?_
      rintro e w1 ⟨rfl, hb1⟩
      obtain ⟨o, ho⟩ : ∃ o, o = tameO a.o := ⟨_, rfl⟩
      rw [← ho]
      obtain ⟨w2, hw2⟩ : ∃ w2, w2 = w1.alloc (.cells o.vals 27) := ⟨_, rfl⟩
      have b2 : Below wc.heap.size wc w2 := by rw [hw2]; exact hb1.alloc hb1.size _
      have hsz : wc.heap.size ≤ w1.heap.size := hb1.size
      have cO : Cells w2 w1.heap.size o.vals 27 := by rw [hw2]; exact Cells.new _ _ _
      have hws : w.heap.size ≤ w1.heap.size := by omega
      have k2 := K0.out.step (O' := grow O0 wc 0) b2 (fun _ h => grow_old h) (clean_grow b2 K0.out.clean)
      have st2 : Step (colB q) O w (grow O0 wc 0) w2 := ST0.out.trans ⟨b2.os, b2.tape, b2.output, b2.size, fun j h _ => ⟨b2.block j h, grow_old h⟩, fun j h hc => .inl (by rw [grow_old h]; exact hc)⟩
      obtain ⟨O2, hO2⟩ : ∃ O2, O2 = grow O0 wc 0 := ⟨_, rfl⟩
      have z2 : ∀ k, w.heap.size ≤ k → O2 k = 0 := fun k h => by rw [hO2]; exact grow_same (Z0.out k h)
      rw [← hO2] at k2 st2
      have EN := hid ((enter_calls k2.bd o (by have := k2.num; have := HI.out; omega) (by have := k2.size HI.out; omega)).mono fun e w' hc => enter_link k2 HI.out hc)
      have K2 := hid k2
      have ST2 := hid st2
      have CO := hid cO
      have CB2 := hid (CB.out.below b2 lB)
      have CR2 := hid (CR.out.below b2 lR)
      have Z2 := hid z2
      have HW2 := hid hw2
      unfold Od.vals at EN HW2
      clear ho b2 cO k2 st2 hO2 z2 hw2 hb1 a0 a1 a2 a3 a4 a5 a6 a7 a8 a9 a10 a11 a12 TM
      go_wp2_with fail
      rw [← HW2.out]
      refine EN.out.mono ?_
      rintro e w3 ⟨nn, er, evs, v, O1, G1, N1, last1, hN1, rfl, mid, nxt⟩
      obtain ⟨cB3, _⟩ := mid.cells CB2.out (Z2.out _ (Nat.le_refl _))
      obtain ⟨cR3, oR3⟩ := mid.cells CR2.out (Z2.out _ (by omega))
      obtain ⟨cO3, _⟩ := mid.cells CO.out (Z2.out _ hws)
      have row3 := mid.row K2.out.row K2.out.clean
      have MID := hid mid
      have RE := hid ((enter_rcalls w3 row3 K2.out.bd.ok K2.out.rel (by show (N : Int) < _; have := K2.out.num; have := HI.out; omega) o (by have := K2.out.turn; have := HI.out; omega) K2.out.len (K2.out.size HI.out)).mono fun e w' hc => nxt e w3 w' hc)
      rw [← HNL.out] at *
      unfold rbV Od.vals at RE
      obtain ⟨t0, t1, t2, t3⟩ : w3.cell? ⟨w.heap.size, 0, none⟩ = some (.slice p0 NL cap0) ∧ w3.cell? ⟨w.heap.size, 1, none⟩ = some (.int .i64 x.nums) ∧ w3.cell? ⟨w.heap.size, 2, none⟩ = some (.int .i64 x.turn) ∧ w3.cell? ⟨w.heap.size, 3, none⟩ = some (.int .i64 x.paid) := by
        refine ⟨?_, ?_, ?_, ?_⟩ <;> (rw [cB3.cell]; rfl)
      obtain ⟨o0, o1, o2, o3, o4, o5, o6, o7, ol⟩ := ord_cells cO3
      have lB3 := cB3.lt
      have ST3 := hid (ST2.out.trans mid.st)
      have CR3 := hid cR3
      have OR3 := hid oR3
      have HN1 := hid hN1
      clear cB3 cR3 oR3 cO3 row3 mid nxt hN1
      go_wp2_with fail
      refine RE.out.mono ?_
      rintro e w4 ⟨v', x', ve, rfl, fn⟩
      have cR4 := CR3.out.below fn.below CR3.out.lt
      have FIN := hid (fun w6 (hk : Kept (fun k => k = w.heap.size + 1 + 1) w4 w6) => do_fin K.out ST3.out MID.out.bd HN1.out fn (by omega) OR3.out cR4 hk)
      have EV := hid (fun (wx : World) (hb : Kept (fun k => k = w.heap.size + 1 + 1) w4 wx) => events_same (ev_reads (OwnE.far (OwnE.below MID.out.ev fn.below) cR4 (by decide) hb) MID.out.len) (ev_readsR (OwnE.far fn.evr cR4 (by decide) hb) MID.out.len))
      obtain ⟨p4, cap4, g4, rfl, _, _⟩ := fn.row.rows
      obtain ⟨n4, hn4⟩ : ∃ n4, n4 = x'.L.length := ⟨_, rfl⟩
      rw [← hn4] at FIN ⊢
      clear hn4
      have CR4 := hid cR4
      have FN4 := hid fn
      clear fn cR4 t0 t1 t2 t3 o0 o1 o2 o3 o4 o5 o6 o7 ol lB3 RE EN
      go_upto_region 10 with fail
      obtain ⟨w5, hw5⟩ : ∃ w5, w5 = w4.alloc (.cells #[.slice p4 n4 cap4, .int .i64 x'.nums, .int .i64 x'.turn, .int .i64 x'.paid] 49) := ⟨_, rfl⟩
      rw [← hw5]
      have b5 : Below w4.heap.size w4 w5 := by rw [hw5]; exact (Below.refl _ _).alloc (Nat.le_refl _) _
      have c5 : Cells w5 w4.heap.size #[.slice p4 n4 cap4, .int .i64 x'.nums, .int .i64 x'.turn, .int .i64 x'.paid] 49 := by rw [hw5]; exact Cells.new _ _ _
      have r5 := CR4.out.below b5 CR4.out.lt
      have B5 := hid b5
      obtain ⟨s0, s1, s2, s3⟩ : w5.cell? ⟨w4.heap.size, 0, none⟩ = some (.slice p4 n4 cap4) ∧ w5.cell? ⟨w4.heap.size, 1, none⟩ = some (.int .i64 x'.nums) ∧ w5.cell? ⟨w4.heap.size, 2, none⟩ = some (.int .i64 x'.turn) ∧ w5.cell? ⟨w4.heap.size, 3, none⟩ = some (.int .i64 x'.paid) := by
        refine ⟨?_, ?_, ?_, ?_⟩ <;> (rw [c5.cell]; rfl)
      obtain ⟨y0, y1, y2, y3⟩ : w5.cell? ⟨w.heap.size + 1 + 1, 0, none⟩ = some (.slice none 0 0) ∧ w5.cell? ⟨w.heap.size + 1 + 1, 1, none⟩ = some (.int .i64 0) ∧ w5.cell? ⟨w.heap.size + 1 + 1, 2, none⟩ = some (.int .i64 0) ∧ w5.cell? ⟨w.heap.size + 1 + 1, 3, none⟩ = some (.int .i64 0) := by
        refine ⟨?_, ?_, ?_, ?_⟩ <;> (rw [r5.cell]; rfl)
      have yf0 := r5.frozen 0
      have yf1 := r5.frozen 1
      have yf2 := r5.frozen 2
      have yf3 := r5.frozen 3
      have ls5 := c5.lt
      have ly5 := r5.lt
      have R5 := hid r5
      clear hw5 b5 c5 r5
      have gn : (nn == nn) = true := by simp
      have ge : (er == er) = true := by simp
      have K5 := hid (Kept.of_below (X := fun k => k = w.heap.size + 1 + 1) B5.out)
      have C6 := hid (fun m => put_res (R5.out.drewN m) (.slice p4 n4 cap4) x'.nums x'.turn x'.paid)
      have FN := hid (fun m => FIN.out _ (kept_res (K5.out.drewN m) (.slice p4 n4 cap4) x'.nums x'.turn x'.paid))
      have far : ∀ (W : World) (j k : Nat) (u : Value), (W.setCell ⟨w.heap.size + 1 + 1, j, none⟩ u).cell? ⟨w4.heap.size, k, none⟩ = W.cell? ⟨w4.heap.size, k, none⟩ := fun W j k u => World.cell?_setCell_far _ _ _ _ (by show w.heap.size + 1 + 1 ≠ w4.heap.size; have := CR4.out.lt; omega)
      have drw : ∀ (W : World) (m : Nat) (u : Addr), (W.drewN m).cell? u = W.cell? u := fun _ _ _ => rfl
      have drw1 : ∀ (W : World) (u : Addr), W.drew.cell? u = W.cell? u := fun _ _ => rfl
      clear HNL HOK HI FIN
      go_region_held3 (fun wh => wh.cell? ⟨w4.heap.size, 0, none⟩ = some (.slice p4 n4 cap4) ∧ wh.cell? ⟨w4.heap.size, 1, none⟩ = some (.int .i64 x'.nums) ∧ wh.cell? ⟨w4.heap.size, 2, none⟩ = some (.int .i64 x'.turn) ∧ wh.cell? ⟨w4.heap.size, 3, none⟩ = some (.int .i64 x'.paid))
        ((simp only [far, drw, drw1]; exact ⟨s0, s1, s2, s3⟩))
        (first | (go_at_call 61; (with_reducible refine (EV.out _ K5.out.drew).mono ?_); rintro e w' ⟨rfl, mm, rfl⟩))
      all_goals (
        clear far drw drw1
        go_wp2
        refine bodyPost_ret (v := .tuple #[.agg #[.slice p4 n4 cap4, .int .i64 x'.nums, .int .i64 x'.turn, .int .i64 x'.paid], .bool true]) (by simp [results, Try.results32, go_sem, (C6.out (1 + mm)).cell]) rfl ?_
        rw [HRR.out]
        exact FN.out (1 + mm))
      --}E
    · obtain rfl : t = false := by rw [ht]; exact decide_eq_false h4
      clear ht
      by_cases h5 : r = 5
      ·
        --{C
        have CN := hid ((cancel_calls K0.out.bd a.n a.m HOK.out.2).mono fun e w' hc => cancel_link K0.out hc)
        have g5 : (r == 5) = true := by simpa using h5
        clear h4 h5
        go_wp2_with fail
        refine CN.out.mono ?_
        rintro e w3 ⟨er, evs, v, O1, G1, rfl, mid, nxt⟩
        obtain ⟨cB3, _⟩ := mid.cells CB.out (Z0.out _ (Nat.le_refl _))
        obtain ⟨cA3, _⟩ := mid.cells CA.out (Z0.out _ (by omega))
        obtain ⟨cR3, oR3⟩ := mid.cells CR.out (Z0.out _ (by omega))
        have row3 := mid.row K0.out.row K0.out.clean
        have MID := hid mid
        have RE := hid ((cancel_rcalls w3 row3 K0.out.len a.n a.m).mono fun e w' hc => nxt e w3 w' hc)
        unfold rbV at RE
        obtain ⟨t0, t1, t2, t3⟩ : w3.cell? ⟨w.heap.size, 0, none⟩ = some (.slice p0 NL cap0) ∧ w3.cell? ⟨w.heap.size, 1, none⟩ = some (.int .i64 x.nums) ∧ w3.cell? ⟨w.heap.size, 2, none⟩ = some (.int .i64 x.turn) ∧ w3.cell? ⟨w.heap.size, 3, none⟩ = some (.int .i64 x.paid) := by
          refine ⟨?_, ?_, ?_, ?_⟩ <;> (rw [cB3.cell]; rfl)
        obtain ⟨e9, e10, e11⟩ : w3.cell? ⟨w.heap.size + 1, 9, none⟩ = some (.int .i64 a.n) ∧ w3.cell? ⟨w.heap.size + 1, 10, none⟩ = some (.int .i64 a.m) ∧ w3.cell? ⟨w.heap.size + 1, 11, none⟩ = some (.int .i64 a.p) := by
          refine ⟨?_, ?_, ?_⟩ <;> (rw [cA3.cell]; rfl)
        have lB3 := cB3.lt
        have lA3 := cA3.lt
        have ST3 := hid (ST0.out.trans mid.st)
        have CR3 := hid cR3
        have OR3 := hid oR3
        clear cB3 cA3 cR3 oR3 row3 mid nxt CN
        go_wp2_with fail
        refine RE.out.mono ?_
        rintro e w4 ⟨v', x', ve, rfl, fn⟩
        have cR4 := CR3.out.below fn.below CR3.out.lt
        have FIN := hid (fun w6 (hk : Kept (fun k => k = w.heap.size + 1 + 1) w4 w6) => do_fin K.out ST3.out MID.out.bd (Nat.le_succ _) fn (by omega) OR3.out cR4 hk)
        have EV := hid (fun (wx : World) (hb : Kept (fun k => k = w.heap.size + 1 + 1) w4 wx) => events_same (ev_reads (OwnE.far (OwnE.below MID.out.ev fn.below) cR4 (by decide) hb) MID.out.len) (ev_readsR (OwnE.far fn.evr cR4 (by decide) hb) MID.out.len))
        obtain ⟨p4, cap4, g4, rfl, _, _⟩ := fn.row.rows
        obtain ⟨n4, hn4⟩ : ∃ n4, n4 = x'.L.length := ⟨_, rfl⟩
        rw [← hn4] at FIN ⊢
        clear hn4
        have CR4 := hid cR4
        have FN4 := hid fn
        clear fn cR4 t0 t1 t2 t3 lB3 RE a0 a1 a2 a3 a4 a5 a6 a7 a8 a9 a10 a11 a12
        go_upto_region 14 with fail
        obtain ⟨w5, hw5⟩ : ∃ w5, w5 = w4.alloc (.cells #[.slice p4 n4 cap4, .int .i64 x'.nums, .int .i64 x'.turn, .int .i64 x'.paid] 49) := ⟨_, rfl⟩
        rw [← hw5]
        have b5 : Below w4.heap.size w4 w5 := by rw [hw5]; exact (Below.refl _ _).alloc (Nat.le_refl _) _
        have c5 : Cells w5 w4.heap.size #[.slice p4 n4 cap4, .int .i64 x'.nums, .int .i64 x'.turn, .int .i64 x'.paid] 49 := by rw [hw5]; exact Cells.new _ _ _
        have r5 := CR4.out.below b5 CR4.out.lt
        have B5 := hid b5
        obtain ⟨s0, s1, s2, s3⟩ : w5.cell? ⟨w4.heap.size, 0, none⟩ = some (.slice p4 n4 cap4) ∧ w5.cell? ⟨w4.heap.size, 1, none⟩ = some (.int .i64 x'.nums) ∧ w5.cell? ⟨w4.heap.size, 2, none⟩ = some (.int .i64 x'.turn) ∧ w5.cell? ⟨w4.heap.size, 3, none⟩ = some (.int .i64 x'.paid) := by
          refine ⟨?_, ?_, ?_, ?_⟩ <;> (rw [c5.cell]; rfl)
        obtain ⟨y0, y1, y2, y3⟩ : w5.cell? ⟨w.heap.size + 1 + 1, 0, none⟩ = some (.slice none 0 0) ∧ w5.cell? ⟨w.heap.size + 1 + 1, 1, none⟩ = some (.int .i64 0) ∧ w5.cell? ⟨w.heap.size + 1 + 1, 2, none⟩ = some (.int .i64 0) ∧ w5.cell? ⟨w.heap.size + 1 + 1, 3, none⟩ = some (.int .i64 0) := by
          refine ⟨?_, ?_, ?_, ?_⟩ <;> (rw [r5.cell]; rfl)
        have yf0 := r5.frozen 0
        have yf1 := r5.frozen 1
        have yf2 := r5.frozen 2
        have yf3 := r5.frozen 3
        have ls5 := c5.lt
        have ly5 := r5.lt
        have R5 := hid r5
        clear hw5 b5 c5 r5
        have ge : (er == er) = true := by simp
        have K5 := hid (Kept.of_below (X := fun k => k = w.heap.size + 1 + 1) B5.out)
        have C6 := hid (fun m => put_res (R5.out.drewN m) (.slice p4 n4 cap4) x'.nums x'.turn x'.paid)
        have FN := hid (fun m => FIN.out _ (kept_res (K5.out.drewN m) (.slice p4 n4 cap4) x'.nums x'.turn x'.paid))
        have far : ∀ (W : World) (j k : Nat) (u : Value), (W.setCell ⟨w.heap.size + 1 + 1, j, none⟩ u).cell? ⟨w4.heap.size, k, none⟩ = W.cell? ⟨w4.heap.size, k, none⟩ := fun W j k u => World.cell?_setCell_far _ _ _ _ (by show w.heap.size + 1 + 1 ≠ w4.heap.size; have := CR4.out.lt; omega)
        have drw : ∀ (W : World) (m : Nat) (u : Addr), (W.drewN m).cell? u = W.cell? u := fun _ _ _ => rfl
        have drw1 : ∀ (W : World) (u : Addr), W.drew.cell? u = W.cell? u := fun _ _ => rfl
        clear HNL HOK HI FIN
        go_region_held3 (fun wh => wh.cell? ⟨w4.heap.size, 0, none⟩ = some (.slice p4 n4 cap4) ∧ wh.cell? ⟨w4.heap.size, 1, none⟩ = some (.int .i64 x'.nums) ∧ wh.cell? ⟨w4.heap.size, 2, none⟩ = some (.int .i64 x'.turn) ∧ wh.cell? ⟨w4.heap.size, 3, none⟩ = some (.int .i64 x'.paid))
          ((simp only [far, drw, drw1]; exact ⟨s0, s1, s2, s3⟩))
          (first | (go_at_call 61; (with_reducible refine (EV.out _ K5.out.drew).mono ?_); rintro e w' ⟨rfl, mm, rfl⟩))
        all_goals (
          clear far drw drw1
          go_wp2
          refine bodyPost_ret (v := .tuple #[.agg #[.slice p4 n4 cap4, .int .i64 x'.nums, .int .i64 x'.turn, .int .i64 x'.paid], .bool true]) (by simp [results, Try.results32, go_sem, (C6.out (1 + mm)).cell]) rfl ?_
          rw [HRR.out]
          exact FN.out (1 + mm))
        --}C
      ·
        --{A
        have g5 : (r == 5) = false := by simpa using h5
        have FD := hid (find_rcalls wc K0.out.row (by have := K0.out.len; omega) x.nums x.turn x.paid a.n)
        unfold rbV at FD
        clear h4 h5
        obtain ⟨b0, b1, b2, b3⟩ : wc.cell? ⟨w.heap.size, 0, none⟩ = some (.slice p0 NL cap0) ∧ wc.cell? ⟨w.heap.size, 1, none⟩ = some (.int .i64 x.nums) ∧ wc.cell? ⟨w.heap.size, 2, none⟩ = some (.int .i64 x.turn) ∧ wc.cell? ⟨w.heap.size, 3, none⟩ = some (.int .i64 x.paid) := by
          refine ⟨?_, ?_, ?_, ?_⟩ <;> (rw [CB.out.cell]; rfl)
        go_wp2_with fail
        refine FD.out.mono ?_
        rintro e w1 ⟨rfl, hb1⟩
        obtain ⟨k1, s1⟩ := K0.out.pre hb1
        have K1 := hid k1
        have ST1 := hid (ST0.out.trans s1)
        obtain ⟨O2, hO2⟩ : ∃ O2, O2 = grow O0 wc 0 := ⟨_, rfl⟩
        have Z2 := hid (show ∀ k, w.heap.size ≤ k → O2 k = 0 from fun k h => by rw [hO2]; exact grow_same (Z0.out k h))
        rw [← hO2] at K1 ST1
        have CB1 := hid (CB.out.below hb1 lB)
        have CA1 := hid (CA.out.below hb1 lA)
        have CR1 := hid (CR.out.below hb1 lR)
        clear k1 s1 hO2 hb1 b0 b1 b2 b3 a0 a1 a2 a3 a4 a5 a6 a7 a8 a9 a10 a11 a12 FD
        go_upto_region 17 with fail
        obtain ⟨fi, hfi⟩ : ∃ fi, fi = optI (findR x.L a.n) := ⟨_, rfl⟩
        rw [← hfi]
        have HFI := hid hfi
        clear hfi
        go_cut [121] (fun s121 wx => ∃ t, s121 = .bool t ∧ wx = w1)
        case first =>
          obtain ⟨p9, cap9, g9, hv9, hp9, hc9⟩ := K1.out.row.rows
          obtain ⟨e1, e2, e3⟩ : p0 = p9 ∧ NL = x.L.length ∧ cap0 = cap9 := by injection hv9 with a b c; exact ⟨a, b, c⟩
          subst e1 e3
          have t0 : w1.cell? ⟨w.heap.size, 0, none⟩ = some (.slice p0 NL cap0) := by rw [CB1.out.cell]; rfl
          have tl := CB1.out.lt
          rcases findR_spec (L := x.L) a.n with ⟨m1, _⟩ | ⟨j, hj, m1, m2⟩
          · obtain rfl : fi = -1 := by rw [HFI.out, m1]; rfl
            have q1 : decide (0 ≤ (-1 : Int)) = false := by decide
            clear hv9 hp9 hc9 m1 e2
            go_wp2
            go_meet
            exact ⟨_, rfl, rfl⟩
          · obtain rfl : fi = (j : Int) := by rw [HFI.out, m1]; rfl
            obtain ⟨rfl, hg⟩ := hp9 (by omega)
            obtain ⟨_, _, _, _, _, _, _, _, c8, _⟩ := hc9 w1 (Below.refl _ _) j hj
            have q1 : decide (0 ≤ (j : Int)) = true := by simp
            have q2 : (0 : Int) ≤ (j : Int) := by omega
            have q3 : (j : Int) < (NL : Int) := by omega
            have q4 : ((j : Int)).toNat = j := by omega
            have q5 : j < NL := by omega
            obtain ⟨pk, hpk⟩ : ∃ pk, pk = x.L[j].o.pk := ⟨_, rfl⟩
            rw [← hpk] at c8
            clear hv9 hp9 hc9 m1 m2 hpk e2
            by_cases hq : 500 < a.q
            · have q6 : decide (500 < a.q) = true := by simpa using hq
              go_wp2
              go_meet
              exact ⟨_, rfl, rfl⟩
            · have q6 : decide (500 < a.q) = false := by simpa using hq
              go_wp2
              go_meet
              exact ⟨_, rfl, rfl⟩
        case rest =>
          obtain ⟨t, rfl, rfl⟩ := hcut
          obtain ⟨z, z1, z2, z3, z4, z5⟩ : ∃ z, a.q.tmod 500 = z ∧ IntKind.i64.wrap z = z ∧ IntKind.i64.wrap (1 + z) = 1 + z ∧ -500 < z ∧ z < 500 := by
            have h1 := Int.tmod_lt_of_pos a.q (b := 500) (by decide)
            have h2 := Int.lt_tmod_of_pos a.q (b := 500) (by decide)
            exact ⟨_, rfl, IntWalk.i64_in _ (by omega), IntWalk.i64_in _ (by omega), by omega, h1⟩
          go_upto_if 121 with fail
          go_cut [21] (fun s21 wx => ∃ z, s21 = .int .i64 z ∧ wx = wc)
          case first =>
            cases t
            all_goals (
              go_wp2
              go_meet
              exact ⟨_, rfl, rfl⟩)
          case rest =>
            obtain ⟨qt, rfl, rfl⟩ := hcut
            clear z1 z2 z3 z4 z5
            obtain ⟨b9, b10, b11⟩ : wc.cell? ⟨w.heap.size + 1, 9, none⟩ = some (.int .i64 a.n) ∧ wc.cell? ⟨w.heap.size + 1, 10, none⟩ = some (.int .i64 a.m) ∧ wc.cell? ⟨w.heap.size + 1, 11, none⟩ = some (.int .i64 a.p) := by
              refine ⟨?_, ?_, ?_⟩ <;> (rw [CA1.out.cell]; rfl)
            have lA1 := CA1.out.lt
            have AN := hid ((amend_calls K1.out.bd a.n a.m a.p qt HOK.out.2 (by have := K1.out.size HI.out; omega)).mono fun e w' hc => amend_link K1.out HI.out hc)
            go_wp2_with fail
            refine AN.out.mono ?_
            rintro e w3 ⟨er, evs, v, O1, G1, last1, rfl, mid, nxt⟩
            obtain ⟨cB3, _⟩ := mid.cells CB1.out (Z2.out _ (Nat.le_refl _))
            obtain ⟨cA3, _⟩ := mid.cells CA1.out (Z2.out _ (by omega))
            obtain ⟨cR3, oR3⟩ := mid.cells CR1.out (Z2.out _ (by omega))
            have row3 := mid.row K1.out.row K1.out.clean
            have MID := hid mid
            have RE := hid ((amend_rcalls w3 row3 K1.out.bd.ok K1.out.rel (by have := K1.out.turn; have := HI.out; omega) K1.out.len (K1.out.size HI.out) a.n a.m a.p qt).mono fun e w' hc => nxt e w3 w' hc)
            unfold rbV at RE
            obtain ⟨t0, t1, t2, t3⟩ : w3.cell? ⟨w.heap.size, 0, none⟩ = some (.slice p0 NL cap0) ∧ w3.cell? ⟨w.heap.size, 1, none⟩ = some (.int .i64 x.nums) ∧ w3.cell? ⟨w.heap.size, 2, none⟩ = some (.int .i64 x.turn) ∧ w3.cell? ⟨w.heap.size, 3, none⟩ = some (.int .i64 x.paid) := by
              refine ⟨?_, ?_, ?_, ?_⟩ <;> (rw [cB3.cell]; rfl)
            obtain ⟨e9, e10, e11⟩ : w3.cell? ⟨w.heap.size + 1, 9, none⟩ = some (.int .i64 a.n) ∧ w3.cell? ⟨w.heap.size + 1, 10, none⟩ = some (.int .i64 a.m) ∧ w3.cell? ⟨w.heap.size + 1, 11, none⟩ = some (.int .i64 a.p) := by
              refine ⟨?_, ?_, ?_⟩ <;> (rw [cA3.cell]; rfl)
            have lB3 := cB3.lt
            have lA3 := cA3.lt
            have ST3 := hid (ST1.out.trans mid.st)
            have CR3 := hid cR3
            have OR3 := hid oR3
            clear cB3 cA3 cR3 oR3 row3 mid nxt AN b9 b10 b11
            go_wp2_with fail
            refine RE.out.mono ?_
            rintro e w4 ⟨v', x', ve, rfl, fn⟩
            have cR4 := CR3.out.below fn.below CR3.out.lt
            have FIN := hid (fun w6 (hk : Kept (fun k => k = w.heap.size + 1 + 1) w4 w6) => do_fin K.out ST3.out MID.out.bd (Nat.le_succ _) fn (by omega) OR3.out cR4 hk)
            have EV := hid (fun (wx : World) (hb : Kept (fun k => k = w.heap.size + 1 + 1) w4 wx) => events_same (ev_reads (OwnE.far (OwnE.below MID.out.ev fn.below) cR4 (by decide) hb) MID.out.len) (ev_readsR (OwnE.far fn.evr cR4 (by decide) hb) MID.out.len))
            obtain ⟨p4, cap4, g4, rfl, _, _⟩ := fn.row.rows
            obtain ⟨n4, hn4⟩ : ∃ n4, n4 = x'.L.length := ⟨_, rfl⟩
            rw [← hn4] at FIN ⊢
            clear hn4
            have CR4 := hid cR4
            have FN4 := hid fn
            clear fn cR4 t0 t1 t2 t3 lB3 RE
            go_upto_region 21 with fail
            obtain ⟨w5, hw5⟩ : ∃ w5, w5 = w4.alloc (.cells #[.slice p4 n4 cap4, .int .i64 x'.nums, .int .i64 x'.turn, .int .i64 x'.paid] 49) := ⟨_, rfl⟩
            rw [← hw5]
            have b5 : Below w4.heap.size w4 w5 := by rw [hw5]; exact (Below.refl _ _).alloc (Nat.le_refl _) _
            have c5 : Cells w5 w4.heap.size #[.slice p4 n4 cap4, .int .i64 x'.nums, .int .i64 x'.turn, .int .i64 x'.paid] 49 := by rw [hw5]; exact Cells.new _ _ _
            have r5 := CR4.out.below b5 CR4.out.lt
            have B5 := hid b5
            obtain ⟨s0, s1, s2, s3⟩ : w5.cell? ⟨w4.heap.size, 0, none⟩ = some (.slice p4 n4 cap4) ∧ w5.cell? ⟨w4.heap.size, 1, none⟩ = some (.int .i64 x'.nums) ∧ w5.cell? ⟨w4.heap.size, 2, none⟩ = some (.int .i64 x'.turn) ∧ w5.cell? ⟨w4.heap.size, 3, none⟩ = some (.int .i64 x'.paid) := by
              refine ⟨?_, ?_, ?_, ?_⟩ <;> (rw [c5.cell]; rfl)
            obtain ⟨y0, y1, y2, y3⟩ : w5.cell? ⟨w.heap.size + 1 + 1, 0, none⟩ = some (.slice none 0 0) ∧ w5.cell? ⟨w.heap.size + 1 + 1, 1, none⟩ = some (.int .i64 0) ∧ w5.cell? ⟨w.heap.size + 1 + 1, 2, none⟩ = some (.int .i64 0) ∧ w5.cell? ⟨w.heap.size + 1 + 1, 3, none⟩ = some (.int .i64 0) := by
              refine ⟨?_, ?_, ?_, ?_⟩ <;> (rw [r5.cell]; rfl)
            have yf0 := r5.frozen 0
            have yf1 := r5.frozen 1
            have yf2 := r5.frozen 2
            have yf3 := r5.frozen 3
            have ls5 := c5.lt
            have ly5 := r5.lt
            have R5 := hid r5
            clear hw5 b5 c5 r5
            have ge : (er == er) = true := by simp
            have K5 := hid (Kept.of_below (X := fun k => k = w.heap.size + 1 + 1) B5.out)
            have C6 := hid (fun m => put_res (R5.out.drewN m) (.slice p4 n4 cap4) x'.nums x'.turn x'.paid)
            have FN := hid (fun m => FIN.out _ (kept_res (K5.out.drewN m) (.slice p4 n4 cap4) x'.nums x'.turn x'.paid))
            have far : ∀ (W : World) (j k : Nat) (u : Value), (W.setCell ⟨w.heap.size + 1 + 1, j, none⟩ u).cell? ⟨w4.heap.size, k, none⟩ = W.cell? ⟨w4.heap.size, k, none⟩ := fun W j k u => World.cell?_setCell_far _ _ _ _ (by show w.heap.size + 1 + 1 ≠ w4.heap.size; have := CR4.out.lt; omega)
            have drw : ∀ (W : World) (m : Nat) (u : Addr), (W.drewN m).cell? u = W.cell? u := fun _ _ _ => rfl
            have drw1 : ∀ (W : World) (u : Addr), W.drew.cell? u = W.cell? u := fun _ _ => rfl
            clear HNL HOK HI FIN
            go_region_held3 (fun wh => wh.cell? ⟨w4.heap.size, 0, none⟩ = some (.slice p4 n4 cap4) ∧ wh.cell? ⟨w4.heap.size, 1, none⟩ = some (.int .i64 x'.nums) ∧ wh.cell? ⟨w4.heap.size, 2, none⟩ = some (.int .i64 x'.turn) ∧ wh.cell? ⟨w4.heap.size, 3, none⟩ = some (.int .i64 x'.paid))
              ((simp only [far, drw, drw1]; exact ⟨s0, s1, s2, s3⟩))
              (first | (go_at_call 61; (with_reducible refine (EV.out _ K5.out.drew).mono ?_); rintro e w' ⟨rfl, mm, rfl⟩))
            all_goals (
              clear far drw drw1
              go_wp2
              refine bodyPost_ret (v := .tuple #[.agg #[.slice p4 n4 cap4, .int .i64 x'.nums, .int .i64 x'.turn, .int .i64 x'.paid], .bool true]) (by simp [results, Try.results32, go_sem, (C6.out (1 + mm)).cell]) rfl ?_
              rw [HRR.out]
              exact FN.out (1 + mm))
        --}A
end Go.Proofs.Ytdjhpldiifdifaa
namespace Go.Proofs.Ytdjhpldiifdifaa
set_option linter.unusedSimpArgs false
set_option linter.unusedVariables false
open Go.RowKit Go.Shelf
attribute [local go_sem] Oper.semAt_some
attribute [local go_sem ↓] Go.wp_at_zero Go.wp_at_succ

/-- What run comes to. -/
def RunP (w : World) (e : Ending) (w' : World) : Prop :=
  ∃ b O G N last v x i, e = .returned (.tuple #[pt b, rbV v x.nums x.turn x.paid]) ∧ LkS 0 w' b O G N last v x i ∧ i ≤ 40 ∧ Below w.heap.size w w' ∧ ∀ k, k < w.heap.size → O k = 0
/-- At the loop's head. -/
structure RnC (w wr : World) (b r0 r7 : Nat) (O : Nat → Nat) (G : Mm) (N : Nat) (last : Int) (vx : Value) (x : Rb) (i : Nat) : Prop where
  lk : LkS 0 wr b O G N last vx x i
  c7 : Cells wr r7 #[vx, .int .i64 x.nums, .int .i64 x.turn, .int .i64 x.paid] 49
  o7 : O r7 = 0
  g7 : w.heap.size ≤ r7
  c0 : Cells wr r0 #[.slice none 0 0, .int .i64 0, .int .i64 0, .int .i64 0] 49
  o0 : O r0 = 0
  g0 : w.heap.size ≤ r0
  ne : r0 ≠ r7
  below : Below w.heap.size w wr
  low : ∀ k, k < w.heap.size → O k = 0
theorem low_step {n : Nat} {w w' : World} {O O' : Nat → Nat} (st : Step (colB 0) O w O' w') (hn : n ≤ w.heap.size) (h : ∀ k, k < n → O k = 0) : Below n w w' ∧ ∀ k, k < n → O' k = 0 := st.low hn h
theorem keep_step {w w' : World} {O O' : Nat → Nat} (st : Step (colB 0) O w O' w') {r : Nat} {cs : Array Value} {ty : TypeId} (h : Cells w r cs ty) (h0 : O r = 0) : Cells w' r cs ty ∧ O' r = 0 := by
  have hn : ¬ colB 0 (O r) := by rw [h0]; exact fun e => absurd e.1 (by omega)
  exact ⟨h.kept st.kept hn, by rw [(st.old r h.lt hn).2, h0]⟩
/-- Behind a call and the storing of its board. -/
theorem RnC.next {w wr w' : World} {b r0 r7 : Nat} {O O' : Nat → Nat} {G G' : Mm} {N N' : Nat} {last last' : Int} {vx v' : Value} {x x' : Rb} {i : Nat} (h : RnC w wr b r0 r7 O G N last vx x i) (st : Step (colB 0) O wr O' w') (lk : LkS 0 w' b O' G' N' last' v' x' (i + 1)) :
    RnC w ((((w'.setCell ⟨r7, 0, none⟩ v').setCell ⟨r7, 1, none⟩ (.int .i64 x'.nums)).setCell ⟨r7, 2, none⟩ (.int .i64 x'.turn)).setCell ⟨r7, 3, none⟩ (.int .i64 x'.paid)) b r0 r7 O' G' N' last' v' x' (i + 1) := by
  obtain ⟨c7, o7⟩ := keep_step st h.c7 h.o7
  obtain ⟨c0, o0⟩ := keep_step st h.c0 h.o0
  have kk := kept_res (Kept.refl (fun k => k = r7) w') v' x'.nums x'.turn x'.paid
  obtain ⟨l1, l2⟩ := low_step st h.below.size h.low
  exact ⟨lk.own c7 o7 kk (by simp [size_setCell]), put_res c7 v' x'.nums x'.turn x'.paid, o7, h.g7, c0.kept kk h.ne, o0, h.g0, h.ne, (h.below.trans l1).trans (kk.below (B := w.heap.size) (Nat.le_trans h.below.size l1.size) (fun k e => by have := h.g7; omega)), l2⟩
theorem RnC.after {w wr w' : World} {b r0 r7 : Nat} {O : Nat → Nat} {G : Mm} {N : Nat} {last : Int} {vx : Value} {x : Rb} {i : Nat} (h : RnC w wr b r0 r7 O G N last vx x i) (hd : w'.heap = wr.heap) (hb : Below wr.heap.size wr w') : RnC w w' b r0 r7 O G N last vx x i :=
  ⟨h.lk.step hb (fun _ _ => rfl) (fun k hk => h.lk.clean k (by unfold isEn at *; rw [hd] at hk; exact hk)), h.c7.below hb h.c7.lt, h.o7, h.g7, h.c0.below hb h.c0.lt, h.o0, h.g0, h.ne, h.below.trans (hb.mono h.below.size), h.low⟩

/-- What a call of the loop comes to. -/
def DoQ (w : World) (b r0 r7 i : Nat) (e : Ending) (w' : World) : Prop :=
  ∃ p' cap' n' nu tu pa, e = .returned (.tuple #[.agg #[.slice p' n' cap', .int .i64 nu, .int .i64 tu, .int .i64 pa], .bool true]) ∧ (∃ u, w'.cell? ⟨r7, 0, none⟩ = some u) ∧ (∃ u, w'.cell? ⟨r7, 1, none⟩ = some u) ∧ (∃ u, w'.cell? ⟨r7, 2, none⟩ = some u) ∧ (∃ u, w'.cell? ⟨r7, 3, none⟩ = some u) ∧
    w'.frozen? ⟨r7, 0, none⟩ = false ∧ w'.frozen? ⟨r7, 1, none⟩ = false ∧ w'.frozen? ⟨r7, 2, none⟩ = false ∧ w'.frozen? ⟨r7, 3, none⟩ = false ∧ r7 < w'.heap.size ∧
    ∃ O G N last x, RnC w ((((w'.setCell ⟨r7, 0, none⟩ (.slice p' n' cap')).setCell ⟨r7, 1, none⟩ (.int .i64 nu)).setCell ⟨r7, 2, none⟩ (.int .i64 tu)).setCell ⟨r7, 3, none⟩ (.int .i64 pa)) b r0 r7 O G N last (.slice p' n' cap') x (i + 1)
theorem do_q {w wr : World} {b r0 r7 : Nat} {O : Nat → Nat} {G : Mm} {N : Nat} {last : Int} {vx : Value} {x : Rb} {i : Nat} (h : RnC w wr b r0 r7 O G N last vx x i) (hi : i ≤ 90) (a : Ac) (hok : AcOk a) :
    Calls Try.prog 32 #[pt b, rbV vx x.nums x.turn x.paid, .agg (encA a).toArray] wr.drew (DoQ w b r0 r7 i) := by
  have hd := h.after (w' := wr.drew) rfl (Below.refl wr.heap.size wr).drew
  refine (do_calls hd.lk hi a hok).mono ?_
  rintro e w' ⟨O', G', N', last', v', x', rfl, lk', st'⟩
  obtain ⟨c7, _⟩ := keep_step st' hd.c7 hd.o7
  obtain ⟨p', cap', g', rfl, _, _⟩ := lk'.row.rows
  exact ⟨p', cap', _, _, _, _, rfl, ⟨_, by rw [c7.cell]; rfl⟩, ⟨_, by rw [c7.cell]; rfl⟩, ⟨_, by rw [c7.cell]; rfl⟩, ⟨_, by rw [c7.cell]; rfl⟩, c7.frozen 0, c7.frozen 1, c7.frozen 2, c7.frozen 3, c7.lt, _, _, _, _, _, hd.next st' lk'⟩

set_option maxRecDepth 100000 in
set_option maxHeartbeats 20000000 in
theorem run_calls (w : World) (v : Value) (l : List Ac) (hv : ReadsE encA 13 w v l) (hok : ∀ x ∈ l, AcOk x) (most : Nat) (hmost : most ≤ 40) :
    Calls Try.prog 20 #[v, .int .i64 most] w (RunP w) := by
  obtain ⟨hm, p, cap0, ba, off, rfl, hp, hc⟩ := hv
  obtain ⟨n, hn⟩ : ∃ n, n = l.length := ⟨_, rfl⟩
  rw [← hn] at hp hm ⊢
  have HP := hid hp
  have HC := hid hc
  have HN := hid hn
  have HOK := hid hok
  obtain ⟨w1, hw1⟩ : ∃ w1, w1 = w.alloc (.cells #[.slice none 0 0, .int .i64 0, .int .i64 0, .int .i64 0] 49) := ⟨_, rfl⟩
  have b1 : Below w.heap.size w w1 := by rw [hw1]; exact (Below.refl _ _).alloc (Nat.le_refl _) _
  have c1 : Cells w1 w.heap.size #[.slice none 0 0, .int .i64 0, .int .i64 0, .int .i64 0] 49 := by rw [hw1]; exact Cells.new _ _ _
  have NW := hid (new_calls (fun _ => 0) 0 w1)
  have B1 := hid b1
  have C1 := hid c1
  have HW1 := hid hw1
  obtain ⟨R, hR⟩ : ∃ R, R = RunP w := ⟨_, rfl⟩
  have HR := hid hR
  rw [← hR]
  clear hp hc hn hok hw1 b1 c1 hR
  go_enter Try.func20, Try.ntmps20
  go_wp2_with fail
  rw [← HW1.out]
  refine NW.out.mono ?_
  rintro e w2 ⟨O1, b, G1, rfl, bd1, hG, hb1, hO1⟩
  obtain ⟨O, lk, lo⟩ := lk_start bd1 hG hb1 hO1
  have lt1 := C1.out.lt
  have b2 : Below w.heap.size w w2 := B1.out.trans (hb1.mono B1.out.size)
  obtain ⟨w3, hw3⟩ : ∃ w3, w3 = w2.alloc (.cells #[.slice none 0 0, .int .i64 0, .int .i64 0, .int .i64 0] 49) := ⟨_, rfl⟩
  have b3 : Below w2.heap.size w2 w3 := by rw [hw3]; exact (Below.refl _ _).alloc (Nat.le_refl _) _
  have c3 : Cells w3 w2.heap.size #[.slice none 0 0, .int .i64 0, .int .i64 0, .int .i64 0] 49 := by rw [hw3]; exact Cells.new _ _ _
  have R0 := hid (show RnC w w3 b w.heap.size w2.heap.size (grow O w2 0) G1 0 0 (.slice none 0 0) ⟨[], 0, 0, 0⟩ 0 from
    ⟨lk.grow b3, c3, grow_new (Nat.le_refl _), b2.size, (C1.out.below hb1 lt1).below b3 (Nat.lt_of_lt_of_le lt1 hb1.size), by rw [grow_old (Nat.lt_of_lt_of_le lt1 hb1.size)]; exact lo _ lt1, Nat.le_refl _, by have := hb1.size; omega, b2.trans (b3.mono b2.size), fun k hk => by rw [grow_old (Nat.lt_of_lt_of_le hk b2.size)]; exact lo _ (by have := B1.out.size; omega)⟩)
  have HW3 := hid hw3
  obtain ⟨r7, hr7⟩ : ∃ r7, r7 = w2.heap.size := ⟨_, rfl⟩
  rw [← hr7] at R0
  have HR7 := hid hr7
  clear bd1 hG hb1 hO1 lk lo b2 b3 c3 hw3 NW lt1 hr7
  go_upto_block 0 with fail
  rw [← HW3.out, ← HR7.out]
  go_cut [8] (fun s8 wx => s8 = .bool true ∧ ∃ O G N last vx x i, i ≤ most ∧ RnC w wx b w.heap.size r7 O G N last vx x i)
  case first =>
    go_wp2_with fail
    go_loopg [8, 9] most (fun k s8 s9 wr => ∃ (i : Nat) (O : Nat → Nat) (G : Mm) (N : Nat) (last : Int) (vx : Value) (x : Rb), i + k = most ∧ s9 = .int .i64 i ∧ s8 = .bool true ∧ RnC w wr b w.heap.size r7 O G N last vx x i)
    case atStart => exact ⟨0, _, _, _, _, _, _, by omega, rfl, rfl, R0.out⟩
    case round =>
      obtain ⟨i, O, G, N, last, vx, x, hik, rfl, rfl, kp⟩ := hrel
      have KP := hid kp
      have HIK := hid hik
      clear kp hik R0
      by_cases hi : i < n
      · by_cases h40 : i < most
        · have hil : i < l.length := by rw [← HN.out]; exact hi
          obtain ⟨hpp, hbl⟩ := HP.out (by omega)
          subst hpp
          obtain ⟨a, ha⟩ : ∃ a, a = l[i] := ⟨_, rfl⟩
          have key : ∀ j, j < 13 → wr.cell? ⟨ba, off + i * 13 + j, none⟩ = (encA a)[j]? := fun j hj => by rw [ha]; exact (KP.out.below.cell (p := ⟨ba, off + i * 13 + j, none⟩) hbl).trans (HC.out i hil j hj)
          have AOK := hid (HOK.out a (by rw [ha]; exact List.getElem_mem hil))
          have hbr := Nat.lt_of_lt_of_le hbl KP.out.below.size
          have c0 : wr.cell? ⟨ba, off + i * 13, none⟩ = some (.int .i64 a.k) := key 0 (by omega)
          have c1 : wr.cell? ⟨ba, off + i * 13 + 1, none⟩ = some (.int .i64 a.o.m) := key 1 (by omega)
          have c2 : wr.cell? ⟨ba, off + i * 13 + 2, none⟩ = some (.int .i64 a.o.s) := key 2 (by omega)
          have c3 : wr.cell? ⟨ba, off + i * 13 + 3, none⟩ = some (.int .i64 a.o.k) := key 3 (by omega)
          have c4 : wr.cell? ⟨ba, off + i * 13 + 4, none⟩ = some (.int .i64 a.o.f) := key 4 (by omega)
          have c5 : wr.cell? ⟨ba, off + i * 13 + 5, none⟩ = some (.int .i64 a.o.p) := key 5 (by omega)
          have c6 : wr.cell? ⟨ba, off + i * 13 + 6, none⟩ = some (.int .i64 a.o.t) := key 6 (by omega)
          have c7 : wr.cell? ⟨ba, off + i * 13 + 7, none⟩ = some (.int .i64 a.o.q) := key 7 (by omega)
          have c8 : wr.cell? ⟨ba, off + i * 13 + 8, none⟩ = some (.int .i64 a.o.pk) := key 8 (by omega)
          have c9 : wr.cell? ⟨ba, off + i * 13 + 9, none⟩ = some (.int .i64 a.n) := key 9 (by omega)
          have c10 : wr.cell? ⟨ba, off + i * 13 + 10, none⟩ = some (.int .i64 a.m) := key 10 (by omega)
          have c11 : wr.cell? ⟨ba, off + i * 13 + 11, none⟩ = some (.int .i64 a.p) := key 11 (by omega)
          have c12 : wr.cell? ⟨ba, off + i * 13 + 12, none⟩ = some (.int .i64 a.q) := key 12 (by omega)
          have g1 : decide ((i : Int) < (n : Int)) = true := by simpa using hi
          have g2 : decide ((i : Int) < (most : Int)) = true := by simpa using h40
          have DQ := hid (do_q KP.out (by omega) a AOK.out)
          obtain ⟨p9, cap9, g9, rfl, _, _⟩ := KP.out.lk.row.rows
          obtain ⟨n9, hn9⟩ : ∃ n9, n9 = x.L.length := ⟨_, rfl⟩
          rw [← hn9] at DQ KP
          obtain ⟨x0, x1, x2, x3⟩ : wr.cell? ⟨r7, 0, none⟩ = some (.slice p9 n9 cap9) ∧ wr.cell? ⟨r7, 1, none⟩ = some (.int .i64 x.nums) ∧ wr.cell? ⟨r7, 2, none⟩ = some (.int .i64 x.turn) ∧ wr.cell? ⟨r7, 3, none⟩ = some (.int .i64 x.paid) := by
            refine ⟨?_, ?_, ?_, ?_⟩ <;> (rw [KP.out.c7.cell]; rfl)
          have xl := KP.out.c7.lt
          unfold rbV encA at DQ
          clear key ha hn9
          go_upto_region 7 with fail
          go_region_with (first | (go_at_call 32; (with_reducible refine DQ.out.mono ?_); rintro e w6 ⟨p', cap', n', nu, tu, pa, rfl, ⟨u0, y0⟩, ⟨u1, y1⟩, ⟨u2, y2⟩, ⟨u3, y3⟩, yf0, yf1, yf2, yf3, yl, rn⟩; have RN := hid rn; clear rn))
          all_goals (
            obtain ⟨O2, G2, N2, last2, xn, rn2⟩ := RN.out
            have RN2 := hid rn2
            clear rn2 RN y0 y1 y2 y3 yf0 yf1 yf2 yf3 yl x0 x1 x2 x3 xl c0 c1 c2 c3 c4 c5 c6 c7 c8 c9 c10 c11 c12
            go_wp2
            go_roundg (most - (i + 1))
            · exact ⟨i + 1, O2, G2, N2, last2, _, _, by omega, by go_num, rfl, RN2.out⟩
            · have := HIK.out; omega)
        · have g1 : decide ((i : Int) < (n : Int)) = true := by simpa using hi
          have g2 : decide ((i : Int) < (most : Int)) = false := by simpa using h40
          go_wp2
          go_meet
          exact ⟨rfl, O, G, N, last, vx, x, i, by have := HIK.out; omega, KP.out⟩
      · have g1 : decide ((i : Int) < (n : Int)) = false := by simpa using hi
        go_wp2
        go_meet
        exact ⟨rfl, O, G, N, last, vx, x, i, by have := HIK.out; omega, KP.out⟩
  case rest =>
    obtain ⟨rfl, O, G, N, last, vx, x, i, hi, kp⟩ := hcut
    have FIN := hid (show R (.returned (.tuple #[pt b, rbV vx x.nums x.turn x.paid])) ((((wc.setCell ⟨w.heap.size, 0, none⟩ vx).setCell ⟨w.heap.size, 1, none⟩ (.int .i64 x.nums)).setCell ⟨w.heap.size, 2, none⟩ (.int .i64 x.turn)).setCell ⟨w.heap.size, 3, none⟩ (.int .i64 x.paid)).drew by
      rw [HR.out]
      have kk := (kept_res (Kept.refl (fun k => k = w.heap.size) wc) vx x.nums x.turn x.paid).drew
      exact ⟨b, O, G, N, last, vx, x, i, rfl, kp.lk.own kp.c0 kp.o0 kk (by show _ = _; simp [size_setCell]), by omega, kp.below.trans (kk.below (B := w.heap.size) kp.below.size (fun k e => by omega)), kp.low⟩)
    obtain ⟨p9, cap9, g9, rfl, _, _⟩ := kp.lk.row.rows
    obtain ⟨n9, hn9⟩ : ∃ n9, n9 = x.L.length := ⟨_, rfl⟩
    rw [← hn9] at FIN kp
    obtain ⟨x0, x1, x2, x3⟩ : wc.cell? ⟨r7, 0, none⟩ = some (.slice p9 n9 cap9) ∧ wc.cell? ⟨r7, 1, none⟩ = some (.int .i64 x.nums) ∧ wc.cell? ⟨r7, 2, none⟩ = some (.int .i64 x.turn) ∧ wc.cell? ⟨r7, 3, none⟩ = some (.int .i64 x.paid) := by
      refine ⟨?_, ?_, ?_, ?_⟩ <;> (rw [kp.c7.cell]; rfl)
    obtain ⟨y0, y1, y2, y3⟩ : wc.cell? ⟨w.heap.size, 0, none⟩ = some (.slice none 0 0) ∧ wc.cell? ⟨w.heap.size, 1, none⟩ = some (.int .i64 0) ∧ wc.cell? ⟨w.heap.size, 2, none⟩ = some (.int .i64 0) ∧ wc.cell? ⟨w.heap.size, 3, none⟩ = some (.int .i64 0) := by
      refine ⟨?_, ?_, ?_, ?_⟩ <;> (rw [kp.c0.cell]; rfl)
    have yf0 := kp.c0.frozen 0
    have yf1 := kp.c0.frozen 1
    have yf2 := kp.c0.frozen 2
    have yf3 := kp.c0.frozen 3
    have xl := kp.c7.lt
    have yl := kp.c0.lt
    have rne := kp.ne
    clear kp hn9 R0 HP HC HN HOK HW1 HW3 HR7
    go_upto_region 10 with fail
    go_region
    all_goals (
      go_wp2
      refine bodyPost_ret (v := .tuple #[pt b, .agg #[.slice p9 n9 cap9, .int .i64 x.nums, .int .i64 x.turn, .int .i64 x.paid]]) (by simp [results, Try.results20, go_sem, y0, y1, y2, y3, yl, yf0, yf1, yf2, yf3]) rfl ?_
      exact FIN.out)
end Go.Proofs.Ytdjhpldiifdifaa
