/- The law's shows: walked. -/
import Derived.Deep.RegionHeld3
import Derived.Deep.DeepCutAuto
import Derived.Test.YtdjhpldiifdifaaJLs0
namespace Go.Proofs.Ytdjhpldiifdifaa
set_option linter.unusedSimpArgs false
set_option linter.unusedVariables false
open Go.RowKit Go.Shelf
attribute [local go_sem] Oper.semAt_some
attribute [local go_sem ↓] Go.wp_at_zero Go.wp_at_succ

/-- The state of shows, and what has only been added since. -/
structure ShC (q : Nat) (w1 wr : World) (b r8 : Nat) (O : Nat → Nat) (G : Mm) (N : Nat) (last : Int) (vx : Value) (x : Rb) (i : Nat) : Prop where
  lk : LkS q w1 b O G N last vx x i
  c8 : Cells w1 r8 #[vx, .int .i64 x.nums, .int .i64 x.turn, .int .i64 x.paid] 49
  now : Below w1.heap.size w1 wr
theorem ShC.after {q : Nat} {w1 wr w' : World} {b r8 : Nat} {O : Nat → Nat} {G : Mm} {N : Nat} {last : Int} {vx : Value} {x : Rb} {i : Nat} (h : ShC q w1 wr b r8 O G N last vx x i) (hb : Below wr.heap.size wr w') : ShC q w1 w' b r8 O G N last vx x i := ⟨h.lk, h.c8, h.now.trans (hb.mono h.now.size)⟩
theorem ShC.at {q : Nat} {w1 wr : World} {b r8 : Nat} {O : Nat → Nat} {G : Mm} {N : Nat} {last : Int} {vx : Value} {x : Rb} {i : Nat} (h : ShC q w1 wr b r8 O G N last vx x i) : LkS q wr b (grow O w1 0) G N last vx x i := h.lk.grow h.now
theorem ShC.cell {q : Nat} {w1 wr : World} {b r8 : Nat} {O : Nat → Nat} {G : Mm} {N : Nat} {last : Int} {vx : Value} {x : Rb} {i : Nat} (h : ShC q w1 wr b r8 O G N last vx x i) : wr.cell? ⟨r8, 0, none⟩ = some vx ∧ wr.cell? ⟨r8, 1, none⟩ = some (.int .i64 x.nums) ∧ wr.cell? ⟨r8, 2, none⟩ = some (.int .i64 x.turn) ∧ wr.cell? ⟨r8, 3, none⟩ = some (.int .i64 x.paid) ∧ r8 < wr.heap.size := by
  have c := h.c8.below h.now h.c8.lt
  refine ⟨?_, ?_, ?_, ?_, c.lt⟩ <;> (rw [c.cell]; rfl)
theorem ShC.cell4 {q : Nat} {w1 wr : World} {b r8 : Nat} {O : Nat → Nat} {G : Mm} {N : Nat} {last : Int} {vx : Value} {x : Rb} {i : Nat} (h : ShC q w1 wr b r8 O G N last vx x i) : wr.cell? ⟨r8, 0, none⟩ = some vx ∧ wr.cell? ⟨r8, 1, none⟩ = some (.int .i64 x.nums) ∧ wr.cell? ⟨r8, 2, none⟩ = some (.int .i64 x.turn) ∧ wr.cell? ⟨r8, 3, none⟩ = some (.int .i64 x.paid) := ⟨h.cell.1, h.cell.2.1, h.cell.2.2.1, h.cell.2.2.2.1⟩
theorem rj_reads {B : Nat} {w : World} {u : Value} {T : List Int} (h : RowI B w u T) (hl : T.length ≤ 4096) : ReadsE encI 1 w u T := OwnE.reads (enc := encI) (sz := 1) (l := T) (fun _ => rfl) h (by omega)

set_option maxRecDepth 100000 in
set_option maxHeartbeats 20000000 in
theorem shows_calls {q : Nat} {w : World} {b : Nat} {O : Nat → Nat} {G : Mm} {N : Nat} {last : Int} {vx : Value} {x : Rb} {i : Nat} (k : LkS q w b O G N last vx x i) (hi : i ≤ 1000) :
    Calls Try.prog 33 #[pt b, rbV vx x.nums x.turn x.paid] w fun e w' => e = .returned (.bool true) ∧ Below w.heap.size w w' := by
  obtain ⟨p9, cap9, _, rfl, _, _⟩ := k.row.rows
  obtain ⟨n9, hn9⟩ : ∃ n9, n9 = x.L.length := ⟨_, rfl⟩
  rw [← hn9] at k ⊢
  obtain ⟨w1, hw1⟩ : ∃ w1, w1 = w.alloc (.cells #[.slice p9 n9 cap9, .int .i64 x.nums, .int .i64 x.turn, .int .i64 x.paid] 49) := ⟨_, rfl⟩
  have b1 : Below w.heap.size w w1 := by rw [hw1]; exact (Below.refl _ _).alloc (Nat.le_refl _) _
  have S1 := hid (show ShC q w1 w1 b w.heap.size (grow O w 0) G N last (.slice p9 n9 cap9) x i from ⟨k.grow b1, by rw [hw1]; exact Cells.new _ _ _, Below.refl _ _⟩)
  obtain ⟨r8, hr8⟩ : ∃ r8, r8 = w.heap.size := ⟨_, rfl⟩
  obtain ⟨O1, hO1⟩ : ∃ O1, O1 = grow O w 0 := ⟨_, rfl⟩
  rw [← hr8, ← hO1] at S1
  have HN9 := hid hn9
  have B1 := hid b1
  have HW1 := hid hw1
  have HR8 := hid hr8
  obtain ⟨R, hR⟩ : ∃ R : Ending → World → Prop, R = fun e w' => e = .returned (.bool true) ∧ Below w.heap.size w w' := ⟨_, rfl⟩
  have FIN := hid (show ∀ w', Below w1.heap.size w1 w' → R (.returned (.bool true)) w' by intro w' h; rw [hR]; exact ⟨rfl, B1.out.trans (h.mono B1.out.size)⟩)
  rw [← hR]
  obtain ⟨epd, hla⟩ := last_both S1.out.at
  obtain ⟨TS, hs0, sa, sb⟩ := stops_both S1.out.at
  obtain ⟨TO, ho0, oa, ob⟩ := orders_both S1.out.at
  have EPD := hid epd
  have LA := hid hla
  have HS0 := hid hs0
  have SA := hid sa
  have SB := hid sb
  have HO0 := hid ho0
  have OA := hid oa
  have OB := hid ob
  unfold rbV at SB OB ⊢
  clear hR hw1 b1 k hn9 hr8 hO1 epd hla hs0 sa sb ho0 oa ob
  go_enter Try.func33, Try.ntmps33
  go_upto_region 1 with fail
  rw [← HW1.out, ← HR8.out]
  have gl : (last != x.paid) = false := by rw [EPD.out]; simp
  have hcur : Below w1.heap.size w1 w1.drew := (Below.refl _ _).drew
  go_cut [36] (fun s36 wx => s36 = .bool false ∧ Below w1.heap.size w1 wx)
  case first =>
    --{A
    go_region_held3 (fun wh => wh.cell? ⟨r8, 0, none⟩ = some (.slice p9 n9 cap9) ∧ wh.cell? ⟨r8, 1, none⟩ = some (.int .i64 x.nums) ∧ wh.cell? ⟨r8, 2, none⟩ = some (.int .i64 x.turn) ∧ wh.cell? ⟨r8, 3, none⟩ = some (.int .i64 x.paid))
      (exact (S1.out.after hcur).cell4)
      (first
        | (go_at_call 37; (with_reducible refine (LA.out _ hcur).mono ?_); rintro e w7 ⟨rfl, rfl⟩)
        | (go_at_call 34; (with_reducible refine (SA.out _ hcur).mono ?_); rintro e w7 ⟨ua, rfl, hua, hb7⟩; (try have hub := OwnE.below hub hb7); (try have huc := OwnE.below huc hb7); (try have hud := OwnE.below hud hb7); have hcur := hcur.trans (hb7.mono hcur.size))
        | (go_at_call 64; (with_reducible refine (SB.out _ hcur).mono ?_); rintro e w7 ⟨ub, rfl, hub, hb7⟩; (try have hua := OwnE.below hua hb7); (try have huc := OwnE.below huc hb7); (try have hud := OwnE.below hud hb7); have hcur := hcur.trans (hb7.mono hcur.size))
        | (go_at_call 31; (with_reducible refine (OA.out _ hcur).mono ?_); rintro e w7 ⟨uc, rfl, huc, hb7⟩; (try have hua := OwnE.below hua hb7); (try have hub := OwnE.below hub hb7); (try have hud := OwnE.below hud hb7); have hcur := hcur.trans (hb7.mono hcur.size))
        | (go_at_call 64; (with_reducible refine (OB.out _ hcur).mono ?_); rintro e w7 ⟨ud, rfl, hud, hb7⟩; (try have hua := OwnE.below hua hb7); (try have hub := OwnE.below hub hb7); (try have huc := OwnE.below huc hb7); have hcur := hcur.trans (hb7.mono hcur.size))
        | (go_at_call 26; (with_reducible refine (ints_same (rj_reads hua HS0.out) (rj_reads hub HS0.out)).mono ?_); rintro e w7 ⟨rfl, mm, rfl⟩; have hcur := drewN_below hcur mm)
        | (go_at_call 26; (with_reducible refine (ints_same (rj_reads huc HO0.out) (rj_reads hud HO0.out)).mono ?_); rintro e w7 ⟨rfl, mm, rfl⟩; have hcur := drewN_below hcur mm))
    all_goals (
      go_wp2
      go_meet
      exact ⟨rfl, hcur⟩)
    --}A
  case rest =>
    obtain ⟨rfl, hb7⟩ := hcut
    have B7 := hid hb7
    clear hb7 hcur SA SB OA OB LA HS0 HO0 EPD gl
    go_upto_block 0 with fail
    go_cut [] (fun wx => Below w1.heap.size w1 wx)
    case first =>
      --{B
      go_wp2_with fail
      go_loopg [5] n9 (fun k s5 wq => ∃ j : Nat, j + k = n9 ∧ s5 = .int .i64 j ∧ Below w1.heap.size w1 wq)
      case atStart => exact ⟨0, by omega, rfl, B7.out⟩
      case round =>
        obtain ⟨j, hjk, rfl, hb⟩ := hrel
        have HJK := hid hjk
        have HB := hid hb
        have hn4 : n9 ≤ 4096 := by rw [HN9.out]; exact S1.out.lk.len
        have SJ := hid (S1.out.after hb)
        obtain ⟨x0, x1, x2, x3, xl⟩ := SJ.out.cell
        clear hjk hb
        by_cases hjn : j < n9
        · have hjl : j < x.L.length := by rw [← HN9.out]; exact hjn
          obtain ⟨p8, k8, g8, hv8, hp8, hc8⟩ := SJ.out.at.row.rows
          injection hv8 with e1 e2 e3
          subst e1 e3
          obtain ⟨rfl, hg8⟩ := hp8 (by omega)
          obtain ⟨c0, c1, c2, c3, c4, c5, c6, c7, c8, c9, c10, c11, c12⟩ := hc8 wr (Below.refl _ _) j hjl
          have gj : (j : Int) < (n9 : Int) := by omega
          obtain ⟨wa, hwa⟩ : ∃ wa, wa = wr.alloc (.cells (encRn x.L[j]).toArray 53) := ⟨_, rfl⟩
          have ba : Below wr.heap.size wr wa := by rw [hwa]; exact (Below.refl _ _).alloc (Nat.le_refl _) _
          have CA := hid (show Cells wa wr.heap.size (encRn x.L[j]).toArray 53 by rw [hwa]; exact Cells.new _ _ _)
          have SA2 := hid (SJ.out.after ba)
          have GE := hid (get_entry SA2.out.at hjl)
          obtain ⟨TQ, hq0, qa, qb⟩ := queue_both SA2.out.at x.L[j].o.s x.L[j].o.p
          have QA := hid qa
          have QB := hid qb
          have HQ0 := hid hq0
          have HWA := hid hwa
          obtain ⟨y, hy⟩ : ∃ y, y = x.L[j] := ⟨_, rfl⟩
          rw [← hy] at c0 c1 c2 c3 c4 c5 c6 c7 c8 c9 c10 c11 c12 CA GE QA QB HWA
          unfold encRn at HWA CA
          unfold statA at GE
          unfold rbV at QB
          clear hwa ba hy qa qb hq0 hp8 hc8 e2
          go_wp2_with fail
          rw [← HWA.out]
          refine GE.out.mono ?_
          rintro e w11 ⟨rfl, hb11⟩
          have CA11 := CA.out.below hb11 CA.out.lt
          obtain ⟨w12, hw12⟩ : ∃ w12, w12 = w11.alloc (.cells #[.int .i64 y.o.m, .int .i64 y.o.s, .int .i64 y.o.k, .int .i64 y.o.f, .int .i64 y.o.p, .int .i64 y.o.t, .int .i64 y.o.q, .int .i64 y.o.pk, .int .i64 y.l, .int .i64 y.h, .bool y.w] 42) := ⟨_, rfl⟩
          have b12 : Below w11.heap.size w11 w12 := by rw [hw12]; exact (Below.refl _ _).alloc (Nat.le_refl _) _
          have C12 := hid (show Cells w12 w11.heap.size #[.int .i64 y.o.m, .int .i64 y.o.s, .int .i64 y.o.k, .int .i64 y.o.f, .int .i64 y.o.p, .int .i64 y.o.t, .int .i64 y.o.q, .int .i64 y.o.pk, .int .i64 y.l, .int .i64 y.h, .bool y.w] 42 by rw [hw12]; exact Cells.new _ _ _)
          have CA12 := hid (CA11.below b12 CA11.lt)
          have S12 := hid (SA2.out.after (hb11.trans (b12.mono hb11.size)))
          have BA12 := hid (hb11.trans (b12.mono hb11.size))
          have HW12 := hid hw12
          clear CA11 hb11 b12 hw12 c0 c1 c2 c3 c4 c5 c6 c7 c8 c9 c10 c11 c12 x0 x1 x2 x3 xl GE
          go_upto_region 8 with fail
          rw [← HW12.out]
          have hcur : Below w12.heap.size w12 w12.drew := (Below.refl _ _).drew
          have ALL := hid (fun (wh : World) (hb : Below w12.heap.size w12 wh) => (show wh.cell? ⟨w11.heap.size, 0, none⟩ = some (.int .i64 y.o.m) ∧ wh.cell? ⟨w11.heap.size, 1, none⟩ = some (.int .i64 y.o.s) ∧ wh.cell? ⟨w11.heap.size, 2, none⟩ = some (.int .i64 y.o.k) ∧ wh.cell? ⟨w11.heap.size, 3, none⟩ = some (.int .i64 y.o.f) ∧ wh.cell? ⟨w11.heap.size, 4, none⟩ = some (.int .i64 y.o.p) ∧ wh.cell? ⟨w11.heap.size, 5, none⟩ = some (.int .i64 y.o.t) ∧ wh.cell? ⟨w11.heap.size, 6, none⟩ = some (.int .i64 y.o.q) ∧ wh.cell? ⟨w11.heap.size, 7, none⟩ = some (.int .i64 y.o.pk) ∧ wh.cell? ⟨w11.heap.size, 8, none⟩ = some (.int .i64 y.l) ∧ wh.cell? ⟨w11.heap.size, 9, none⟩ = some (.int .i64 y.h) ∧ wh.cell? ⟨w11.heap.size, 10, none⟩ = some (.bool y.w) ∧ wh.cell? ⟨wr.heap.size, 1, none⟩ = some (.int .i64 y.o.m) ∧ wh.cell? ⟨wr.heap.size, 2, none⟩ = some (.int .i64 y.o.s) ∧ wh.cell? ⟨wr.heap.size, 3, none⟩ = some (.int .i64 y.o.k) ∧ wh.cell? ⟨wr.heap.size, 4, none⟩ = some (.int .i64 y.o.f) ∧ wh.cell? ⟨wr.heap.size, 5, none⟩ = some (.int .i64 y.o.p) ∧ wh.cell? ⟨wr.heap.size, 6, none⟩ = some (.int .i64 y.o.t) ∧ wh.cell? ⟨wr.heap.size, 7, none⟩ = some (.int .i64 y.o.q) ∧ wh.cell? ⟨wr.heap.size, 8, none⟩ = some (.int .i64 y.o.pk) ∧ wh.cell? ⟨wr.heap.size, 9, none⟩ = some (.int .i64 y.l) ∧ wh.cell? ⟨wr.heap.size, 10, none⟩ = some (.int .i64 y.h) ∧ wh.cell? ⟨wr.heap.size, 11, none⟩ = some (.bool y.w) ∧ wh.cell? ⟨r8, 0, none⟩ = some (.slice (some ⟨g8, 0, none⟩) n9 cap9) ∧ wh.cell? ⟨r8, 1, none⟩ = some (.int .i64 x.nums) ∧ wh.cell? ⟨r8, 2, none⟩ = some (.int .i64 x.turn) ∧ wh.cell? ⟨r8, 3, none⟩ = some (.int .i64 x.paid) by
            have s1 := C12.out.below hb C12.out.lt
            have s2 := CA12.out.below hb CA12.out.lt
            have s3 := (S12.out.after hb).cell4
            refine ⟨?_, ?_, ?_, ?_, ?_, ?_, ?_, ?_, ?_, ?_, ?_, ?_, ?_, ?_, ?_, ?_, ?_, ?_, ?_, ?_, ?_, ?_, s3.1, s3.2.1, s3.2.2.1, s3.2.2.2⟩ <;> first | (rw [s1.cell]; rfl) | (rw [s2.cell]; rfl)))
          have he : ∀ w, (Op.equalIn 10000 27 (.agg #[.int .i64 y.o.m, .int .i64 y.o.s, .int .i64 y.o.k, .int .i64 y.o.f, .int .i64 y.o.p, .int .i64 y.o.t, .int .i64 y.o.q, .int .i64 y.o.pk]) (.agg #[.int .i64 y.o.m, .int .i64 y.o.s, .int .i64 y.o.k, .int .i64 y.o.f, .int .i64 y.o.p, .int .i64 y.o.t, .int .i64 y.o.q, .int .i64 y.o.pk])).run Try.prog w = .ok true w := fun w => by simp [go_sem]
          have e9 : (y.l != y.l) = false := by simp
          have e10 : (y.h != y.h) = false := by simp
          have e11 : (y.w != y.w) = false := by simp
          go_cut [105] (fun s105 wx => s105 = .bool false ∧ Below w12.heap.size w12 wx)
          case first =>
            go_region_held3 (fun wh => wh.cell? ⟨w11.heap.size, 0, none⟩ = some (.int .i64 y.o.m) ∧ wh.cell? ⟨w11.heap.size, 1, none⟩ = some (.int .i64 y.o.s) ∧ wh.cell? ⟨w11.heap.size, 2, none⟩ = some (.int .i64 y.o.k) ∧ wh.cell? ⟨w11.heap.size, 3, none⟩ = some (.int .i64 y.o.f) ∧ wh.cell? ⟨w11.heap.size, 4, none⟩ = some (.int .i64 y.o.p) ∧ wh.cell? ⟨w11.heap.size, 5, none⟩ = some (.int .i64 y.o.t) ∧ wh.cell? ⟨w11.heap.size, 6, none⟩ = some (.int .i64 y.o.q) ∧ wh.cell? ⟨w11.heap.size, 7, none⟩ = some (.int .i64 y.o.pk) ∧ wh.cell? ⟨w11.heap.size, 8, none⟩ = some (.int .i64 y.l) ∧ wh.cell? ⟨w11.heap.size, 9, none⟩ = some (.int .i64 y.h) ∧ wh.cell? ⟨w11.heap.size, 10, none⟩ = some (.bool y.w) ∧ wh.cell? ⟨wr.heap.size, 1, none⟩ = some (.int .i64 y.o.m) ∧ wh.cell? ⟨wr.heap.size, 2, none⟩ = some (.int .i64 y.o.s) ∧ wh.cell? ⟨wr.heap.size, 3, none⟩ = some (.int .i64 y.o.k) ∧ wh.cell? ⟨wr.heap.size, 4, none⟩ = some (.int .i64 y.o.f) ∧ wh.cell? ⟨wr.heap.size, 5, none⟩ = some (.int .i64 y.o.p) ∧ wh.cell? ⟨wr.heap.size, 6, none⟩ = some (.int .i64 y.o.t) ∧ wh.cell? ⟨wr.heap.size, 7, none⟩ = some (.int .i64 y.o.q) ∧ wh.cell? ⟨wr.heap.size, 8, none⟩ = some (.int .i64 y.o.pk) ∧ wh.cell? ⟨wr.heap.size, 9, none⟩ = some (.int .i64 y.l) ∧ wh.cell? ⟨wr.heap.size, 10, none⟩ = some (.int .i64 y.h) ∧ wh.cell? ⟨wr.heap.size, 11, none⟩ = some (.bool y.w) ∧ wh.cell? ⟨r8, 0, none⟩ = some (.slice (some ⟨g8, 0, none⟩) n9 cap9) ∧ wh.cell? ⟨r8, 1, none⟩ = some (.int .i64 x.nums) ∧ wh.cell? ⟨r8, 2, none⟩ = some (.int .i64 x.turn) ∧ wh.cell? ⟨r8, 3, none⟩ = some (.int .i64 x.paid))
              (exact ALL.out _ hcur)
              (first
                | (go_at_call 23; (with_reducible refine (QA.out _ (BA12.out.trans (hcur.mono BA12.out.size))).mono ?_); rintro e w7 ⟨ua, rfl, hua, hb7⟩; (try have hub := OwnE.below hub hb7); have hcur := hcur.trans (hb7.mono hcur.size))
                | (go_at_call 27; (with_reducible refine (QB.out _ (BA12.out.trans (hcur.mono BA12.out.size))).mono ?_); rintro e w7 ⟨ub, rfl, hub, hb7⟩; (try have hua := OwnE.below hua hb7); have hcur := hcur.trans (hb7.mono hcur.size))
                | (go_at_call 26; (with_reducible refine (ints_same (rj_reads hua HQ0.out) (rj_reads hub HQ0.out)).mono ?_); rintro e w7 ⟨rfl, mm, rfl⟩; have hcur := drewN_below hcur mm))
            all_goals (
              go_wp2
              go_meet
              exact ⟨rfl, hcur⟩)
          case rest =>
            obtain ⟨rfl, hb13⟩ := hcut
            have HB13 := hid (HB.out.trans (((((by rw [HWA.out]; exact (Below.refl _ _).alloc (Nat.le_refl _) _ : Below wr.heap.size wr wa).trans (BA12.out.mono (by rw [HWA.out]; simp)))).trans (hb13.mono (Nat.le_trans (by rw [HWA.out]; simp) BA12.out.size))).mono HB.out.size))
            clear hb13 hcur ALL he e9 e10 e11
            go_wp2
            go_roundg (n9 - (j + 1))
            · exact ⟨j + 1, by omega, by go_num, HB13.out⟩
            · have := HJK.out; omega
        · have hj' : j = n9 := by have := HJK.out; omega
          subst hj'
          have g1 : decide ((j : Int) < (j : Int)) = false := by simp
          go_wp2
          go_meet
          exact HB.out
      --}B
    case rest =>
      have B8 := hid (show Below w1.heap.size w1 wc from hcut)
      clear hcut B7 HN9
      go_wp2_with fail
      go_loopg [9] 2 (fun k s9 wq => ∃ s : Nat, s + k = 3 ∧ 1 ≤ s ∧ s9 = .int .i64 s ∧ Below w1.heap.size w1 wq)
      case atStart => exact ⟨1, by omega, by omega, rfl, B8.out⟩
      case round =>
        obtain ⟨s, hsk, hs1, rfl, hb⟩ := hrel
        have HSK := hid hsk
        have HB := hid hb
        have SJ := hid (S1.out.after hb)
        clear hsk hb
        by_cases hs2 : s ≤ 2
        · have hss : (s : Int) = 1 ∨ (s : Int) = 2 := by omega
          obtain ⟨x0, x1, x2, x3, xl⟩ := SJ.out.cell
          have gs : (s : Int) ≤ 2 := by omega
          have DR := hid (depth_rcalls wr SJ.out.at.row SJ.out.at.bd.ok SJ.out.at.rel SJ.out.at.len hss 1000)
          have DBd := hid (fun (w' : World) (hb : Below wr.heap.size wr w') => depth_side (SJ.out.at.grow hb).bd hss 1000)
          have BB := hid (fun (w' : World) (hb : Below wr.heap.size wr w') => best_side (SJ.out.at.grow hb).bd hss)
          obtain ⟨H, hH⟩ : ∃ H, H = (G.bd N last).half s := ⟨_, rfl⟩
          rw [← hH] at DR DBd BB
          have HLEN := hid (show (levsF H).length ≤ 1000 by
            have h1 := half_len (SJ.out.at.bd.ok.half hss)
            have h2 := live_few SJ.out.at.bd.ok (N := N) (Int.le_refl _)
            have h4 := SJ.out.at.num
            have h3 : ((G.bd N last).half s).all.length ≤ (G.bd N last).live.length := by
              unfold Bd.live Bd.half
              split <;> simp only [List.length_append] <;> omega
            rw [hH]
            simp only [levsF, List.length_map]
            omega)
          obtain ⟨T, hT⟩ : ∃ T, T = levsF H := ⟨_, rfl⟩
          have BF := hid (show (T = [] ∧ bestF H = (0, 0, false)) ∨ ∃ y r, T = y :: r ∧ bestF H = (y.1, y.2.1, true) by
            rw [hT]
            cases H with
            | nil => exact .inl ⟨rfl, rfl⟩
            | cons z r => exact .inr ⟨_, _, rfl, rfl⟩)
          rw [← hT] at DR DBd HLEN
          have ETK := hid (show T.take (1000 : Int).toNat = T from List.take_of_length_le HLEN.out)
          rw [ETK.out] at DR DBd
          unfold rbV at DR
          clear hH hT hs2 hss
          go_wp2_with fail
          refine DR.out.mono ?_
          rintro e w2 ⟨u2, rfl, hu2, hb2⟩
          have U2 := hid hu2
          have HB2 := hid hb2
          have DB2 := hid (DBd.out w2 hb2)
          clear hu2 hb2 x0 x1 x2 x3 xl DR
          go_wp2_with fail
          refine DB2.out.mono ?_
          rintro e w3 ⟨u1, rfl, hu1, hb3⟩
          have U1 := hid hu1
          have HB3 := hid (HB2.out.trans (hb3.mono HB2.out.size))
          have BB3 := hid (BB.out w3 HB3.out)
          have U3 := hid (OwnE.below U2.out hb3)
          clear hu1 hb3 DB2 U2
          go_wp2_with fail
          refine BB3.out.mono ?_
          rintro e w4 ⟨rfl, hb4⟩
          obtain ⟨⟨bp, bh, bt⟩, hbf⟩ : ∃ z, z = bestF H := ⟨_, rfl⟩
          rw [← hbf]
          have BF2 := BF.out
          rw [← hbf] at BF2
          have HB4 := hid (HB3.out.trans (hb4.mono HB3.out.size))
          have u1' := OwnE.below U1.out hb4
          have u2' := OwnE.below U3.out hb4
          obtain ⟨p1, k1, g1, hv1, hp1, hc1⟩ := OwnE.cells (enc := encLw) (sz := 3) (fun _ => rfl) u1'
          obtain ⟨p2, k2, g2, hv2, hp2, hc2⟩ := OwnE.cells (enc := encLw) (sz := 3) (fun _ => rfl) u2'
          obtain ⟨M, hM⟩ : ∃ M, M = T.length := ⟨_, rfl⟩
          rw [← hM] at hv1 hv2 hp1 hp2
          subst hv1 hv2
          have HM := hid hM
          have hM1 : M ≤ 1000 := by rw [hM]; exact HLEN.out
          have gM : ((M : Int) != (M : Int)) = false := by simp
          have HP1 := hid hp1
          have HP2 := hid hp2
          have HC1 := hid hc1
          have HC2 := hid hc2
          have BFH := hid BF2
          clear hb4 hbf BF2 u1' u2' hp1 hp2 hc1 hc2 hM U1 U3 BB3 BB
          go_upto_region 16 with fail
          go_cut [134] (fun s wx => s = .bool false ∧ wx = w4)
          case first =>
            rcases BFH.out with ⟨e1, e2⟩ | ⟨y, r, e1, e2⟩
            · injection e2 with _ e2
              injection e2 with _ e2
              subst e2
              have gn : M = 0 := by rw [HM.out, e1]; rfl
              have g0 : decide ((0 : Int) < (M : Int)) = false := by simp; omega
              have g1 : decide (0 < M) = false := by simp; omega
              clear gn e1
              go_wp2
              go_meet
              exact ⟨rfl, rfl⟩
            · injection e2 with _ e2
              injection e2 with _ e2
              subst e2
              have gn : 0 < M := by rw [HM.out, e1]; simp
              have g0 : decide ((0 : Int) < (M : Int)) = true := by simp; omega
              have g1 : decide (0 < M) = true := by simp; omega
              clear e1
              go_wp2
              go_meet
              exact ⟨rfl, rfl⟩
          case rest =>
          obtain ⟨rfl, rfl⟩ := hcut
          go_wp2_with fail
          go_loopg [15] M (fun k s15 wq => ∃ (a m : Nat), s15 = .int .i64 a ∧ a ≤ M ∧ k = M - a ∧ wq = wc.drewN m)
          case atStart => exact ⟨0, 0, rfl, by omega, by omega, rfl⟩
          case round =>
            obtain ⟨a, m, rfl, ha, hk, rfl⟩ := hrel
            have HK := hid hk
            clear hk
            by_cases haM : a < M
            · have hal : a < T.length := by rw [← HM.out]; exact haM
              obtain ⟨rfl, _, hb1⟩ := HP1.out (by omega)
              obtain ⟨rfl, _, hb2⟩ := HP2.out (by omega)
              obtain ⟨y, hy⟩ : ∃ y, y = T[a] := ⟨_, rfl⟩
              have c0 : wc.cell? ⟨g1, a * 3, none⟩ = some (.int .i64 y.1) := by rw [hy]; exact HC1.out a hal 0 (by omega)
              have c1 : wc.cell? ⟨g1, a * 3 + 1, none⟩ = some (.int .i64 y.2.1) := by rw [hy]; exact HC1.out a hal 1 (by omega)
              have c2 : wc.cell? ⟨g1, a * 3 + 2, none⟩ = some (.int .i64 y.2.2) := by rw [hy]; exact HC1.out a hal 2 (by omega)
              have d0 : wc.cell? ⟨g2, a * 3, none⟩ = some (.int .i64 y.1) := by rw [hy]; exact HC2.out a hal 0 (by omega)
              have d1 : wc.cell? ⟨g2, a * 3 + 1, none⟩ = some (.int .i64 y.2.1) := by rw [hy]; exact HC2.out a hal 1 (by omega)
              have d2 : wc.cell? ⟨g2, a * 3 + 2, none⟩ = some (.int .i64 y.2.2) := by rw [hy]; exact HC2.out a hal 2 (by omega)
              have gi : (a : Int) < (M : Int) := by omega
              have gi4 : (0 : Int) ≤ (a : Int) := by omega
              have he : ∀ w, (Op.equalIn 10000 71 (.agg #[.int .i64 y.1, .int .i64 y.2.1, .int .i64 y.2.2]) (.agg #[.int .i64 y.1, .int .i64 y.2.1, .int .i64 y.2.2])).run Try.prog w = .ok true w := fun w => by simp [go_sem]
              clear hy
              go_wp2
              go_big_quiet (fail)
              go_wp2
              go_roundg (M - (a + 1))
              · exact ⟨a + 1, _, by go_num, by omega, by omega, rfl⟩
              · have := HK.out; omega
            · have haM2 : a = M := by omega
              subst haM2
              have g3 : decide ((a : Int) < (a : Int)) = false := by simp
              have HB5 := hid (HB.out.trans ((drewN_below HB4.out m).mono HB.out.size))
              rcases BFH.out with ⟨e1, e2⟩ | ⟨y, r, e1, e2⟩
              · injection e2 with e3 e2
                injection e2 with e4 e5
                subst e3 e4 e5
                clear haM HK HP1 HP2 HC1 HC2 gM
                go_wp2
                go_roundg (3 - (s + 1))
                · exact ⟨s + 1, by have := HSK.out; omega, by omega, by go_num, HB5.out⟩
                · have := HSK.out; omega
              · injection e2 with e3 e2
                injection e2 with e4 e5
                subst e5
                have ha0 : 0 < a := by rw [HM.out, e1]; simp
                obtain ⟨rfl, _, hb2⟩ := HP2.out (by omega)
                have hT0 : 0 < T.length := by rw [← HM.out]; exact ha0
                have hTy : T[0] = y := by simp [e1]
                have d0 : wc.cell? ⟨g2, 0, none⟩ = some (.int .i64 bp) := by rw [e3, ← hTy]; exact HC2.out 0 hT0 0 (by omega)
                have d1 : wc.cell? ⟨g2, 1, none⟩ = some (.int .i64 bh) := by rw [e4, ← hTy]; exact HC2.out 0 hT0 1 (by omega)
                have gp : (bp != bp) = false := by simp
                have gh : (bh != bh) = false := by simp
                clear haM HK HP1 HP2 HC1 HC2 gM e1 e3 e4 hTy
                go_wp2
                go_roundg (3 - (s + 1))
                · exact ⟨s + 1, by have := HSK.out; omega, by omega, by go_num, HB5.out⟩
                · have := HSK.out; omega
        · have g1 : ¬ (s : Int) ≤ 2 := by omega
          have FN := hid (FIN.out wr HB.out)
          go_wp2
          first | exact FN.out | (go_ret; exact FN.out)
end Go.Proofs.Ytdjhpldiifdifaa
