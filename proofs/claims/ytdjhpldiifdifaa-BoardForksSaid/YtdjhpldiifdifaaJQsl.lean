/- BoardQuestions: the walk. BoardQuestions: the walk. BoardQuestions: the arguments opened. -/
import Derived.Deep.RegionHeld3
import Derived.Deep.DeepCutAuto
import Derived.Test.YtdjhpldiifdifaaJLdo
import Derived.Test.YtdjhpldiifdifaaJRw2
import Derived.Test.YtdjhpldiifdifaaJStl
import Derived.Test.YtdjhpldiifdifaaJLvl
import Derived.Test.YtdjhpldiifdifaaJNew
import Derived.Test.YtdjhpldiifdifaaJOpen
namespace Go.Proofs.Ytdjhpldiifdifaa
set_option linter.unusedSimpArgs false
set_option linter.unusedVariables false
open Go.RowKit Go.Shelf
attribute [local go_sem] Oper.semAt_some
attribute [local go_sem ↓] Go.wp_at_zero Go.wp_at_succ

/-- Depth of both. -/
theorem depth_both {q : Nat} {w : World} {b : Nat} {O : Nat → Nat} {G : Mm} {N : Nat} {last : Int} {vx : Value} {x : Rb} {i : Nat} (k : LkS q w b O G N last vx x i) (s most : Int) :
    ∃ T : List Lw, T.length ≤ i ∧ Calls Try.prog 24 #[pt b, .int .i64 s, .int .i64 most] w (fun e w' => ∃ u, e = .returned u ∧ RowL 0 w' u (T.take most.toNat) ∧ Below w.heap.size w w') ∧
      ∀ (w' : World) (_ : Below w.heap.size w w') (m : Int), Calls Try.prog 25 #[rbV vx x.nums x.turn x.paid, .int .i64 s, .int .i64 m] w' (fun e w'' => ∃ u, e = .returned u ∧ RowLr 0 w'' u (T.take m.toNat) ∧ Below w'.heap.size w' w'') := by
  by_cases hs : sideB s = true
  · have hs' := sideB_iff.1 hs
    refine ⟨levsF ((G.bd N last).half s), ?_, ?_, fun w' hb m => ?_⟩
    · have h1 := half_len (k.bd.ok.half hs')
      have h2 := live_few k.bd.ok (N := N) (Int.le_refl _)
      have h4 := k.num
      have h3 : ((G.bd N last).half s).all.length ≤ (G.bd N last).live.length := by
        unfold Bd.live Bd.half
        split <;> simp only [List.length_append] <;> omega
      simp only [levsF, List.length_map]
      omega
    · refine (depth_side k.bd hs' most).mono ?_
      rintro e w' ⟨u, rfl, h1, h2⟩
      exact ⟨u, rfl, h1.mono (Nat.zero_le _), h2⟩
    · refine (depth_rcalls w' (OwnE.below k.row hb) k.bd.ok k.rel k.len hs' m).mono ?_
      rintro e w'' ⟨u, rfl, h1, h2⟩
      exact ⟨u, rfl, h1.mono (Nat.zero_le _), h2⟩
  · have hs' : sideB s = false := by simpa using hs
    refine ⟨[], by simp, ?_, fun w' hb m => ?_⟩
    · refine (depth_none w b hs' most).mono ?_
      rintro e w' ⟨rfl, rfl⟩
      exact ⟨_, rfl, by rw [List.take_nil]; exact OwnE.nil _ _, Below.refl _ _⟩
    · refine (depth_rnone w' (OwnE.below k.row hb) k.bd.ok k.rel k.len hs' m).mono ?_
      rintro e w'' ⟨u, rfl, h1, h2⟩
      exact ⟨u, rfl, by rw [List.take_nil]; exact h1.mono (Nat.zero_le _), h2⟩
/-- Queue of both. -/
theorem queue_both {q : Nat} {w : World} {b : Nat} {O : Nat → Nat} {G : Mm} {N : Nat} {last : Int} {vx : Value} {x : Rb} {i : Nat} (k : LkS q w b O G N last vx x i) (s p : Int) :
    ∃ T : List Int, T.length ≤ 4096 ∧ (∀ (w' : World) (_ : Below w.heap.size w w'), Calls Try.prog 23 #[pt b, .int .i64 s, .int .i64 p] w' (fun e w'' => ∃ u, e = .returned u ∧ RowI 0 w'' u T ∧ Below w'.heap.size w' w'')) ∧
      ∀ (w' : World) (_ : Below w.heap.size w w'), Calls Try.prog 27 #[rbV vx x.nums x.turn x.paid, .int .i64 s, .int .i64 p] w' (fun e w'' => ∃ u, e = .returned u ∧ RowI 0 w'' u T ∧ Below w'.heap.size w' w'') := by
  have hlen := k.len
  by_cases hs : sideB s = true
  · have hs' := sideB_iff.1 hs
    obtain ⟨Q, hQ, hQn⟩ := queR_rel k.bd.ok k.rel hs' p
    have hT : (queueF p ((G.bd N last).half s)).length ≤ 4096 := by
      have h1 := queueF_len (p := p) (h := (G.bd N last).half s)
      have h2 := k.bd.few
      have h3 : ((G.bd N last).half s).all.length ≤ (G.bd N last).live.length := by
        unfold Bd.live Bd.half
        split <;> simp only [List.length_append] <;> omega
      rw [Mm.bd_live, List.length_map] at h3
      omega
    refine ⟨queueF p ((G.bd N last).half s), hT, fun w' hb => ?_, fun w' hb => ?_⟩
    · refine (queue_side (k.grow hb).bd hs' p).mono ?_
      rintro e w'' ⟨u, rfl, h1, h2⟩
      exact ⟨u, rfl, h1.mono (Nat.zero_le _), h2⟩
    · have hQl : Q.length ≤ 100000 := by
        have := congrArg List.length hQn
        rw [List.length_map] at this
        omega
      refine (queue_rcalls w' (OwnE.below k.row hb) (by omega) x.nums x.turn x.paid s p hQ hQl).mono ?_
      rintro e w'' ⟨u, rfl, h1, h2⟩
      rw [hQn] at h1
      exact ⟨u, rfl, h1.mono (Nat.zero_le _), h2⟩
  · have hs' : sideB s = false := by simpa using hs
    refine ⟨[], by simp, fun w' hb => ?_, fun w' hb => ?_⟩
    · refine (queue_none w' b hs' p).mono ?_
      rintro e w'' ⟨rfl, rfl⟩
      exact ⟨_, rfl, OwnE.nil _ _, Below.refl _ _⟩
    · refine (queue_rcalls w' (OwnE.below k.row hb) (by omega) x.nums x.turn x.paid s p (queR_none k.bd.ok k.rel hs' p) (by simp)).mono ?_
      rintro e w'' ⟨u, rfl, h1, h2⟩
      exact ⟨u, rfl, h1.mono (Nat.zero_le _), h2⟩
/-- Best of the board and Front of the reference. -/
theorem best_both {q : Nat} {w : World} {b : Nat} {O : Nat → Nat} {G : Mm} {N : Nat} {last : Int} {vx : Value} {x : Rb} {i : Nat} (k : LkS q w b O G N last vx x i) (s : Int) :
    ∃ (p h : Int) (t : Bool), Calls Try.prog 22 #[pt b, .int .i64 s] w (fun e w' => e = .returned (.tuple #[.int .i64 p, .int .i64 h, .bool t]) ∧ Below w.heap.size w w') ∧ (t = true ↔ ∃ j, frontR x.L s = some j) := by
  by_cases hs : sideB s = true
  · have hs' := sideB_iff.1 hs
    refine ⟨_, _, _, best_side k.bd hs', ?_⟩
    obtain ⟨A0, C, sd⟩ := SdR.start k.bd.ok k.rel hs'
    rcases sd.front with ⟨h1, h2⟩ | ⟨r, A', j, hj, _, h2, _, h4, _⟩
    · rw [h1, h2]; simp [bestF]
    · rw [h2]
      cases hh : (G.bd N last).half s with
      | nil => rw [hh] at h4; cases h4
      | cons y r => simp [bestF]
  · have hs' : sideB s = false := by simpa using hs
    refine ⟨0, 0, false, (best_none w b hs').mono ?_, ?_⟩
    · rintro e w' ⟨rfl, rfl⟩
      exact ⟨rfl, Below.refl _ _⟩
    · rw [front_none k.bd.ok k.rel hs']; simp
/-- Get of the board and Find of the reference. -/
def GetB (w : World) (L : List Rn) (n : Int) (e : Ending) (w' : World) : Prop :=
  Below w.heap.size w w' ∧ ((findR L n = none ∧ e = .returned (.tuple #[statA od0 0 0 false, .int .i64 4])) ∨ ∃ (j : Nat) (hj : j < L.length) (o : Od) (h : Int) (wts : Bool), findR L n = some j ∧ e = .returned (.tuple #[statA o L[j].l h wts, .int .i64 0]))
theorem get_both {q : Nat} {w : World} {b : Nat} {O : Nat → Nat} {G : Mm} {N : Nat} {last : Int} {vx : Value} {x : Rb} {i : Nat} (k : LkS q w b O G N last vx x i) {n : Int} (hn : (Lit.int .i64 n).wf = true) :
    Calls Try.prog 18 #[pt b, .int .i64 n] w (GetB w x.L n) := by
  refine (get_calls k.bd n hn).mono ?_
  rintro e w' ⟨hb, ⟨E, hE, hEn, wts, he⟩ | ⟨hno, he⟩⟩
  · refine ⟨hb, ?_⟩
    rcases find_link k n with ⟨h1, _⟩ | ⟨E2, hE2, hEn2, j, hj, f1, f2, f3, f4⟩
    · exact absurd (List.mem_map.2 ⟨E, hE, hEn⟩) h1
    · have hnn : (G.live.map fun E => (G.en E).n).Nodup := by
        have := k.bd.ok.once
        rw [Mm.bd_live] at this
        simpa [numsL, Function.comp_def] using this
      have hEE : E2 = E := nodup_map_inj hnn hE2 hE (hEn2.trans hEn.symm)
      subst hEE
      have hl : x.L[j].l = (G.en E2).l := by rw [← f3]; rfl
      exact .inr ⟨j, hj, _, _, wts, f1, by rw [hl]; exact he⟩
  · refine ⟨hb, ?_⟩
    rcases find_link k n with ⟨_, h2⟩ | ⟨E2, hE2, hEn2, _⟩
    · exact .inl ⟨h2, he⟩
    · exact absurd (List.mem_map.2 ⟨E2, hE2, hEn2⟩) hno
end Go.Proofs.Ytdjhpldiifdifaa
namespace Go.Proofs.Ytdjhpldiifdifaa
set_option linter.unusedSimpArgs false
set_option linter.unusedVariables false
open Go.RowKit Go.Shelf
attribute [local go_sem] Oper.semAt_some
attribute [local go_sem ↓] Go.wp_at_zero Go.wp_at_succ

/-- Behind run: the state, and what has only been added since. -/
structure QsC (w w3 wr : World) (b r8 : Nat) (O : Nat → Nat) (G : Mm) (N : Nat) (last : Int) (vx : Value) (x : Rb) (i : Nat) (s most n : Int) : Prop where
  lk : LkS 0 w3 b O G N last vx x i
  hi : i ≤ 40
  c8 : Cells w3 r8 #[vx, .int .i64 x.nums, .int .i64 x.turn, .int .i64 x.paid] 49
  c4 : Cells w3 w.heap.size #[.int .i64 s, .int .i64 most, .int .i64 n] 63
  below : Below w.heap.size w w3
  now : Below w3.heap.size w3 wr
theorem QsC.after {w w3 wr w' : World} {b r8 : Nat} {O : Nat → Nat} {G : Mm} {N : Nat} {last : Int} {vx : Value} {x : Rb} {i : Nat} {s most n : Int} (h : QsC w w3 wr b r8 O G N last vx x i s most n) (hb : Below wr.heap.size wr w') : QsC w w3 w' b r8 O G N last vx x i s most n :=
  ⟨h.lk, h.hi, h.c8, h.c4, h.below, h.now.trans (hb.mono h.now.size)⟩
theorem QsC.at {w w3 wr : World} {b r8 : Nat} {O : Nat → Nat} {G : Mm} {N : Nat} {last : Int} {vx : Value} {x : Rb} {i : Nat} {s most n : Int} (h : QsC w w3 wr b r8 O G N last vx x i s most n) : LkS 0 wr b (grow O w3 0) G N last vx x i := h.lk.grow h.now
theorem QsC.cell {w w3 wr : World} {b r8 : Nat} {O : Nat → Nat} {G : Mm} {N : Nat} {last : Int} {vx : Value} {x : Rb} {i : Nat} {s most n : Int} (h : QsC w w3 wr b r8 O G N last vx x i s most n) : wr.cell? ⟨r8, 0, none⟩ = some vx ∧ wr.cell? ⟨r8, 1, none⟩ = some (.int .i64 x.nums) ∧ wr.cell? ⟨r8, 2, none⟩ = some (.int .i64 x.turn) ∧ wr.cell? ⟨r8, 3, none⟩ = some (.int .i64 x.paid) ∧ r8 < wr.heap.size := by
  have c := h.c8.below h.now h.c8.lt
  refine ⟨?_, ?_, ?_, ?_, c.lt⟩ <;> (rw [c.cell]; rfl)
theorem QsC.cell4 {w w3 wr : World} {b r8 : Nat} {O : Nat → Nat} {G : Mm} {N : Nat} {last : Int} {vx : Value} {x : Rb} {i : Nat} {s most n : Int} (h : QsC w w3 wr b r8 O G N last vx x i s most n) : wr.cell? ⟨r8, 0, none⟩ = some vx ∧ wr.cell? ⟨r8, 1, none⟩ = some (.int .i64 x.nums) ∧ wr.cell? ⟨r8, 2, none⟩ = some (.int .i64 x.turn) ∧ wr.cell? ⟨r8, 3, none⟩ = some (.int .i64 x.paid) := ⟨h.cell.1, h.cell.2.1, h.cell.2.2.1, h.cell.2.2.2.1⟩
theorem QsC.out {w w3 wr : World} {b r8 : Nat} {O : Nat → Nat} {G : Mm} {N : Nat} {last : Int} {vx : Value} {x : Rb} {i : Nat} {s most n : Int} (h : QsC w w3 wr b r8 O G N last vx x i s most n) : Below w.heap.size w wr := h.below.trans (h.now.mono h.below.size)

theorem ri_reads {B : Nat} {w : World} {u : Value} {T : List Int} (h : RowI B w u T) (hl : T.length ≤ 4096) : ReadsE encI 1 w u T := OwnE.reads (enc := encI) (sz := 1) (l := T) (fun _ => rfl) h (by omega)

set_option maxRecDepth 100000 in
set_option maxHeartbeats 20000000 in
theorem quest_calls (w : World) (v : Value) (l : List Ac) (hv : ReadsE encA 13 w v l) (hok : ∀ x ∈ l, AcOk x) (s most n price : Int) (hn : (Lit.int .i64 n).wf = true) :
    Calls Try.prog 6 #[v, .agg #[.int .i64 s, .int .i64 most, .int .i64 n], .int .i64 price] w fun e w' => e = .returned (.bool true) ∧ Below w.heap.size w w' := by
  obtain ⟨w1, hw1⟩ : ∃ w1, w1 = w.alloc (.cells #[.int .i64 s, .int .i64 most, .int .i64 n] 63) := ⟨_, rfl⟩
  have b1 : Below w.heap.size w w1 := by rw [hw1]; exact (Below.refl _ _).alloc (Nat.le_refl _) _
  have c1 : Cells w1 w.heap.size #[.int .i64 s, .int .i64 most, .int .i64 n] 63 := by rw [hw1]; exact Cells.new _ _ _
  have RU := hid (run_calls w1 v l (hv.below b1) hok 15 (by omega))
  have HW1 := hid hw1
  have B1 := hid b1
  have C1 := hid c1
  have HN := hid hn
  obtain ⟨R, hR⟩ : ∃ R : Ending → World → Prop, R = fun e w' => e = .returned (.bool true) ∧ Below w.heap.size w w' := ⟨_, rfl⟩
  have FIN := hid (show ∀ w', Below w.heap.size w w' → R (.returned (.bool true)) w' by intro w' h; rw [hR]; exact ⟨rfl, h⟩)
  rw [← hR]
  obtain ⟨_, p0, cap0, _, _, rfl, _⟩ := hv
  clear hR hw1 b1 c1 hn
  go_enter Try.func6, Try.ntmps6
  go_wp2_with fail
  rw [← HW1.out]
  refine RU.out.mono ?_
  rintro e w2 ⟨b, O, G, N, last, vx, x, i, rfl, lk, hi, hb2, low⟩
  obtain ⟨p9, cap9, _, rfl, _, _⟩ := lk.row.rows
  obtain ⟨n9, hn9⟩ : ∃ n9, n9 = x.L.length := ⟨_, rfl⟩
  rw [← hn9] at lk ⊢
  have HN9 := hid hn9
  obtain ⟨w3, hw3⟩ : ∃ w3, w3 = w2.alloc (.cells #[.slice p9 n9 cap9, .int .i64 x.nums, .int .i64 x.turn, .int .i64 x.paid] 49) := ⟨_, rfl⟩
  have b3 : Below w2.heap.size w2 w3 := by rw [hw3]; exact (Below.refl _ _).alloc (Nat.le_refl _) _
  have b2' : Below w.heap.size w w2 := B1.out.trans (hb2.mono B1.out.size)
  have Q0 := hid (show QsC w w3 w3 b w2.heap.size (grow O w2 0) G N last (.slice p9 n9 cap9) x i s most n from
    ⟨lk.grow b3, hi, by rw [hw3]; exact Cells.new _ _ _, (C1.out.below hb2 C1.out.lt).below b3 (Nat.lt_of_lt_of_le C1.out.lt hb2.size), b2'.trans (b3.mono b2'.size), Below.refl _ _⟩)
  obtain ⟨r8, hr8⟩ : ∃ r8, r8 = w2.heap.size := ⟨_, rfl⟩
  obtain ⟨O3, hO3⟩ : ∃ O3, O3 = grow O w2 0 := ⟨_, rfl⟩
  rw [← hr8, ← hO3] at Q0
  have HR8 := hid hr8
  have HW3 := hid hw3
  clear lk hi hb2 low hw3 b3 b2' RU hn9 hr8 hO3
  unfold rbV
  go_upto_region 4 with fail
  rw [← HW3.out, ← HR8.out]
  obtain ⟨f0, f1, f2⟩ : w3.cell? ⟨w.heap.size, 0, none⟩ = some (.int .i64 s) ∧ w3.cell? ⟨w.heap.size, 1, none⟩ = some (.int .i64 most) ∧ w3.cell? ⟨w.heap.size, 2, none⟩ = some (.int .i64 n) := by
    refine ⟨?_, ?_, ?_⟩ <;> (rw [Q0.out.c4.cell]; rfl)
  have fl := Q0.out.c4.lt
  go_cut [9, 10, 11] (fun s9 s10 s11 wx => s9 = .int .i64 s ∧ s10 = .int .i64 most ∧ s11 = .int .i64 n ∧ QsC w w3 wx b r8 O3 G N last (.slice p9 n9 cap9) x i s most n)
  case first =>
    go_big_quiet (fail)
    go_wp2
    go_meet
    exact ⟨rfl, rfl, rfl, Q0.out.after (drewN_below (Below.refl _ _) _)⟩
  case rest =>
    obtain ⟨rfl, rfl, rfl, q4⟩ := hcut
    have Q4 := hid q4
    obtain ⟨T, hTl, dA, dB⟩ := depth_both q4.at s most
    have DA := hid dA
    have DB := hid dB
    have HTL := hid hTl
    clear q4 f0 f1 f2 fl dA dB hTl
    go_wp2_with fail
    refine DA.out.mono ?_
    rintro e w5 ⟨u1, rfl, hu1, hb5⟩
    have Q5 := hid (Q4.out.after hb5)
    have U1 := hid hu1
    obtain ⟨m2, hm2⟩ : ∃ m2, m2 = min most 1000 := ⟨_, rfl⟩
    have DB5 := hid (DB.out w5 hb5 m2)
    have HM2 := hid hm2
    unfold rbV at DB5
    obtain ⟨x0, x1, x2, x3, xl⟩ := Q5.out.cell
    have ETK := hid (show T.take m2.toNat = T.take most.toNat by
      have h1 := HTL.out
      have h2 := Q5.out.hi
      by_cases h3 : most ≤ 1000
      · rw [hm2, show min most 1000 = most by omega]
      · rw [hm2, show min most 1000 = 1000 by omega, List.take_of_length_le (by omega), List.take_of_length_le (by omega)])
    clear hu1 hb5 hm2 DA DB
    go_upto_region 6 with fail
    obtain ⟨TT, hTT⟩ : ∃ TT, TT = T.take most.toNat := ⟨_, rfl⟩
    rw [← hTT] at U1 ETK
    go_cut [13] (fun s13 wx => ∃ u2, s13 = u2 ∧ RowLr 0 wx u2 TT ∧ RowL 0 wx u1 TT ∧ QsC w w3 wx b r8 O3 G N last (.slice p9 n9 cap9) x i s most n)
    case first =>
      by_cases hle : most ≤ 1000
      · have e : m2 = most := by rw [HM2.out]; omega
        rw [e] at DB5 ETK
        clear e
        go_wp2_with fail
        all_goals first | (exfalso; omega) | skip
        refine DB5.out.mono ?_
        rintro e w6 ⟨u2, rfl, hu2, hb6⟩
        rw [ETK.out] at hu2
        have Q6 := hid (Q5.out.after hb6)
        have U6 := hid (OwnE.below U1.out hb6)
        have U2 := hid hu2
        clear hu2 hb6 x0 x1 x2 x3 xl
        go_wp2
        go_meet
        exact ⟨u2, rfl, U2.out, U6.out, Q6.out⟩
      · have e : m2 = 1000 := by rw [HM2.out]; omega
        rw [e] at DB5 ETK
        clear e
        go_wp2_with fail
        all_goals first | (exfalso; omega) | skip
        refine DB5.out.mono ?_
        rintro e w6 ⟨u2, rfl, hu2, hb6⟩
        rw [ETK.out] at hu2
        have Q6 := hid (Q5.out.after hb6)
        have U6 := hid (OwnE.below U1.out hb6)
        have U2 := hid hu2
        clear hu2 hb6 x0 x1 x2 x3 xl
        go_wp2
        go_meet
        exact ⟨u2, rfl, U2.out, U6.out, Q6.out⟩
    case rest =>
      obtain ⟨u2, rfl, hu2, hu1, q6⟩ := hcut
      have HTT := hid (show TT.length ≤ 40 by
        have h1 := HTL.out
        have h2 := q6.hi
        have h3 : TT.length ≤ T.length := by rw [hTT, List.length_take]; exact Nat.min_le_right _ _
        omega)
      obtain ⟨w6, rfl⟩ : ∃ w6 : World, w6 = wc := ⟨_, rfl⟩
      obtain ⟨p1, k1, hv1, _⟩ := hu1.form
      obtain ⟨p2, k2, hv2, _⟩ := hu2.form
      obtain ⟨M, hM⟩ : ∃ M, M = TT.length := ⟨_, rfl⟩
      rw [← hM] at hv1 hv2
      subst hv1 hv2
      have U6 := hid hu1
      have V6 := hid hu2
      have HM := hid hM
      have Q6 := hid q6
      obtain ⟨TQ, hq0, qa, qb⟩ := queue_both q6.at s price
      have QA := hid qa
      have QB := hid qb
      have HQ0 := hid hq0
      unfold rbV at QB
      have gM : ((M : Int) != (M : Int)) = false := by simp
      have hcur : Below w6.heap.size w6 w6.drew := (Below.refl _ _).drew
      clear hu1 hu2 hM q6 qa qb hq0 U1 ETK DB5 Q5 Q4 HTL hTT
      go_upto_region 7 with fail
      go_cut [59] (fun s59 wx => s59 = .bool false ∧ Below w6.heap.size w6 wx)
      case first =>
        go_region_held3 (fun wh => wh.cell? ⟨r8, 0, none⟩ = some (.slice p9 n9 cap9) ∧ wh.cell? ⟨r8, 1, none⟩ = some (.int .i64 x.nums) ∧ wh.cell? ⟨r8, 2, none⟩ = some (.int .i64 x.turn) ∧ wh.cell? ⟨r8, 3, none⟩ = some (.int .i64 x.paid))
          (exact (Q6.out.after hcur).cell4)
          (first
            | (go_at_call 23; (with_reducible refine (QA.out _ hcur).mono ?_); rintro e w7 ⟨ua, rfl, hua, hb7⟩; (try have hub := OwnE.below hub hb7); have hcur := hcur.trans (hb7.mono hcur.size))
            | (go_at_call 27; (with_reducible refine (QB.out _ hcur).mono ?_); rintro e w7 ⟨ub, rfl, hub, hb7⟩; (try have hua := OwnE.below hua hb7); have hcur := hcur.trans (hb7.mono hcur.size))
            | (go_at_call 26; (with_reducible refine (ints_same (ri_reads hua HQ0.out) (ri_reads hub HQ0.out)).mono ?_); rintro e w7 ⟨rfl, mm, rfl⟩; have hcur := drewN_below hcur mm))
        all_goals (
          go_wp2
          go_meet
          exact ⟨rfl, hcur⟩)
      case rest =>
        obtain ⟨rfl, hb7⟩ := hcut
        have Q7 := hid (Q6.out.after hb7)
        have U7 := OwnE.below U6.out hb7
        have V7 := OwnE.below V6.out hb7
        obtain ⟨_, _, g1, hv1, hp1, hc1⟩ := OwnE.cells (enc := encLw) (sz := 3) (fun _ => rfl) U7
        obtain ⟨_, _, g2, hv2, hp2, hc2⟩ := OwnE.cells (enc := encLw) (sz := 3) (fun _ => rfl) V7
        rw [← HM.out] at hv1 hv2 hp1 hp2
        injection hv1 with e1 _ e3
        injection hv2 with e4 _ e6
        subst e1 e3 e4 e6
        have HP1 := hid hp1
        have HP2 := hid hp2
        have HC1 := hid hc1
        have HC2 := hid hc2
        clear hb7 U7 V7 hp1 hp2 hc1 hc2 hcur QA QB U6 V6 Q6 gM
        go_wp2_with fail
        go_loopg [14] M (fun k s14 wq => ∃ (a m : Nat), s14 = .int .i64 a ∧ a ≤ M ∧ k = M - a ∧ wq = wc.drewN m)
        case atStart => exact ⟨0, 0, rfl, by omega, by omega, rfl⟩
        case round =>
          obtain ⟨a, m, rfl, ha, hk, rfl⟩ := hrel
          have HK := hid hk
          have hM40 : M ≤ 40 := by rw [HM.out]; exact HTT.out
          clear hk
          by_cases haM : a < M
          · have hal : a < TT.length := by rw [← HM.out]; exact haM
            obtain ⟨rfl, _, hb1⟩ := HP1.out (by omega)
            obtain ⟨rfl, _, hb2⟩ := HP2.out (by omega)
            obtain ⟨y, hy⟩ : ∃ y, y = TT[a] := ⟨_, rfl⟩
            have c0 : wc.cell? ⟨g1, a * 3, none⟩ = some (.int .i64 y.1) := by rw [hy]; exact HC1.out a hal 0 (by omega)
            have c1 : wc.cell? ⟨g1, a * 3 + 1, none⟩ = some (.int .i64 y.2.1) := by rw [hy]; exact HC1.out a hal 1 (by omega)
            have c2 : wc.cell? ⟨g1, a * 3 + 2, none⟩ = some (.int .i64 y.2.2) := by rw [hy]; exact HC1.out a hal 2 (by omega)
            have d0 : wc.cell? ⟨g2, a * 3, none⟩ = some (.int .i64 y.1) := by rw [hy]; exact HC2.out a hal 0 (by omega)
            have d1 : wc.cell? ⟨g2, a * 3 + 1, none⟩ = some (.int .i64 y.2.1) := by rw [hy]; exact HC2.out a hal 1 (by omega)
            have d2 : wc.cell? ⟨g2, a * 3 + 2, none⟩ = some (.int .i64 y.2.2) := by rw [hy]; exact HC2.out a hal 2 (by omega)
            have gi : (a : Int) < (M : Int) := by omega
            have gi4 : (0 : Int) ≤ (a : Int) := by omega
            have he : ∀ w, (Op.equalIn 10000 71 (.agg #[.int .i64 y.1, .int .i64 y.2.1, .int .i64 y.2.2]) (.agg #[.int .i64 y.1, .int .i64 y.2.1, .int .i64 y.2.2])).run Try.prog w = .ok true w := fun w => by simp [go_sem]
            clear hy
            go_wp2
            go_big_quiet (fail)
            go_wp2
            go_roundg (M - (a + 1))
            · exact ⟨a + 1, _, by go_num, by omega, by omega, rfl⟩
            · have := HK.out; omega
          · have haM2 : a = M := by omega
            subst haM2
            have g3 : decide ((a : Int) < (a : Int)) = false := by simp
            have Q8 := hid (Q7.out.after (drewN_below (Below.refl wc.heap.size wc) m))
            obtain ⟨bp, bh, bt, BC, BI⟩ := best_both Q8.out.at s
            have BCH := hid BC
            have BIH := hid BI
            clear BC BI HP1 HP2 HC1 HC2 haM HK
            go_wp2_with fail
            refine BCH.out.mono ?_
            rintro e w9 ⟨rfl, hb9⟩
            have Q9 := hid (Q8.out.after hb9)
            obtain ⟨x0, x1, x2, x3, xl⟩ := Q9.out.cell
            have FR := hid (front_rcalls w9 Q9.out.at.row (by have := Q9.out.at.len; omega) x.nums x.turn x.paid s)
            unfold rbV at FR
            obtain ⟨fi, hfi⟩ : ∃ fi, fi = optI (frontR x.L s) := ⟨_, rfl⟩
            rw [← hfi] at FR
            have gF : decide (0 ≤ fi) = bt := by
              cases hb : bt with
              | true =>
                obtain ⟨j, hj⟩ := BIH.out.1 hb
                rw [hfi, hj]
                exact decide_eq_true (by show (0 : Int) ≤ (j : Int); omega)
              | false =>
                cases hf : frontR x.L s with
                | none => rw [hfi, hf]; rfl
                | some j =>
                  have := BIH.out.2 ⟨j, hf⟩
                  rw [hb] at this
                  cases this
            have gB : (bt != bt) = false := by simp
            clear hb9 hfi BCH BIH Q8
            go_wp2_with fail
            refine FR.out.mono ?_
            rintro e w10 ⟨rfl, hb10⟩
            have Q10 := hid (Q9.out.after hb10)
            clear hb10 x0 x1 x2 x3 xl FR Q9
            have GT := hid (get_both Q10.out.at HN.out)
            go_wp2_with fail
            refine GT.out.mono ?_
            rintro e w11 ⟨hb11, ⟨hf, rfl⟩ | ⟨j, hj, o, h, wts, hf, rfl⟩⟩
            · have Q11 := hid (Q10.out.after hb11)
              unfold statA od0
              obtain ⟨w12, hw12⟩ : ∃ w12, w12 = w11.alloc (.cells #[.int .i64 0, .int .i64 0, .int .i64 0, .int .i64 0, .int .i64 0, .int .i64 0, .int .i64 0, .int .i64 0, .int .i64 0, .int .i64 0, .bool false] 42) := ⟨_, rfl⟩
              have b12 : Below w11.heap.size w11 w12 := by rw [hw12]; exact (Below.refl _ _).alloc (Nat.le_refl _) _
              have c12 : Cells w12 w11.heap.size #[.int .i64 0, .int .i64 0, .int .i64 0, .int .i64 0, .int .i64 0, .int .i64 0, .int .i64 0, .int .i64 0, .int .i64 0, .int .i64 0, .bool false] 42 := by rw [hw12]; exact Cells.new _ _ _
              have Q12 := hid (Q11.out.after b12)
              have C12 := hid c12
              have HW12 := hid hw12
              have FD := hid (find_rcalls w12 Q12.out.at.row (by have := Q12.out.at.len; omega) x.nums x.turn x.paid n)
              rw [hf, show optI none = -1 from rfl] at FD
              unfold rbV at FD
              obtain ⟨x0, x1, x2, x3, xl⟩ := Q12.out.cell
              have AW := hid awake_calls
              have he : ∀ w, (Op.equalIn 10000 42 (.agg #[.int .i64 0, .int .i64 0, .int .i64 0, .int .i64 0, .int .i64 0, .int .i64 0, .int .i64 0, .int .i64 0, .int .i64 0, .int .i64 0, .bool false]) (.agg #[.int .i64 0, .int .i64 0, .int .i64 0, .int .i64 0, .int .i64 0, .int .i64 0, .int .i64 0, .int .i64 0, .int .i64 0, .int .i64 0, .bool false])).run Try.prog w = .ok true w := fun w => by simp [go_sem]
              have g9 : decide ((-1 : Int) < 0) = true := by decide
              clear hf hb11 hw12 b12 c12 GT Q10 Q11
              go_upto_region 18 with fail
              rw [← HW12.out]
              go_wp2_with fail
              refine FD.out.mono ?_
              rintro e w13 ⟨rfl, hb13⟩
              have Q13 := hid (Q12.out.after hb13)
              have c13 := C12.out.below hb13 C12.out.lt
              obtain ⟨y0, y1, y2, y3, y4, y5, y6, y7, y8, y9, y10⟩ : w13.cell? ⟨w11.heap.size, 0, none⟩ = some (.int .i64 0) ∧ w13.cell? ⟨w11.heap.size, 1, none⟩ = some (.int .i64 0) ∧ w13.cell? ⟨w11.heap.size, 2, none⟩ = some (.int .i64 0) ∧ w13.cell? ⟨w11.heap.size, 3, none⟩ = some (.int .i64 0) ∧ w13.cell? ⟨w11.heap.size, 4, none⟩ = some (.int .i64 0) ∧ w13.cell? ⟨w11.heap.size, 5, none⟩ = some (.int .i64 0) ∧ w13.cell? ⟨w11.heap.size, 6, none⟩ = some (.int .i64 0) ∧ w13.cell? ⟨w11.heap.size, 7, none⟩ = some (.int .i64 0) ∧ w13.cell? ⟨w11.heap.size, 8, none⟩ = some (.int .i64 0) ∧ w13.cell? ⟨w11.heap.size, 9, none⟩ = some (.int .i64 0) ∧ w13.cell? ⟨w11.heap.size, 10, none⟩ = some (.bool false) := by
                refine ⟨?_, ?_, ?_, ?_, ?_, ?_, ?_, ?_, ?_, ?_, ?_⟩ <;> (rw [c13.cell]; rfl)
              have yl := c13.lt
              clear hb13 c13 x0 x1 x2 x3 xl FD Q12
              go_wp2_with fail
              refine (AW.out _).mono ?_
              rintro e w14 ⟨rfl, hb14⟩
              have FN := hid (FIN.out w14 (Q13.out.after hb14).out)
              go_wp2
              first | exact FN.out | (go_ret; exact FN.out) | (refine bodyPost_ret (v := .bool true) (by simp [results, Try.results6, go_sem]) rfl FN.out)
            · have Q11 := hid (Q10.out.after hb11)
              obtain ⟨lf, hlf⟩ : ∃ lf, lf = x.L[j].l := ⟨_, rfl⟩
              rw [← hlf]
              unfold statA
              obtain ⟨w12, hw12⟩ : ∃ w12, w12 = w11.alloc (.cells #[.int .i64 o.m, .int .i64 o.s, .int .i64 o.k, .int .i64 o.f, .int .i64 o.p, .int .i64 o.t, .int .i64 o.q, .int .i64 o.pk, .int .i64 lf, .int .i64 h, .bool wts] 42) := ⟨_, rfl⟩
              have b12 : Below w11.heap.size w11 w12 := by rw [hw12]; exact (Below.refl _ _).alloc (Nat.le_refl _) _
              have c12 : Cells w12 w11.heap.size #[.int .i64 o.m, .int .i64 o.s, .int .i64 o.k, .int .i64 o.f, .int .i64 o.p, .int .i64 o.t, .int .i64 o.q, .int .i64 o.pk, .int .i64 lf, .int .i64 h, .bool wts] 42 := by rw [hw12]; exact Cells.new _ _ _
              have Q12 := hid (Q11.out.after b12)
              have C12 := hid c12
              have HW12 := hid hw12
              have FD := hid (find_rcalls w12 Q12.out.at.row (by have := Q12.out.at.len; omega) x.nums x.turn x.paid n)
              rw [hf, show optI (some j) = (j : Int) from rfl] at FD
              unfold rbV at FD
              obtain ⟨x0, x1, x2, x3, xl⟩ := Q12.out.cell
              have AW := hid awake_calls
              have HLF := hid hlf
              have g9 : decide ((j : Int) < 0) = false := by simp
              have hjn : j < n9 := by rw [HN9.out]; exact hj
              have HF := hid hf
              clear hf hb11 hw12 b12 c12 GT Q10 Q11 hlf
              go_upto_region 18 with fail
              rw [← HW12.out]
              go_wp2_with fail
              refine FD.out.mono ?_
              rintro e w13 ⟨rfl, hb13⟩
              have Q13 := hid (Q12.out.after hb13)
              have C13 := hid (C12.out.below hb13 C12.out.lt)
              obtain ⟨p8, k8, g8, hv8, hp8, hc8⟩ := Q13.out.at.row.rows
              have e8 : n9 = x.L.length := HN9.out
              injection hv8 with e1 _ e3
              subst e1 e3
              obtain ⟨rfl, hg8⟩ := hp8 (by omega)
              have ROW := hid (fun (w' : World) (hb : Below w13.heap.size w13 w') => (show w'.cell? ⟨g8, j * 13 + 9, none⟩ = some (.int .i64 lf) by
                obtain ⟨_, _, _, _, _, _, _, _, _, c9, _⟩ := hc8 w' hb j hj
                rw [HLF.out]; exact c9))
              have gj : (j : Int) < (n9 : Int) := by omega
              have gj4 : (0 : Int) ≤ (j : Int) := by omega
              have gj5 : ((j : Int)).toNat = j := by omega
              have gl : (lf == lf) = true := by simp
              have hcur : Below w13.heap.size w13 w13.drew := (Below.refl _ _).drew
              have BQ := hid Q13.out.out
              clear hb13 x0 x1 x2 x3 xl FD Q12 hp8 hc8 e8
              go_upto_region 21 with fail
              go_region_held3 (fun wh => wh.cell? ⟨w11.heap.size, 8, none⟩ = some (.int .i64 lf) ∧ wh.cell? ⟨r8, 0, none⟩ = some (.slice (some ⟨g8, 0, none⟩) n9 cap9) ∧ wh.cell? ⟨g8, j * 13 + 9, none⟩ = some (.int .i64 lf))
                (exact ⟨by rw [(C13.out.below hcur C13.out.lt).cell]; rfl, (Q13.out.after hcur).cell.1, ROW.out _ hcur⟩)
                (first
                  | (go_at_call 19; (with_reducible refine (AW.out _).mono ?_); rintro e w7 ⟨rfl, hb7⟩; have hcur := hcur.trans (hb7.mono hcur.size)))
              all_goals (
                have FN := hid (FIN.out _ (BQ.out.trans (hcur.mono BQ.out.size)))
                go_wp2
                first | exact FN.out | (go_ret; exact FN.out) | (refine bodyPost_ret (v := .bool true) (by simp [results, Try.results6, go_sem]) rfl FN.out))
end Go.Proofs.Ytdjhpldiifdifaa
namespace Go.Proofs.Ytdjhpldiifdifaa.boardQuestions
set_option linter.unusedSimpArgs false
set_option linter.unusedVariables false
open Go.RowKit Go.ChangeShapes Go.WideShapes

theorem three_leaves : leaves Try.prog 3 63 = some [.i64, .i64, .i64] := by kernel_rfl
theorem three {vs : List Value} (h : IntsK [.i64, .i64, .i64] vs) : ∃ a b c : Int, vs = [.int .i64 a, .int .i64 b, .int .i64 c] ∧ (Lit.int .i64 c).wf = true := by
  obtain ⟨a, _, rfl, _, _, h⟩ := h.cons
  obtain ⟨b, _, rfl, _, _, h⟩ := h.cons
  obtain ⟨c, _, rfl, c1, c2, h⟩ := h.cons
  obtain rfl := h.nil
  exact ⟨a, b, c, rfl, WalkArith.wf_i64 ⟨c1, c2⟩⟩
set_option maxRecDepth 100000 in
theorem boardQuestions_walk {H : Type} {enc : TypeId × Value → H} (W : World) (args : Array Value) (ds : List (DataW H)) (p : List MemPlace) {base : Nat}
    (hval : ∀ (j : Nat) t v, (#[22, 63, 2] : Array TypeId)[j]? = some t → args[j]? = some v → Value.okWide Try.prog W .any base t v)
    (hA : DataW.TrodAll enc Try.prog W 0 (fun _ => true) true [22, 63, 2] args.toList ds p) : Calls Try.prog 6 args W fun e w' => e = .returned (.bool true) ∧ Below W.heap.size W w' := by
  obtain ⟨v0, vs0, d0, ds0, p0, q0, hargs, rfl, rfl, h0, r0⟩ := trodAll_cons hA
  obtain ⟨v1, vs1, d1, ds1, p1, q1, rfl, rfl, rfl, h1, r1⟩ := trodAll_cons r0
  obtain ⟨v2, vs2, d2, ds2, p2, q2, rfl, rfl, rfl, h2, r2⟩ := trodAll_cons r1
  obtain ⟨rfl, rfl, rfl⟩ := trodAll_nil r2
  obtain rfl : args = #[v0, v1, v2] := by cases args; simp_all
  obtain ⟨l, hl, hok⟩ := acts_open (hval 0 _ v0 rfl rfl) h0
  obtain ⟨cs, rfl, hk⟩ := open_flat three_leaves (fun k hk => by rw [Try.underlying63] at hk; cases hk) (hval 1 _ v1 rfl rfl) h1
  obtain ⟨pr, rfl, _⟩ := open_int Try.underlying2 (hval 2 _ v2 rfl rfl) h2
  obtain ⟨a, b, c, he, hc⟩ := three hk
  obtain rfl : cs = #[.int .i64 a, .int .i64 b, .int .i64 c] := by cases cs; simp_all
  exact quest_calls W v0 l hl hok a b c pr hc
end Go.Proofs.Ytdjhpldiifdifaa.boardQuestions
