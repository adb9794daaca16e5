/- BoardForks: two boards, each with its reference. BoardForks: the walk. BoardForks: the arguments opened. BoardForks: for every input the law returns true, and its arguments read as before. Conditions: none beyond those of the given statement. -/
import Derived.Deep.RegionHeld3
import Derived.Deep.DeepCutAuto
import Derived.Test.YtdjhpldiifdifaaJFrk3
import Derived.Test.YtdjhpldiifdifaaJRun0
import Derived.Test.YtdjhpldiifdifaaJOpen
namespace Go.Proofs.Ytdjhpldiifdifaa
set_option linter.unusedSimpArgs false
set_option linter.unusedVariables false
open Go.RowKit Go.Shelf

/-- Behind Fork: both boards say what the reference's board says. -/
theorem lk_fork {w w' : World} {b b' : Nat} {O O1 : Nat → Nat} {G G' : Mm} {N : Nat} {last : Int} {vx : Value} {x : Rb} {i : Nat} (k : LkS 0 w b O G N last vx x i) (bd : BdC O1 6 w' b' G' N last []) (e : G'.bd N last = G.bd N last) (st : Step (colB 6) O w O1 w') :
    ∃ O2, LkS 0 w' b O2 G N last vx x i ∧ LkS 6 w' b' O2 G' N last vx x i ∧ Step (colB 6) O w O2 w' := by
  obtain ⟨s1, s2⟩ := noE_step st (Kept.refl (fun _ => False) w') (fun _ h => h.elim) k.clean
  have kb := k.other s1 (.inl (by omega)) s2
  exact ⟨_, kb, ⟨bd.recolE (fun j h => noE_not h), by rw [e]; exact k.rel, kb.row, s2, k.num, k.turn⟩, s1⟩
/-- Two boards: one on which calls are made, with its box, and another one. -/
structure TwoC (w wr : World) (q b r : Nat) (O : Nat → Nat) (G : Mm) (N : Nat) (last : Int) (vx : Value) (x : Rb) (i : Nat) (q2 b2 r2 : Nat) (G2 : Mm) (N2 : Nat) (last2 : Int) (v2 : Value) (x2 : Rb) (i2 : Nat) : Prop where
  lk : LkS q wr b O G N last vx x i
  lk2 : LkS q2 wr b2 O G2 N2 last2 v2 x2 i2
  far : q2 + 6 ≤ q ∨ q + 6 ≤ q2
  c : Cells wr r #[vx, .int .i64 x.nums, .int .i64 x.turn, .int .i64 x.paid] 49
  o : O r = 0
  g : w.heap.size ≤ r
  c2 : Cells wr r2 #[v2, .int .i64 x2.nums, .int .i64 x2.turn, .int .i64 x2.paid] 49
  o2 : O r2 = 0
  ne : r2 ≠ r
  below : Below w.heap.size w wr
  low : ∀ k, k < w.heap.size → O k = 0
theorem TwoC.after {w wr w' : World} {q b r : Nat} {O : Nat → Nat} {G : Mm} {N : Nat} {last : Int} {vx : Value} {x : Rb} {i : Nat} {q2 b2 r2 : Nat} {G2 : Mm} {N2 : Nat} {last2 : Int} {v2 : Value} {x2 : Rb} {i2 : Nat} (h : TwoC w wr q b r O G N last vx x i q2 b2 r2 G2 N2 last2 v2 x2 i2) (hb : Below wr.heap.size wr w') :
    TwoC w w' q b r (grow O wr 0) G N last vx x i q2 b2 r2 G2 N2 last2 v2 x2 i2 :=
  ⟨h.lk.grow hb, h.lk2.grow hb, h.far, h.c.below hb h.c.lt, by rw [grow_old h.c.lt]; exact h.o, h.g, h.c2.below hb h.c2.lt, by rw [grow_old h.c2.lt]; exact h.o2, h.ne, h.below.trans (hb.mono h.below.size), fun k hk => by rw [grow_old (Nat.lt_of_lt_of_le hk h.below.size)]; exact h.low k hk⟩
/-- A new box of a board that is read there. -/
theorem TwoC.box {w wr w' : World} {q b r : Nat} {O : Nat → Nat} {G : Mm} {N : Nat} {last : Int} {vx : Value} {x : Rb} {i : Nat} {q2 b2 r2 : Nat} {G2 : Mm} {N2 : Nat} {last2 : Int} {v2 : Value} {x2 : Rb} {i2 : Nat} (h : TwoC w wr q b r O G N last vx x i q2 b2 r2 G2 N2 last2 v2 x2 i2) (hw : w' = wr.alloc (.cells #[v2, .int .i64 x2.nums, .int .i64 x2.turn, .int .i64 x2.paid] 49)) :
    ∃ O', TwoC w w' q2 b2 wr.heap.size O' G2 N2 last2 v2 x2 i2 q b r G N last vx x i := by
  have hb : Below wr.heap.size wr w' := by rw [hw]; exact (Below.refl _ _).alloc (Nat.le_refl _) _
  have h' := h.after hb
  exact ⟨grow O wr 0, h'.lk2, h'.lk, by have := h.far; omega, by rw [hw]; exact Cells.new _ _ _, grow_new (Nat.le_refl _), h.below.size, h'.c, h'.o, by have := h.c.lt; omega, h'.below, h'.low⟩
theorem low_stepq {q n : Nat} {w w' : World} {O O' : Nat → Nat} (st : Step (colB q) O w O' w') (hn : n ≤ w.heap.size) (h : ∀ k, k < n → O k = 0) : Below n w w' ∧ ∀ k, k < n → O' k = 0 := st.low hn h
/-- Behind a call and the storing of its board. -/
theorem TwoC.next {w wr w' : World} {q b r : Nat} {O O' : Nat → Nat} {G G' : Mm} {N N' : Nat} {last last' : Int} {vx v' : Value} {x x' : Rb} {i : Nat} {q2 b2 r2 : Nat} {G2 : Mm} {N2 : Nat} {last2 : Int} {v2 : Value} {x2 : Rb} {i2 : Nat} (h : TwoC w wr q b r O G N last vx x i q2 b2 r2 G2 N2 last2 v2 x2 i2) (st : Step (colB q) O wr O' w') (lk : LkS q w' b O' G' N' last' v' x' (i + 1)) :
    TwoC w ((((w'.setCell ⟨r, 0, none⟩ v').setCell ⟨r, 1, none⟩ (.int .i64 x'.nums)).setCell ⟨r, 2, none⟩ (.int .i64 x'.turn)).setCell ⟨r, 3, none⟩ (.int .i64 x'.paid)) q b r O' G' N' last' v' x' (i + 1) q2 b2 r2 G2 N2 last2 v2 x2 i2 ∧ Cells w' r #[vx, .int .i64 x.nums, .int .i64 x.turn, .int .i64 x.paid] 49 := by
  obtain ⟨c, o⟩ := stay0 st h.c h.o
  obtain ⟨c2, o2⟩ := stay0 st h.c2 h.o2
  have kk := kept_res (Kept.refl (fun k => k = r) w') v' x'.nums x'.turn x'.paid
  obtain ⟨l1, l2⟩ := low_stepq st h.below.size h.low
  have b' := h.below.trans l1
  have lk2 := h.lk2.other st (by have := h.far; omega) lk.clean
  exact ⟨⟨lk.own c o kk (by simp [size_setCell]), lk2.own c o kk (by simp [size_setCell]), h.far, put_res c v' x'.nums x'.turn x'.paid, o, h.g, c2.kept kk h.ne, o2, h.ne, b'.trans (kk.below (B := w.heap.size) b'.size (fun k e => by have := h.g; omega)), l2⟩, c⟩
/-- What a call of a loop comes to. -/
def DoT (w : World) (q b r i : Nat) (q2 b2 r2 : Nat) (G2 : Mm) (N2 : Nat) (last2 : Int) (v2 : Value) (x2 : Rb) (i2 : Nat) (e : Ending) (w' : World) : Prop :=
  ∃ p' cap' n' nu tu pa, e = .returned (.tuple #[.agg #[.slice p' n' cap', .int .i64 nu, .int .i64 tu, .int .i64 pa], .bool true]) ∧ (∃ u, w'.cell? ⟨r, 0, none⟩ = some u) ∧ (∃ u, w'.cell? ⟨r, 1, none⟩ = some u) ∧ (∃ u, w'.cell? ⟨r, 2, none⟩ = some u) ∧ (∃ u, w'.cell? ⟨r, 3, none⟩ = some u) ∧
    w'.frozen? ⟨r, 0, none⟩ = false ∧ w'.frozen? ⟨r, 1, none⟩ = false ∧ w'.frozen? ⟨r, 2, none⟩ = false ∧ w'.frozen? ⟨r, 3, none⟩ = false ∧ r < w'.heap.size ∧
    ∃ O G N last x, TwoC w ((((w'.setCell ⟨r, 0, none⟩ (.slice p' n' cap')).setCell ⟨r, 1, none⟩ (.int .i64 nu)).setCell ⟨r, 2, none⟩ (.int .i64 tu)).setCell ⟨r, 3, none⟩ (.int .i64 pa)) q b r O G N last (.slice p' n' cap') x (i + 1) q2 b2 r2 G2 N2 last2 v2 x2 i2
theorem do_t {w wr : World} {q b r : Nat} {O : Nat → Nat} {G : Mm} {N : Nat} {last : Int} {vx : Value} {x : Rb} {i : Nat} {q2 b2 r2 : Nat} {G2 : Mm} {N2 : Nat} {last2 : Int} {v2 : Value} {x2 : Rb} {i2 : Nat} (h : TwoC w wr q b r O G N last vx x i q2 b2 r2 G2 N2 last2 v2 x2 i2) (hi : i ≤ 90) (a : Ac) (hok : AcOk a) :
    Calls Try.prog 32 #[pt b, rbV vx x.nums x.turn x.paid, .agg (encA a).toArray] wr.drew (DoT w q b r i q2 b2 r2 G2 N2 last2 v2 x2 i2) := by
  have hd := h.after (Below.refl wr.heap.size wr).drew
  refine (do_calls hd.lk hi a hok).mono ?_
  rintro e w' ⟨O', G', N', last', v', x', rfl, lk', st'⟩
  obtain ⟨p', cap', g', rfl, _, _⟩ := lk'.row.rows
  obtain ⟨tw, c⟩ := hd.next st' lk'
  exact ⟨p', cap', _, _, _, _, rfl, ⟨_, by rw [c.cell]; rfl⟩, ⟨_, by rw [c.cell]; rfl⟩, ⟨_, by rw [c.cell]; rfl⟩, ⟨_, by rw [c.cell]; rfl⟩, c.frozen 0, c.frozen 1, c.frozen 2, c.frozen 3, c.lt, _, _, _, _, _, tw⟩
end Go.Proofs.Ytdjhpldiifdifaa
namespace Go.Proofs.Ytdjhpldiifdifaa
set_option linter.unusedSimpArgs false
set_option linter.unusedVariables false
open Go.RowKit Go.Shelf
attribute [local go_sem] Oper.semAt_some
attribute [local go_sem ↓] Go.wp_at_zero Go.wp_at_succ

set_option maxRecDepth 100000 in
set_option maxHeartbeats 20000000 in
theorem forks_calls (w : World) (v : Value) (l : List Ac) (hv : ReadsE encA 13 w v l) (hok : ∀ x ∈ l, AcOk x) (v2 : Value) (more : List Ac) (hv2 : ReadsE encA 13 w v2 more) (hok2 : ∀ x ∈ more, AcOk x) :
    Calls Try.prog 12 #[v, v2] w fun e w' => e = .returned (.bool true) ∧ Below w.heap.size w w' := by
  have RU := hid (run_calls w v l hv hok 20 (by omega))
  obtain ⟨R, hR⟩ : ∃ R : Ending → World → Prop, R = fun e w' => e = .returned (.bool true) ∧ Below w.heap.size w w' := ⟨_, rfl⟩
  have FIN := hid (show ∀ w', Below w.heap.size w w' → R (.returned (.bool true)) w' by intro w' h; rw [hR]; exact ⟨rfl, h⟩)
  rw [← hR]
  have AW := hid awake_calls
  obtain ⟨_, p0, cap0, _, _, rfl, _⟩ := hv
  obtain ⟨hm, p, capm, ba, off, rfl, hp, hc⟩ := hv2
  obtain ⟨n, hn⟩ : ∃ n, n = more.length := ⟨_, rfl⟩
  rw [← hn] at hp hm ⊢
  have HP := hid hp
  have HC := hid hc
  have HN := hid hn
  have HOK := hid hok2
  clear hR hp hc hn hok2
  go_enter Try.func12, Try.ntmps12
  go_wp2_with fail
  refine RU.out.mono ?_
  rintro e w2 ⟨b, O, G, N, last, vx, x, i, rfl, lk, hi, hb2, low⟩
  obtain ⟨pB, capB, _, rfl, _, _⟩ := lk.row.rows
  obtain ⟨nB, hnB⟩ : ∃ nB, nB = x.L.length := ⟨_, rfl⟩
  rw [← hnB] at lk ⊢
  obtain ⟨w3, hw3⟩ : ∃ w3, w3 = w2.alloc (.cells #[.slice pB nB capB, .int .i64 x.nums, .int .i64 x.turn, .int .i64 x.paid] 49) := ⟨_, rfl⟩
  have b3 : Below w2.heap.size w2 w3 := by rw [hw3]; exact (Below.refl _ _).alloc (Nat.le_refl _) _
  obtain ⟨r6, hr6⟩ : ∃ r6, r6 = w2.heap.size := ⟨_, rfl⟩
  have c3 : Cells w3 r6 #[.slice pB nB capB, .int .i64 x.nums, .int .i64 x.turn, .int .i64 x.paid] 49 := by rw [hw3, hr6]; exact Cells.new _ _ _
  have lk3 := lk.grow b3
  have o3 : grow O w2 0 r6 = 0 := by rw [hr6]; exact grow_new (Nat.le_refl _)
  have low3 : ∀ k, k < w.heap.size → grow O w2 0 k = 0 := fun k hk => by rw [grow_old (Nat.lt_of_lt_of_le hk hb2.size)]; exact low k hk
  have bw3 : Below w.heap.size w w3 := hb2.trans (b3.mono hb2.size)
  have g6 : w.heap.size ≤ r6 := by rw [hr6]; exact hb2.size
  obtain ⟨O3, hO3⟩ : ∃ O3, O3 = grow O w2 0 := ⟨_, rfl⟩
  rw [← hO3] at lk3 o3 low3
  have FK := hid ((fork_calls lk3.bd 6 (by omega)).mono (R' := fun e w' => ∃ O2 f G2, e = .returned (pt f) ∧ LkS 0 w' b O2 G N last (.slice pB nB capB) x i ∧ LkS 6 w' f O2 G2 N last (.slice pB nB capB) x i ∧ Cells w' r6 #[.slice pB nB capB, .int .i64 x.nums, .int .i64 x.turn, .int .i64 x.paid] 49 ∧ O2 r6 = 0 ∧ Below w.heap.size w w' ∧ ∀ k, k < w.heap.size → O2 k = 0) (fun e w' ⟨O', f, G', h1, h2, h3, h4⟩ => by
    obtain ⟨O2, l1, l2, s2⟩ := lk_fork lk3 h2 h3 h4
    obtain ⟨c, o⟩ := stay0 s2 c3 o3
    obtain ⟨z1, z2⟩ := low_stepq s2 bw3.size low3
    exact ⟨O2, f, G', h1, l1, l2, c, o, bw3.trans z1, z2⟩))
  have HW3 := hid hw3
  have HR6 := hid hr6
  have G6 := hid g6
  have HI := hid hi
  have HNB := hid hnB
  clear lk hi hb2 low hw3 b3 RU hnB hr6 c3 lk3 o3 low3 bw3 g6 hO3
  unfold rbV
  go_upto_region 4 with fail
  rw [← HW3.out, ← HR6.out]
  go_wp2_with fail
  refine FK.out.mono ?_
  rintro e w4 ⟨O4, f, G4, rfl, l1, l2, c4, o4, b4, low4⟩
  have SH := hid (shows_calls l2 (by have := HI.out; omega))
  unfold rbV at SH
  obtain ⟨x0, x1, x2, x3⟩ := c4.cells4
  have xl := c4.lt
  have L1 := hid l1
  have L2 := hid l2
  have C4 := hid c4
  have O4' := hid o4
  have B4 := hid b4
  have LOW4 := hid low4
  clear l1 l2 c4 o4 b4 low4 FK
  go_wp2_with fail
  refine SH.out.mono ?_
  rintro e w5 ⟨rfl, hb5⟩
  have C5 := C4.out.below hb5 C4.out.lt
  obtain ⟨w6, hw6⟩ : ∃ w6, w6 = w5.alloc (.cells #[.slice pB nB capB, .int .i64 x.nums, .int .i64 x.turn, .int .i64 x.paid] 49) := ⟨_, rfl⟩
  have b6 : Below w5.heap.size w5 w6 := by rw [hw6]; exact (Below.refl _ _).alloc (Nat.le_refl _) _
  have b56 : Below w4.heap.size w4 w6 := hb5.trans (b6.mono hb5.size)
  obtain ⟨r8, hr8⟩ : ∃ r8, r8 = w5.heap.size := ⟨_, rfl⟩
  have T0 := hid (show TwoC w w6 6 f r8 (grow O4 w4 0) G4 N last (.slice pB nB capB) x i 0 b r6 G N last (.slice pB nB capB) x i from
    ⟨L2.out.grow b56, L1.out.grow b56, by omega, by rw [hw6, hr8]; exact Cells.new _ _ _, by rw [hr8]; exact grow_new hb5.size, by rw [hr8]; exact Nat.le_trans B4.out.size hb5.size, C5.below b6 C5.lt, by rw [grow_old C4.out.lt]; exact O4'.out, by have := C5.lt; omega, B4.out.trans (b56.mono B4.out.size), fun k hk => by rw [grow_old (Nat.lt_of_lt_of_le hk B4.out.size)]; exact LOW4.out k hk⟩)
  obtain ⟨x0, x1, x2, x3⟩ := C5.cells4
  have xl := C5.lt
  have HW6 := hid hw6
  have HR8 := hid hr8
  obtain ⟨O6, hO6⟩ : ∃ O6, O6 = grow O4 w4 0 := ⟨_, rfl⟩
  rw [← hO6] at T0
  clear hb5 C5 hw6 b6 b56 hr8 hO6 SH
  go_upto_block 0 with fail
  rw [← HW6.out, ← HR8.out]
  go_cut [9] (fun s9 wx => s9 = .bool true ∧ ∃ O G4 N4 last4 v4 x4 i4, i4 ≤ i + 12 ∧ TwoC w wx 6 f r8 O G4 N4 last4 v4 x4 i4 0 b r6 G N last (.slice pB nB capB) x i)
  case first =>
    go_wp2_with fail
    go_loopg [9, 10] 12 (fun k s9 s10 wr => ∃ (j : Nat) (O : Nat → Nat) (G4 : Mm) (N4 : Nat) (last4 : Int) (v4 : Value) (x4 : Rb), j + k = 12 ∧ s10 = .int .i64 j ∧ s9 = .bool true ∧ TwoC w wr 6 f r8 O G4 N4 last4 v4 x4 (i + j) 0 b r6 G N last (.slice pB nB capB) x i)
    case atStart => exact ⟨0, _, _, _, _, _, _, by omega, rfl, rfl, T0.out⟩
    case round =>
      obtain ⟨j, O, G4, N4, last4, v4, x4, hjk, rfl, rfl, kp⟩ := hrel
      have KP := hid kp
      have HJK := hid hjk
      have hi40 : i ≤ 40 := HI.out
      clear kp hjk T0
      by_cases hj : j < n
      · by_cases h12 : j < 12
        · have hil : j < more.length := by rw [← HN.out]; exact hj
          have g1 : decide ((j : Int) < (n : Int)) = true := by simpa using hj
          have g2 : decide ((j : Int) < 12) = true := by simp; omega
          obtain ⟨hpp, hbl⟩ := HP.out (by omega)
          subst hpp
          obtain ⟨a, ha⟩ : ∃ a, a = more[j] := ⟨_, rfl⟩
          have key : ∀ t, t < 13 → wr.cell? ⟨ba, off + j * 13 + t, none⟩ = (encA a)[t]? := fun t ht => by rw [ha]; exact (KP.out.below.cell (p := ⟨ba, off + j * 13 + t, none⟩) hbl).trans (HC.out j hil t ht)
          have AOK := hid (HOK.out a (by rw [ha]; exact List.getElem_mem hil))
          have hbr := Nat.lt_of_lt_of_le hbl KP.out.below.size
          have c0 : wr.cell? ⟨ba, off + j * 13, none⟩ = some (.int .i64 a.k) := key 0 (by omega)
          have c1 : wr.cell? ⟨ba, off + j * 13 + 1, none⟩ = some (.int .i64 a.o.m) := key 1 (by omega)
          have c2 : wr.cell? ⟨ba, off + j * 13 + 2, none⟩ = some (.int .i64 a.o.s) := key 2 (by omega)
          have c3 : wr.cell? ⟨ba, off + j * 13 + 3, none⟩ = some (.int .i64 a.o.k) := key 3 (by omega)
          have c4 : wr.cell? ⟨ba, off + j * 13 + 4, none⟩ = some (.int .i64 a.o.f) := key 4 (by omega)
          have c5 : wr.cell? ⟨ba, off + j * 13 + 5, none⟩ = some (.int .i64 a.o.p) := key 5 (by omega)
          have c6 : wr.cell? ⟨ba, off + j * 13 + 6, none⟩ = some (.int .i64 a.o.t) := key 6 (by omega)
          have c7 : wr.cell? ⟨ba, off + j * 13 + 7, none⟩ = some (.int .i64 a.o.q) := key 7 (by omega)
          have c8 : wr.cell? ⟨ba, off + j * 13 + 8, none⟩ = some (.int .i64 a.o.pk) := key 8 (by omega)
          have c9 : wr.cell? ⟨ba, off + j * 13 + 9, none⟩ = some (.int .i64 a.n) := key 9 (by omega)
          have c10 : wr.cell? ⟨ba, off + j * 13 + 10, none⟩ = some (.int .i64 a.m) := key 10 (by omega)
          have c11 : wr.cell? ⟨ba, off + j * 13 + 11, none⟩ = some (.int .i64 a.p) := key 11 (by omega)
          have c12 : wr.cell? ⟨ba, off + j * 13 + 12, none⟩ = some (.int .i64 a.q) := key 12 (by omega)
          have DQ := hid (do_t KP.out (by omega) a AOK.out)
          obtain ⟨p9, cap9, g9, rfl, _, _⟩ := KP.out.lk.row.rows
          obtain ⟨n9, hn9⟩ : ∃ n9, n9 = x4.L.length := ⟨_, rfl⟩
          rw [← hn9] at DQ KP
          obtain ⟨x0, x1, x2, x3⟩ := KP.out.c.cells4
          have xl := KP.out.c.lt
          unfold rbV encA at DQ
          clear key ha hn9
          go_upto_region 11 with fail
          go_region_with (first | (go_at_call 32; (with_reducible refine DQ.out.mono ?_); rintro e w6 ⟨p', cap', n', nu, tu, pa, rfl, ⟨u0, y0⟩, ⟨u1, y1⟩, ⟨u2, y2⟩, ⟨u3, y3⟩, yf0, yf1, yf2, yf3, yl, rn⟩; have RN := hid rn; clear rn))
          all_goals (
            obtain ⟨O9, G9, N9, last9, x9, rn2⟩ := RN.out
            have RN2 := hid rn2
            clear rn2 RN y0 y1 y2 y3 yf0 yf1 yf2 yf3 yl x0 x1 x2 x3 xl c0 c1 c2 c3 c4 c5 c6 c7 c8 c9 c10 c11 c12
            go_wp2
            go_roundg (12 - (j + 1))
            · exact ⟨j + 1, O9, G9, N9, last9, _, _, by omega, by go_num, rfl, RN2.out⟩
            · have := HJK.out; omega)
        · have g1 : decide ((j : Int) < (n : Int)) = true := by simpa using hj
          have g2 : decide ((j : Int) < 12) = false := by simp; omega
          go_wp2
          go_meet
          exact ⟨rfl, O, G4, N4, last4, v4, x4, i + j, by have := HJK.out; omega, KP.out⟩
      · have g1 : decide ((j : Int) < (n : Int)) = false := by simpa using hj
        go_wp2
        go_meet
        exact ⟨rfl, O, G4, N4, last4, v4, x4, i + j, by have := HJK.out; omega, KP.out⟩
  case rest =>
    obtain ⟨rfl, O7, G7, N7, last7, v7, y, i7, hi7, tw⟩ := hcut
    have TW := hid tw
    have HI7 := hid hi7
    obtain ⟨p7, cap7, _, rfl, _, _⟩ := tw.lk.row.rows
    obtain ⟨n7, hn7⟩ : ∃ n7, n7 = y.L.length := ⟨_, rfl⟩
    rw [← hn7] at TW tw
    have HN7 := hid hn7
    have SF := hid (shows_calls tw.lk (by have := HI.out; omega))
    unfold rbV at SF
    obtain ⟨x0, x1, x2, x3⟩ := tw.c.cells4
    have xl := tw.c.lt
    clear tw hi7 hn7 T0
    go_wp2_with fail
    refine SF.out.mono ?_
    rintro e w8 ⟨rfl, hb8⟩
    have T8 := hid (TW.out.after hb8)
    have SB := hid (shows_calls T8.out.lk2 (by have := HI.out; omega))
    unfold rbV at SB
    obtain ⟨x0, x1, x2, x3⟩ := T8.out.c2.cells4
    have xl := T8.out.c2.lt
    clear hb8 SF
    go_wp2_with fail
    refine SB.out.mono ?_
    rintro e w9 ⟨rfl, hb9⟩
    have T9 := hid (T8.out.after hb9)
    obtain ⟨x0, x1, x2, x3⟩ := T9.out.c2.cells4
    have xl := T9.out.c2.lt
    obtain ⟨w10, hw10⟩ : ∃ w10, w10 = w9.alloc (.cells #[.slice pB nB capB, .int .i64 x.nums, .int .i64 x.turn, .int .i64 x.paid] 49) := ⟨_, rfl⟩
    obtain ⟨O10, t10⟩ := T9.out.box hw10
    have T10 := hid t10
    obtain ⟨r11, hr11⟩ : ∃ r11, r11 = w9.heap.size := ⟨_, rfl⟩
    rw [← hr11] at T10
    have HW10 := hid hw10
    have HR11 := hid hr11
    clear hb9 SB t10 hw10 hr11
    have en : IntKind.i64.wrap ((n : Int) - 1) = (n : Int) - 1 := IntWalk.i64_in _ (by omega)
    have en10 : IntKind.i64.wrap ((n : Int) - 10) = (n : Int) - 10 := IntWalk.i64_in _ (by omega)
    go_wp2_with fail
    rw [← HW10.out, ← HR11.out]
    go_loopg [9, 12] 10 (fun k s9 s12 wr => ∃ (z : Int) (a : Nat) (O : Nat → Nat) (G4 : Mm) (N4 : Nat) (last4 : Int) (v4 : Value) (x4 : Rb), s12 = .int .i64 z ∧ s9 = .bool true ∧ z = (n : Int) - 1 - a ∧ a ≤ 9 ∧ a ≤ n ∧ k = 10 - a ∧ TwoC w wr 0 b r11 O G4 N4 last4 v4 x4 (i + a) 6 f r8 G7 N7 last7 (.slice p7 n7 cap7) y i7)
    case atStart => exact ⟨(n : Int) - 1, 0, _, _, _, _, _, _, by go_num, rfl, by omega, by omega, by omega, rfl, T10.out⟩
    case round =>
      obtain ⟨z, a, O, G4, N4, last4, v4, x4, rfl, rfl, hz, ha9, han, hk, kp⟩ := hrel
      have KP := hid kp
      have HK := hid hk
      have hi40 : i ≤ 40 := HI.out
      clear kp hk T10
      by_cases hgo : a < n ∧ a < 9
      · obtain ⟨j, hj⟩ : ∃ j : Nat, z = (j : Int) := ⟨n - 1 - a, by omega⟩
        subst hj
        have hjn : j < n := by omega
        have hil : j < more.length := by rw [← HN.out]; exact hjn
        have g0 : decide ((0 : Int) ≤ (j : Int)) = true := by simp
        have g1 : decide ((n : Int) - 10 < (j : Int)) = true := by simp; omega
        have gj : (j : Int) < (n : Int) := by omega
        have ej : IntKind.i64.wrap ((j : Int) - 1) = (j : Int) - 1 := IntWalk.i64_in _ (by omega)
        have HZ := hid hz
        have ha1 : a + 1 ≤ 9 := by omega
        have ha2 : a + 1 ≤ n := by omega
        have ia : i + a ≤ 90 := by omega
        clear hz hgo hjn
        obtain ⟨hpp, hbl⟩ := HP.out (by omega)
        subst hpp
        obtain ⟨ac, ha⟩ : ∃ ac, ac = more[j] := ⟨_, rfl⟩
        have key : ∀ t, t < 13 → wr.cell? ⟨ba, off + j * 13 + t, none⟩ = (encA ac)[t]? := fun t ht => by rw [ha]; exact (KP.out.below.cell (p := ⟨ba, off + j * 13 + t, none⟩) hbl).trans (HC.out j hil t ht)
        have AOK := hid (HOK.out ac (by rw [ha]; exact List.getElem_mem hil))
        have hbr := Nat.lt_of_lt_of_le hbl KP.out.below.size
        have c0 : wr.cell? ⟨ba, off + j * 13, none⟩ = some (.int .i64 ac.k) := key 0 (by omega)
        have c1 : wr.cell? ⟨ba, off + j * 13 + 1, none⟩ = some (.int .i64 ac.o.m) := key 1 (by omega)
        have c2 : wr.cell? ⟨ba, off + j * 13 + 2, none⟩ = some (.int .i64 ac.o.s) := key 2 (by omega)
        have c3 : wr.cell? ⟨ba, off + j * 13 + 3, none⟩ = some (.int .i64 ac.o.k) := key 3 (by omega)
        have c4 : wr.cell? ⟨ba, off + j * 13 + 4, none⟩ = some (.int .i64 ac.o.f) := key 4 (by omega)
        have c5 : wr.cell? ⟨ba, off + j * 13 + 5, none⟩ = some (.int .i64 ac.o.p) := key 5 (by omega)
        have c6 : wr.cell? ⟨ba, off + j * 13 + 6, none⟩ = some (.int .i64 ac.o.t) := key 6 (by omega)
        have c7 : wr.cell? ⟨ba, off + j * 13 + 7, none⟩ = some (.int .i64 ac.o.q) := key 7 (by omega)
        have c8 : wr.cell? ⟨ba, off + j * 13 + 8, none⟩ = some (.int .i64 ac.o.pk) := key 8 (by omega)
        have c9 : wr.cell? ⟨ba, off + j * 13 + 9, none⟩ = some (.int .i64 ac.n) := key 9 (by omega)
        have c10 : wr.cell? ⟨ba, off + j * 13 + 10, none⟩ = some (.int .i64 ac.m) := key 10 (by omega)
        have c11 : wr.cell? ⟨ba, off + j * 13 + 11, none⟩ = some (.int .i64 ac.p) := key 11 (by omega)
        have c12 : wr.cell? ⟨ba, off + j * 13 + 12, none⟩ = some (.int .i64 ac.q) := key 12 (by omega)
        have DQ := hid (do_t KP.out ia ac AOK.out)
        obtain ⟨p9, cap9, g9, rfl, _, _⟩ := KP.out.lk.row.rows
        obtain ⟨n9, hn9⟩ : ∃ n9, n9 = x4.L.length := ⟨_, rfl⟩
        rw [← hn9] at DQ KP
        obtain ⟨x0, x1, x2, x3⟩ := KP.out.c.cells4
        have xl := KP.out.c.lt
        unfold rbV encA at DQ
        clear key ha hn9
        go_upto_region 18 with fail
        go_region_with (first | (go_at_call 32; (with_reducible refine DQ.out.mono ?_); rintro e w6 ⟨p', cap', n', nu, tu, pa, rfl, ⟨u0, y0⟩, ⟨u1, y1⟩, ⟨u2, y2⟩, ⟨u3, y3⟩, yf0, yf1, yf2, yf3, yl, rn⟩; have RN := hid rn; clear rn))
        all_goals (
          obtain ⟨O9, G9, N9, last9, x9, rn2⟩ := RN.out
          have RN2 := hid rn2
          clear rn2 RN y0 y1 y2 y3 yf0 yf1 yf2 yf3 yl x0 x1 x2 x3 xl c0 c1 c2 c3 c4 c5 c6 c7 c8 c9 c10 c11 c12
          go_wp2
          go_roundg (10 - (a + 1))
          · exact ⟨(j : Int) - 1, a + 1, O9, G9, N9, last9, _, x9, by go_num, rfl, by have := HZ.out; omega, ha1, ha2, rfl, RN2.out⟩
          · have := HK.out; omega)
      · have hcase : decide ((0 : Int) ≤ z) = false ∨ (decide ((0 : Int) ≤ z) = true ∧ decide ((n : Int) - 10 < z) = false) := by
          by_cases h0 : a = n
          · exact .inl (by simp; omega)
          · exact .inr ⟨by simp; omega, by simp; omega⟩
        rcases hcase with g0 | ⟨g0, g1⟩
        all_goals (
          have SZ := hid (shows_calls KP.out.lk (by omega))
          obtain ⟨p9, cap9, g9, rfl, _, _⟩ := KP.out.lk.row.rows
          obtain ⟨n9, hn9⟩ : ∃ n9, n9 = x4.L.length := ⟨_, rfl⟩
          rw [← hn9] at KP SZ
          obtain ⟨x0, x1, x2, x3⟩ := KP.out.c.cells4
          have xl := KP.out.c.lt
          unfold rbV at SZ
          have HN9 := hid hn9
          clear hn9 hz han hgo ha9
          go_wp2_with fail
          refine SZ.out.mono ?_
          rintro e w11 ⟨rfl, hb11⟩
          have T11 := hid (KP.out.after hb11)
          have SF2 := hid (shows_calls T11.out.lk2 (by have := HI7.out; omega))
          unfold rbV at SF2
          obtain ⟨x0, x1, x2, x3⟩ := T11.out.c2.cells4
          have xl := T11.out.c2.lt
          clear hb11 SZ
          go_wp2_with fail
          refine SF2.out.mono ?_
          rintro e w12 ⟨rfl, hb12⟩
          have T12 := hid (T11.out.after hb12)
          clear hb12 SF2 x0 x1 x2 x3 xl
          go_wp2_with fail
          refine (AW.out _).mono ?_
          rintro e w13 ⟨rfl, hb13⟩
          have FN := hid (FIN.out w13 (T12.out.after hb13).below)
          go_wp2
          first | exact FN.out | (go_ret; exact FN.out))
end Go.Proofs.Ytdjhpldiifdifaa
namespace Go.Proofs.Ytdjhpldiifdifaa.boardForks
set_option linter.unusedSimpArgs false
set_option linter.unusedVariables false
open Go.RowKit Go.ChangeShapes Go.WideShapes

set_option maxRecDepth 100000 in
theorem boardForks_walk {H : Type} {enc : TypeId × Value → H} (W : World) (args : Array Value) (ds : List (DataW H)) (p : List MemPlace) {base : Nat}
    (hval : ∀ (j : Nat) t v, (#[22, 22] : Array TypeId)[j]? = some t → args[j]? = some v → Value.okWide Try.prog W .any base t v)
    (hA : DataW.TrodAll enc Try.prog W 0 (fun _ => true) true [22, 22] args.toList ds p) : Calls Try.prog 12 args W fun e w' => e = .returned (.bool true) ∧ Below W.heap.size W w' := by
  obtain ⟨v0, vs0, d0, ds0, p0, q0, hargs, rfl, rfl, h0, r0⟩ := trodAll_cons hA
  obtain ⟨v1, vs1, d1, ds1, p1, q1, rfl, rfl, rfl, h1, r1⟩ := trodAll_cons r0
  obtain ⟨rfl, rfl, rfl⟩ := trodAll_nil r1
  obtain rfl : args = #[v0, v1] := by cases args; simp_all
  obtain ⟨l0, hl0, hok0⟩ := acts_open (hval 0 _ v0 rfl rfl) h0
  obtain ⟨l1, hl1, hok1⟩ := acts_open (hval 1 _ v1 rfl rfl) h1
  exact forks_calls W v0 l0 hl0 hok0 v1 l1 hl1 hok1
end Go.Proofs.Ytdjhpldiifdifaa.boardForks
namespace Go.Proofs.Ytdjhpldiifdifaa.boardForks
set_option linter.unusedSimpArgs false
set_option linter.unusedVariables false
open Go.ChangeShapes Go.WideShapes Go.ChangeAt Go.RowKit

theorem own : ownKnob Try.prog.godebug = none := by kernel_rfl
theorem laidOut : laidOutB Try.prog = true := by kernel_rfl
theorem readable : ∀ t ∈ [22, 22], Try.prog.readableRec t = true ∧ t < Try.prog.types.size := by
  intro t ht
  simp only [List.mem_cons, List.mem_nil_iff, or_false] at ht
  rcases ht with rfl | rfl <;> exact ⟨by kernel_rfl, of_decide_eq_true (by kernel_rfl)⟩

set_option maxRecDepth 100000 in
theorem lifted (os : Os) (started : os.Started) (H : Type) (enc : TypeId × Value → H) :
    ReturnsInHanded {} Try.checked os 12 .any (Rows.boardForksSpec.pre6 enc Try.prog Try.f12 Rows.boardForksRow.domain false) (Rows.boardForksSpec.post enc Try.prog Try.f12 false true false false) := by
  refine returnsInHanded_of_change (C := Try.checked) own started (by kernel_rfl) Try.func12
    (ChangeSpec.witness6 (enc := enc) (C := Try.checked) false ⟨#[], #[.slice none 0 0, .slice none 0 0], []⟩ 8 (by kernel_rfl) (by kernel_rfl) (by kernel_rfl) (by kernel_rfl)) ?_
  intro W base args ds gs before hval0 hW hcnd _
  have hval : ∀ (j : Nat) t v, Try.f12.params[j]? = some t → args[j]? = some v → Value.okWide Try.prog W .any base t v := hval0
  have hW' := hW
  obtain ⟨p, q, hA0, hV, rfl, hfz, hnd⟩ := hW
  have hA : DataW.TrodAll enc Try.prog W 0 (fun _ => true) true Try.f12.params.toList args.toList ds p := hA0
  rw [Try.params12] at hA hval
  obtain ⟨rfl, rfl⟩ := trodVars_none hV
  clear hA0 hval0
  simp only [List.append_nil] at hW'
  have hlt : ∀ x ∈ p, x.block < W.heap.size := fun x hx => hW'.lt x hx
  refine (boardForks_walk W args ds p (base := base) hval hA).mono fun e W' ⟨he, hg⟩ => ?_
  subst he
  have hst := fun sp hs => trodAll_stays laidOut hg [22, 22] args.toList ds p readable hA hlt sp hs
  obtain ⟨v0, vs0, d0, ds0, p0, q0, hargs, rfl, rfl, h0, r0⟩ := trodAll_cons hA
  obtain ⟨v1, vs1, d1, ds1, p1, q1, rfl, rfl, rfl, h1, r1⟩ := trodAll_cons r0
  obtain ⟨rfl, rfl, rfl⟩ := trodAll_nil r1
  exact ⟨_, rfl, post_of_below (pv := []) hW' (fun _ _ _ => (trodAll_cons_mk (shut_bool Try.underlying4 _) trodAll_mk0)) (fun sp hs => hst sp hs) (fun _ _ => rfl) (by simp)
    hg (ok_one (by kernel_rfl) rfl (okWide_bool_mk Try.underlying4 _))⟩

theorem over : Rows.boardForksRow.holds Try.pinned (OpenSpec.ofChange Rows.boardForksSpec) :=
  OpenClaim.holds_of_wide 12 Try.f12 rfl rfl rfl rfl rfl rfl rfl ⟨rfl, rfl, rfl, rfl, rfl⟩ rfl rfl rfl rfl rfl (by kernel_rfl) Try.func12 (by kernel_rfl)
    (of_decide_eq_true (by kernel_rfl)) (by unfold Func.isWrapper; first | (rw [if_pos (by decide +kernel)]; kernel_rfl) | (rw [if_neg (by decide +kernel)]; exact ⟨rfl, rfl⟩))
    (fun os started H enc _ => lifted os started H enc)

/-- The statement. -/
theorem proved : Rows.BoardForksSaid := over
#print axioms proved
end Go.Proofs.Ytdjhpldiifdifaa.boardForks
