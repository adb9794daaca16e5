/- The law's small functions: hall. awake: what a program must do whatever the input is. BidHalls: the walk. -/
import Derived.Test.YtojednnciknhpaaDoorJTb
import Derived.Test.YtojednnciknhpaaDoorJRowx
import Derived.Test.YtojednnciknhpaaDoorJBm
namespace Go.Proofs.YtojednnciknhpaaDoor
set_option linter.unusedSimpArgs false
set_option linter.unusedVariables false
open Go.RowKit
attribute [local go_sem] Oper.semAt_some
attribute [local go_sem ↓] Go.wp_at_zero Go.wp_at_succ
abbrev TabI (B : Nat) (w : World) (v : Value) (L : List (List Int)) : Prop := OwnT encI 1 22 2 B w v L
/-- The first elements of a slice. -/
def cutV (c : Nat) : Value → Value
  | .slice p n cp => .slice p (min n c) cp
  | x => x
/-- A part of a row comes behind an empty one. -/
theorem part_app {w : World} {u : Value} {l : List Int} (h : ArgE encI 1 w u l) (c : Nat) (hc : c ≤ 5000) : ∃ v' w', (Builtin.append_ #[22, 22] 22 #[.slice none 0 0, cutV c u]).run Tryd.prog w = .ok v' w' ∧ RowI w.heap.size w' v' (l.take c) ∧ Below w.heap.size w w' := by
  have hs := h.src encI_len (by omega)
  have h2 : SrcX encI 1 w (cutV c u) (l.take c) := by
    rcases h.form with rfl | ⟨a, n, cp, rfl, h1, h2⟩
    · refine .inl ⟨by simp [cutV], ?_⟩
      rcases hs with ⟨_, q⟩ | ⟨a, c, q, _⟩
      · rw [q]; simp
      · cases q
    · have hl : n = l.length := by
        rcases hs with ⟨q, _⟩ | ⟨a', c', q, _⟩
        · cases q
        · injection q
      have e : l.take c = l.take (min n c) := by
        rw [hl]
        rcases Nat.le_total l.length c with q | q
        · rw [Nat.min_eq_left q, List.take_length, List.take_of_length_le q]
        · rw [Nat.min_eq_right q]
      rw [e]
      exact hs.take encI_len (Nat.min_le_left _ _)
  have hl : (l.take c).length ≤ 5000 := by rw [List.length_take]; omega
  obtain ⟨v', w', r1, r2, r3⟩ := own_app (ty := 22) undI infoI rfl (by omega) encI_len encI_one (OwnE.nil w.heap.size w) (Nat.le_refl _) h2 (by unfold maxLen; simp; omega) (by simp; omega)
  exact ⟨v', w', r1, by simpa using r2, r3.below (Nat.le_refl _) (fun k hk => by cases hk)⟩

set_option maxRecDepth 100000 in
set_option maxHeartbeats 8000000 in
theorem hallC_calls {w : World} {v : Value} {L : List (List Int)} (h : NestA encI 1 w v L) (r c : Nat) (hr : r ≤ 5000) (hc : c ≤ 5000) :
    Calls Tryd.prog 51 #[v, .int .i64 r, .int .i64 c] w fun e w' => ∃ v', e = .returned v' ∧ TabI w.heap.size w' v' ((L.take r).map (·.take c)) ∧ Below w.heap.size w w' := by
  obtain ⟨R, hR⟩ : ∃ R : Ending → World → Prop, R = fun e w' => ∃ v', e = .returned v' ∧ TabI w.heap.size w' v' ((L.take r).map (·.take c)) ∧ Below w.heap.size w w' := ⟨_, rfl⟩
  rw [← hR]
  have FN := hid (show ∀ v' w', TabI w.heap.size w' v' ((L.take r).map (·.take c)) → Below w.heap.size w w' → R (.returned v') w' from fun v' w' a b => by rw [hR]; exact ⟨v', rfl, a, b⟩)
  clear hR
  obtain ⟨p, cap, rfl, hrow⟩ := h.open_
  have HROW := hid hrow
  obtain ⟨n, hn⟩ : ∃ n, n = L.length := ⟨_, rfl⟩
  have HN := hid hn
  obtain ⟨m, hm⟩ : ∃ m, m = min n r := ⟨_, rfl⟩
  have HM := hid hm
  have hm1 : m ≤ n := by omega
  have hm2 : m ≤ r := by omega
  have c0 : (0 : Int) ≤ (c : Int) := by omega
  rw [← hn]
  clear h hrow hn hm
  go_enter Tryd.func51, Tryd.ntmps51
  go_upto_region 3 with fail
  go_loopg [7, 8] m (fun k s7 s8 wr => ∃ (i : Nat) (b7 : Value), i + k = m ∧ s8 = .int .i64 i ∧ b7 = s7 ∧ TabI w.heap.size wr b7 ((L.take i).map (·.take c)) ∧ Below w.heap.size w wr)
  case atStart => exact ⟨0, _, by omega, rfl, rfl, OwnT.nil _ _, Below.refl _ _⟩
  case round =>
    obtain ⟨i, b7, hik, rfl, rfl, ht, hb⟩ := hrel
    have HIK := hid hik
    have T := hid ht
    have B := hid hb
    obtain ⟨p7, c7, hv7⟩ := ht.form
    clear hik ht hb
    by_cases him : i < m
    · have hil : i < L.length := by rw [← HN.out]; omega
      obtain ⟨bb, off, u, rfl, hu, hcu⟩ := HROW.out i hil
      have cu := hcu wr B.out
      have gi : (i : Int) < (n : Int) := by omega
      have gi0 : (0 : Int) ≤ (i : Int) := by omega
      have gr : (i : Int) < (r : Int) := by omega
      obtain ⟨v', w', r1, r2, r3⟩ := part_app ((hu.below B.out).below (Below.refl wr.heap.size wr).drew) c hc
      obtain ⟨pv, cv, hv', _⟩ := r2.form
      obtain ⟨nv, hnv⟩ : ∃ nv, nv = (L[i].take c).length := ⟨_, rfl⟩
      rw [← hnv] at hv'
      subst hv'
      rw [show ((L.take i).map (·.take c)).length = i by simp; omega] at hv7
      subst hv7
      have R1 := hid r1
      have R2 := hid r2
      have R3 := hid r3
      clear hnv
      have A8 := hid ((T.out.below (Below.refl wr.heap.size wr).drew).below R3.out)
      obtain ⟨v8, w8, q1, q2, q3⟩ := OwnT.app (t := 42) (ty := 42) (by decide) undII infoII (by omega) A8.out (by have := B.out.size; have := R3.out.size; simp at this ⊢; omega) (OwnE.mono R2.out (by have := B.out.size; simp; omega)) (by simp; omega)
      have Q1 := hid q1
      have Q2 := hid (show TabI w.heap.size w8 v8 ((L.take (i + 1)).map (·.take c)) by rw [List.take_succ_eq_append_getElem hil, List.map_append]; exact q2)
      have Q3 := hid (show Below w.heap.size w w8 from (B.out.trans (((Below.refl wr.heap.size wr).drew.trans R3.out).mono B.out.size)).trans (q3.mono (Nat.le_refl _)))
      have RND := hid (show ∃ (i' : Nat) (b7 : Value), i' + (m - (i + 1)) = m ∧ Value.int .i64 ((i + 1 : Nat) : Int) = .int .i64 i' ∧ b7 = v8 ∧ TabI w.heap.size w8 b7 ((L.take i').map (·.take c)) ∧ Below w.heap.size w w8 from ⟨i + 1, _, by omega, rfl, rfl, Q2.out, Q3.out⟩)
      rcases hu.form with rfl | ⟨a, nu, cp, rfl, f1, f2⟩
      · have ek : min (0 : Int) (c : Int) = 0 := by omega
        rw [cutV, Nat.zero_min] at R1
        clear hcu hu r1 r2 r3 q1 q2 q3
        go_upto_region 6 with fail
        refine region_tail 13 (by kernel_rfl) (by kernel_rfl) ?_
        simp only [List.take_succ_cons, List.take_zero, List.drop_succ_cons, List.drop_zero]
        repeat still_step
        refine wpStill_nil ?_
        refine wpList_append_run rfl (.tmp 21) (.tmp 33) 22 rfl _ _ _ w' rfl rfl R1.out ?_
        go_wp2_with (at_builtin; refine wpList_append_run rfl (.tmp 35) (.tmp 37) 42 rfl _ _ v8 w8 rfl rfl Q1.out ?_)
        go_roundg (m - (i + 1))
        · obtain ⟨i', b7, a1, a2, a3, a4, a5⟩ := RND.out
          exact ⟨i', b7, a1, by rw [← a2]; go_num, a3, a4, a5⟩
        · have := HIK.out; omega
      · obtain ⟨k, hk⟩ : ∃ k, k = min nu c := ⟨_, rfl⟩
        have ek : min (nu : Int) (c : Int) = (k : Int) := by omega
        have k1 : (k : Int) ≤ (cp : Int) := by omega
        have k0 : (0 : Int) ≤ (k : Int) := by omega
        rw [cutV, ← hk] at R1
        clear hcu hu r1 r2 r3 q1 q2 q3 hk f1 f2
        go_upto_region 6 with fail
        refine region_tail 13 (by kernel_rfl) (by kernel_rfl) ?_
        simp only [List.take_succ_cons, List.take_zero, List.drop_succ_cons, List.drop_zero]
        repeat still_step
        refine wpStill_nil ?_
        refine wpList_append_run rfl (.tmp 21) (.tmp 33) 22 rfl _ _ _ w' rfl rfl R1.out ?_
        go_wp2_with (at_builtin; refine wpList_append_run rfl (.tmp 35) (.tmp 37) 42 rfl _ _ v8 w8 rfl rfl Q1.out ?_)
        go_roundg (m - (i + 1))
        · obtain ⟨i', b7, a1, a2, a3, a4, a5⟩ := RND.out
          exact ⟨i', b7, a1, by rw [← a2]; go_num, a3, a4, a5⟩
        · have := HIK.out; omega
    · obtain rfl : i = m := by have := HIK.out; omega
      have F := hid (FN.out b7 wr (by
        have e : L.take i = L.take r := by
          rcases Nat.le_total n r with q | q
          · rw [List.take_of_length_le (by rw [← HN.out]; have := HM.out; omega), List.take_of_length_le (by rw [← HN.out]; exact q)]
          · rw [show i = r by have := HM.out; omega]
        rw [← e]; exact T.out) B.out)
      by_cases hin : i < n
      · have hir : i = r := by have := HM.out; omega
        subst hir
        have g1 : decide ((i : Int) < (i : Int)) = false := by simp
        have g2 : (i : Int) < (n : Int) := by omega
        clear hm1 hm2 him
        go_wp2
        first | exact F.out | (go_ret; exact F.out)
      · obtain rfl : i = n := by omega
        have g1 : decide ((i : Int) < (i : Int)) = false := by simp
        clear hm1 hm2 him hin
        go_wp2
        first | exact F.out | (go_ret; exact F.out)
end Go.Proofs.YtojednnciknhpaaDoor
namespace Go.Proofs.YtojednnciknhpaaDoor
set_option linter.unusedSimpArgs false
set_option linter.unusedVariables false
open Go.RowKit
attribute [local go_sem] Oper.semAt_some
attribute [local go_sem ↓] Go.wp_at_zero Go.wp_at_succ
def al5 (w : World) (c1 c2 c3 c4 c5 : Array Value) (t1 t2 t5 : TypeId) : World := ((((w.alloc (.cells c1 t1)).alloc (.cells c2 t2)).alloc (.cells c3 t2)).alloc (.cells c4 t2)).alloc (.cells c5 t5)
theorem cells_at {w : World} {o : Obj} {B : Nat} {cs : Array Value} {ty : TypeId} (h : Cells w B cs ty) : Cells (w.alloc o) B cs ty := h.alloc o
theorem cells_new' {w : World} {B : Nat} (hB : w.heap.size = B) (cs : Array Value) (ty : TypeId) : Cells (w.alloc (.cells cs ty)) B cs ty := by subst hB; exact Cells.new w cs ty
theorem size_al (w : World) (o : Obj) : (w.alloc o).heap.size = w.heap.size + 1 := by simp
/-- A slice of one offer, of one row .. -/
theorem one_offer {w : World} {B : Nat} {o : Of} {ty : TypeId} (h : Cells w B #[.int .u32 o.lots, .int .i64 o.w] ty) : ReadsE encOf 2 w (.slice (some ⟨B, 0, none⟩) 1 1) [o] := by
  refine ⟨by simp, _, 1, B, 0, rfl, fun _ => ⟨rfl, h.lt⟩, fun k hk j hj => ?_⟩
  have : k = 0 := by simp at hk; omega
  subst this
  rw [h.cell]
  rcases j with _ | _ | j
  · rfl
  · rfl
  · omega
theorem two_ints {w : World} {B : Nat} {a b : Int} {ty : TypeId} (h : Cells w B #[.int .i64 a, .int .i64 b] ty) : ReadsE encI 1 w (.slice (some ⟨B, 0, none⟩) 2 2) [a, b] := by
  refine ⟨by simp, _, 2, B, 0, rfl, fun _ => ⟨rfl, h.lt⟩, fun k hk j hj => ?_⟩
  obtain rfl : j = 0 := by omega
  rw [h.cell]
  rcases k with _ | _ | k
  · rfl
  · rfl
  · simp at hk; omega
theorem awake_au {w : World} {B : Nat} {t1 t2 t5 : TypeId} (h1 : Cells w B #[.int .i64 0, .int .i64 0] t1) (h2 : Cells w (B + 1) #[.int .u32 1, .int .i64 10] t2) (h3 : Cells w (B + 2) #[.int .u32 2, .int .i64 8] t2) (h4 : Cells w (B + 3) #[.int .u32 3, .int .i64 15] t2)
    (h5 : Cells w (B + 4) #[.slice (some ⟨B + 1, 0, none⟩) 1 1, .slice (some ⟨B + 2, 0, none⟩) 1 1, .slice (some ⟨B + 3, 0, none⟩) 1 1] t5) : AuV w (.slice (some ⟨B, 0, none⟩) 2 2) (.slice (some ⟨B + 4, 0, none⟩) 3 3) au0 := by
  refine ⟨two_ints h1, ⟨[.slice (some ⟨B + 1, 0, none⟩) 1 1, .slice (some ⟨B + 2, 0, none⟩) 1 1, .slice (some ⟨B + 3, 0, none⟩) 1 1], ⟨by simp, _, 3, B + 4, 0, rfl, fun _ => ⟨rfl, h5.lt⟩, fun k hk j hj => ?_⟩, rfl, fun k k1 k2 => ?_⟩, fun l hl o ho => ?_⟩
  · obtain rfl : j = 0 := by omega
    rw [h5.cell]
    rcases k with _ | _ | _ | k
    · rfl
    · rfl
    · rfl
    · simp at hk; omega
  · rcases k with _ | _ | _ | k
    · exact one_offer (o := ⟨1, 10⟩) h2
    · exact one_offer (o := ⟨2, 8⟩) h3
    · exact one_offer (o := ⟨3, 15⟩) h4
    · simp at k1; omega
  · simp [au0] at hl
    rcases hl with rfl | rfl | rfl <;> (simp at ho; subst ho; decide)
theorem awake_hall {w : World} {B : Nat} {t1 t3 : TypeId} (h1 : Cells w B #[.int .i64 5, .int .i64 3] t1) (h2 : Cells w (B + 1) #[.int .i64 4, .int .i64 0] t1) (h3 : Cells w (B + 2) #[.slice (some ⟨B, 0, none⟩) 2 2, .slice (some ⟨B + 1, 0, none⟩) 2 2] t3) : NestE encI 1 w (.slice (some ⟨B + 2, 0, none⟩) 2 2) [[5, 3], [4, 0]] := by
  refine ⟨[.slice (some ⟨B, 0, none⟩) 2 2, .slice (some ⟨B + 1, 0, none⟩) 2 2], ⟨by simp, _, 2, B + 2, 0, rfl, fun _ => ⟨rfl, h3.lt⟩, fun k hk j hj => ?_⟩, rfl, fun k k1 k2 => ?_⟩
  · obtain rfl : j = 0 := by omega
    rw [h3.cell]
    rcases k with _ | _ | k
    · rfl
    · rfl
    · simp at hk; omega
  · rcases k with _ | _ | k
    · exact two_ints h1
    · exact two_ints h2
    · simp at k1; omega
theorem awake_chk : chkH [[5, 3], [4, 0]] = 0 := by decide

set_option maxRecDepth 100000 in
set_option maxHeartbeats 8000000 in
theorem awake_calls {w : World} (hT : TabOk w) : Calls Tryd.prog 23 #[] w fun e w' => e = .returned (.bool true) ∧ Below w.heap.size w w' := by
  obtain ⟨R, hR⟩ : ∃ R : Ending → World → Prop, R = fun e w' => e = .returned (.bool true) ∧ Below w.heap.size w w' := ⟨_, rfl⟩
  rw [← hR]
  have FN := hid (show ∀ w', Below w.heap.size w w' → R (.returned (.bool true)) w' from fun w' h => by rw [hR]; exact ⟨rfl, h⟩)
  clear hR
  have TO := hid hT
  obtain ⟨w1, hw1⟩ : ∃ w1, w1 = ((((w.alloc (.cells #[.int .i64 0, .int .i64 0] 2)).alloc (.cells #[.int .u32 1, .int .i64 10] 54)).alloc (.cells #[.int .u32 2, .int .i64 8] 54)).alloc (.cells #[.int .u32 3, .int .i64 15] 54)).alloc (.cells #[.slice (some ⟨w.heap.size + 1, 0, none⟩) 1 1, .slice (some ⟨w.heap.size + 1 + 1, 0, none⟩) 1 1, .slice (some ⟨w.heap.size + 1 + 1 + 1, 0, none⟩) 1 1] 50) := ⟨_, rfl⟩
  have A1 := hid (show AuV w1 (.slice (some ⟨w.heap.size, 0, none⟩) 2 2) (.slice (some ⟨w.heap.size + 1 + 1 + 1 + 1, 0, none⟩) 3 3) au0 by
    rw [hw1]
    exact awake_au (cells_at (cells_at (cells_at (cells_at (Cells.new w _ _))))) (cells_at (cells_at (cells_at (cells_new' (by simp) _ _)))) (cells_at (cells_at (cells_new' (by simp) _ _))) (cells_at (cells_new' (by simp) _ _)) (cells_new' (by simp) _ _))
  have B1 := hid (show Below w.heap.size w w1 by rw [hw1]; repeat (first | exact Below.refl _ _ | refine Below.alloc ?_ (by simp; try omega) _))
  have S1 := hid (show Calls Tryd.prog 19 #[.agg #[.int .i64 2, .slice (some ⟨w.heap.size, 0, none⟩) 2 2, .slice (some ⟨w.heap.size + 1 + 1 + 1 + 1, 0, none⟩) 3 3]] w1 fun e w' => ∃ gc gp, e = .returned (.tuple #[.agg #[.slice (some ⟨gc, 0, none⟩) 3 3, .int .i64 18, .slice (some ⟨gp, 0, none⟩) 3 3], .int .i64 0]) ∧ w'.cell? ⟨gp, 0, none⟩ = some (.int .i64 7) ∧ Below w1.heap.size w1 w' from
    (solve_calls A1.out au0_chk au0_ok (hT.below B1.out)).mono fun e w' ⟨gc, gp, he, s1, s2, s3, s4, s5⟩ => ⟨gc, gp, by rw [he]; unfold awV; rw [au0_val]; rfl, by rw [s2.cellD (i := 0) (by rw [au0_len]; omega) 0, au0_pay], s5⟩)
  have HW1 := hid hw1
  clear hw1 hT
  go_enter Tryd.func23, Tryd.ntmps23
  go_wp2_with fail
  rw [← HW1.out]
  refine S1.out.mono ?_
  rintro e w2 ⟨gc, gp, rfl, hpy, hb2⟩
  have B2 := hid (B1.out.trans (hb2.mono B1.out.size))
  have hpl := World.block_lt_of_cell? _ _ hpy
  obtain ⟨w3, hw3⟩ : ∃ w3, w3 = w2.alloc (.cells #[.slice (some ⟨gc, 0, none⟩) 3 3, .int .i64 18, .slice (some ⟨gp, 0, none⟩) 3 3] 29) := ⟨_, rfl⟩
  have B3 := hid (show Below w.heap.size w w3 by rw [hw3]; exact B2.out.alloc B2.out.size _)
  have C3 := hid (show Cells w3 w2.heap.size #[.slice (some ⟨gc, 0, none⟩) 3 3, .int .i64 18, .slice (some ⟨gp, 0, none⟩) 3 3] 29 by rw [hw3]; exact Cells.new w2 _ _)
  have P3 := hid (show w3.cell? ⟨gp, 0, none⟩ = some (.int .i64 7) by rw [hw3]; exact (((Below.refl w2.heap.size w2).alloc (Nat.le_refl _) _).cell (p := ⟨gp, 0, none⟩) hpl).trans hpy)
  have HW3 := hid hw3
  obtain ⟨w4, hw4⟩ : ∃ w4, w4 = ((w3.alloc (.cells #[.int .i64 5, .int .i64 3] 2)).alloc (.cells #[.int .i64 4, .int .i64 0] 2)).alloc (.cells #[.slice (some ⟨w2.heap.size + 1, 0, none⟩) 2 2, .slice (some ⟨w2.heap.size + 1 + 1, 0, none⟩) 2 2] 22) := ⟨_, rfl⟩
  have hs3 : w3.heap.size = w2.heap.size + 1 := by rw [hw3]; simp
  have N4 := hid (show NestE encI 1 w4 (.slice (some ⟨w2.heap.size + 1 + 1 + 1, 0, none⟩) 2 2) [[5, 3], [4, 0]] by
    rw [hw4]
    exact awake_hall (cells_at (cells_at (cells_new' hs3 _ _))) (cells_at (cells_new' (by simp [hs3]) _ _)) (cells_new' (by simp [hs3]) _ _))
  have B34 := hid (show Below w3.heap.size w3 w4 by rw [hw4]; repeat (first | exact Below.refl _ _ | refine Below.alloc ?_ (by simp; try omega) _))
  have S4 := hid (show Calls Tryd.prog 25 #[.slice (some ⟨w2.heap.size + 1 + 1 + 1, 0, none⟩) 2 2] w4 fun e w' => ∃ gl cl gp, e = .returned (.tuple #[.slice (some ⟨gl, 0, none⟩) 2 cl, .slice (some ⟨gp, 0, none⟩) 2 2, .int .i64 0]) ∧ w'.cell? ⟨gl, 0, none⟩ = some (.int .i64 1) ∧ w'.cell? ⟨gp, 0, none⟩ = some (.int .i64 2) ∧ Below w4.heap.size w4 w' from
    (hall_calls N4.out awake_chk hall_awake1).mono fun e w' ⟨vl, gp, he, h1, h2, h3, h4, h5, h6⟩ => by
      rw [hall_awake3] at h1
      obtain ⟨p, cap, b, hv, hp, hc⟩ := OwnE.cells encI_len h1
      obtain ⟨rfl, _, _⟩ := hp (by simp)
      refine ⟨b, cap, gp, by rw [he, hv]; rfl, ?_, ?_, h6⟩
      · have := hc 0 (by simp) 0 (by omega)
        simpa [encI] using this
      · exact h2.cell (i := 0) (by simp))
  have HW4 := hid hw4
  clear hpy hb2 hpl hw3 hw4 S1 hs3
  go_wp2_with fail
  rw [← HW3.out, ← HW4.out]
  refine S4.out.mono ?_
  rintro e w5 ⟨gl, cl, gq, rfl, k1, k2, hb5⟩
  have B35 := hid (B34.out.trans (hb5.mono B34.out.size))
  have C5 := hid (C3.out.below B35.out C3.out.lt)
  have k3 := (B35.out.cell (p := ⟨gp, 0, none⟩) (World.block_lt_of_cell? _ _ P3.out)).trans P3.out
  have k4 : w5.cell? ⟨w2.heap.size, 1, none⟩ = some (.int .i64 18) := by rw [C5.out.cell]; rfl
  have k5 : w5.cell? ⟨w2.heap.size, 2, none⟩ = some (.slice (some ⟨gp, 0, none⟩) 3 3) := by rw [C5.out.cell]; rfl
  have F := hid (FN.out w5 (B3.out.trans (B35.out.mono B3.out.size)))
  clear hb5 S4
  go_wp2
  first | exact F.out | (go_ret; exact F.out)
end Go.Proofs.YtojednnciknhpaaDoor
namespace Go.Proofs.YtojednnciknhpaaDoor
set_option linter.unusedSimpArgs false
set_option linter.unusedVariables false
open Go.RowKit
attribute [local go_sem] Oper.semAt_some
attribute [local go_sem ↓] Go.wp_at_zero Go.wp_at_succ

set_option maxRecDepth 100000 in
set_option maxHeartbeats 8000000 in
theorem halls_law (w : World) (hT : TabOk w) (v : Value) (L0 : List (List Int)) (h : NestA encI 1 w v L0) (_hq : ∀ l ∈ L0, ∀ x ∈ l, -9223372036854775808 ≤ x ∧ x ≤ 9223372036854775807) : Calls Tryd.prog 15 #[v] w fun e w' => e = .returned (.bool true) ∧ Below w.heap.size w w' := by
  have HC := hid (hallC_calls h 65 65 (by omega) (by omega))
  obtain ⟨R, hR⟩ : ∃ R : Ending → World → Prop, R = fun e w' => e = .returned (.bool true) ∧ Below w.heap.size w w' := ⟨_, rfl⟩
  rw [← hR]
  have FN := hid (show ∀ w', Below w.heap.size w w' → R (.returned (.bool true)) w' from fun w' h => by rw [hR]; exact ⟨rfl, h⟩)
  have TO := hid hT
  obtain ⟨L, hL⟩ : ∃ L, L = (L0.take 65).map (·.take 65) := ⟨_, rfl⟩
  rw [← hL] at HC
  have LL := hid (show L.length ≤ 100000 ∧ ∀ l ∈ L, l.length ≤ 100000 by
    rw [hL]
    refine ⟨by simp; omega, fun l hl => ?_⟩
    obtain ⟨x, _, rfl⟩ := List.mem_map.1 hl
    simp; omega)
  clear hR hL hT
  obtain ⟨p, cap, rfl, _⟩ := h.open_
  obtain ⟨n0, hn0⟩ : ∃ n0, n0 = L0.length := ⟨_, rfl⟩
  rw [← hn0] at HC ⊢
  clear h hn0
  go_enter Tryd.func15, Tryd.ntmps15
  go_wp2_with fail
  refine HC.out.mono ?_
  rintro e w1 ⟨v1, rfl, ht, hb1⟩
  have B1 := hid hb1
  have N1 := hid (ht.nest encI_len LL.out.1 LL.out.2)
  obtain ⟨p1, c1, hv1⟩ := ht.form
  obtain ⟨n, hn⟩ : ∃ n, n = L.length := ⟨_, rfl⟩
  rw [← hn] at hv1
  subst hv1
  have RC := hid (rcheckHall_calls N1.out)
  obtain ⟨c, hc⟩ : ∃ c, c = chkH L := ⟨_, rfl⟩
  rw [← hc] at RC
  have HCC := hid hc
  clear hb1 ht hn hc HC
  go_wp2_with fail
  refine RC.out.mono ?_
  rintro e w2 ⟨rfl, hb2⟩
  have B2 := hid (B1.out.trans (hb2.mono B1.out.size))
  have N2 := hid (N1.out.below hb2)
  have PC := hid (checkHall_calls N2.out)
  rw [← HCC.out] at PC
  clear hb2 RC
  go_wp2_with fail
  refine PC.out.mono ?_
  rintro e w3 ⟨rfl, hb3⟩
  have B3 := hid (B2.out.trans (hb3.mono B2.out.size))
  have N3 := hid (N2.out.below hb3)
  have g0 : (c != c) = false := by simp
  have gc : (c == c) = true := by simp
  clear hb3 PC
  by_cases hc0 : c = 0
  · have AW := hid (awake_calls (TO.out.below B3.out))
    subst hc0
    go_wp2_with fail
    refine AW.out.mono ?_
    rintro e w4 ⟨rfl, hb4⟩
    have F := hid (FN.out w4 (B3.out.trans (hb4.mono B3.out.size)))
    clear hb4 AW FN
    go_wp2
    first | exact F.out | (go_ret; exact F.out)
  · have e1 : (c == 0) = false := by simpa using hc0
    have e2 : (c != 0) = true := by simpa using hc0
    have hne : chkH L ≠ 0 := by rw [← HCC.out]; exact hc0
    have HB := hid (hall_bad N3.out hne)
    rw [← HCC.out] at HB
    have HNE := hid hne
    clear hc0 hne
    go_wp2_with fail
    refine HB.out.mono ?_
    rintro e w4 ⟨rfl, hb4⟩
    have B4 := hid (B3.out.trans (hb4.mono B3.out.size))
    have N4 := hid (N3.out.below hb4)
    have CC := hid (content_calls (s := []) (p := []) N4.out (ReadsE.nil _ none 0) (ReadsE.nil _ none 0))
    have ec : contR L [] [] = (-1, false) := by unfold contR; rw [if_neg (fun q => HNE.out q.1)]
    rw [ec] at CC
    clear hb4 HB ec
    go_wp2_with fail
    refine CC.out.mono ?_
    rintro e w5 ⟨rfl, hb5⟩
    have B5 := hid (B4.out.trans (hb5.mono B4.out.size))
    have N5 := hid (N4.out.below hb5)
    have WC := hid (wanted_calls (p := []) 0 N5.out (ReadsE.nil _ none 0))
    have ew : wantedF L [] 0 = ([], c) := by unfold wantedF; rw [if_pos HNE.out, ← HCC.out]
    rw [ew] at WC
    clear hb5 CC ew
    go_wp2_with fail
    refine WC.out.mono ?_
    rintro e w6 ⟨v6, rfl, hr6, hb6⟩
    have B6 := hid (B5.out.trans (hb6.mono B5.out.size))
    have N6 := hid (N5.out.below hb6)
    obtain ⟨p6, c6, hv6, _⟩ := hr6.form
    have hv6' : v6 = .slice p6 0 c6 := hv6
    subst hv6'
    have XC := hid (crowdX_calls (p := []) N6.out (ReadsE.nil _ none 0))
    have ex : crowdR L [] = none := by unfold crowdR; rw [if_neg (fun q => HNE.out q.1)]
    rw [ex] at XC
    clear hb6 WC ex hr6 hv6
    go_wp2_with fail
    refine XC.out.mono ?_
    rintro e w7 ⟨vb, vl, rfl, ⟨rfl, rfl⟩, hb7⟩
    have B7 := hid (B6.out.trans (hb7.mono B6.out.size))
    have AW := hid (awake_calls (TO.out.below B7.out))
    clear hb7 XC
    go_wp2_with fail
    refine AW.out.mono ?_
    rintro e w8 ⟨rfl, hb8⟩
    have F := hid (FN.out w8 (B7.out.trans (hb8.mono B7.out.size)))
    clear hb8 AW FN
    go_wp2
    first | exact F.out | (go_ret; exact F.out)
end Go.Proofs.YtojednnciknhpaaDoor
