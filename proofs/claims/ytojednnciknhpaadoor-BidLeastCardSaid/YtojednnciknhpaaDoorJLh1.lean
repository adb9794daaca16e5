/- The law's small functions: hall. The law's small functions: tidy. awake: what a program must do whatever the input is. -/
import Derived.Test.YtojednnciknhpaaDoorJTb
import Derived.Test.YtojednnciknhpaaDoorJRowx
import Derived.Test.YtojednnciknhpaaDoorJBm
namespace Go.Proofs.YtojednnciknhpaaDoor
set_option linter.unusedSimpArgs false
set_option linter.unusedVariables false
open Go.RowKit
attribute [local go_sem] Oper.semAt_some
attribute [local go_sem ↓] Go.wp_at_zero Go.wp_at_succ
abbrev TabI (B : Nat) (w : World) (v : Value) (L : List (List Int)) : Prop := OwnT encI 1 22 2 B w v L
/-- The first elements of a slice. -/
def cutV (c : Nat) : Value → Value
  | .slice p n cp => .slice p (min n c) cp
  | x => x
/-- A part of a row comes behind an empty one. -/
theorem part_app {w : World} {u : Value} {l : List Int} (h : ArgE encI 1 w u l) (c : Nat) (hc : c ≤ 5000) : ∃ v' w', (Builtin.append_ #[22, 22] 22 #[.slice none 0 0, cutV c u]).run Tryd.prog w = .ok v' w' ∧ RowI w.heap.size w' v' (l.take c) ∧ Below w.heap.size w w' := by
  have hs := h.src encI_len (by omega)
  have h2 : SrcX encI 1 w (cutV c u) (l.take c) := by
    rcases h.form with rfl | ⟨a, n, cp, rfl, h1, h2⟩
    · refine .inl ⟨by simp [cutV], ?_⟩
      rcases hs with ⟨_, q⟩ | ⟨a, c, q, _⟩
      · rw [q]; simp
      · cases q
    · have hl : n = l.length := by
        rcases hs with ⟨q, _⟩ | ⟨a', c', q, _⟩
        · cases q
        · injection q
      have e : l.take c = l.take (min n c) := by
        rw [hl]
        rcases Nat.le_total l.length c with q | q
        · rw [Nat.min_eq_left q, List.take_length, List.take_of_length_le q]
        · rw [Nat.min_eq_right q]
      rw [e]
      exact hs.take encI_len (Nat.min_le_left _ _)
  have hl : (l.take c).length ≤ 5000 := by rw [List.length_take]; omega
  obtain ⟨v', w', r1, r2, r3⟩ := own_app (ty := 22) undI infoI rfl (by omega) encI_len encI_one (OwnE.nil w.heap.size w) (Nat.le_refl _) h2 (by unfold maxLen; simp; omega) (by simp; omega)
  exact ⟨v', w', r1, by simpa using r2, r3.below (Nat.le_refl _) (fun k hk => by cases hk)⟩

set_option maxRecDepth 100000 in
set_option maxHeartbeats 8000000 in
theorem hallC_calls {w : World} {v : Value} {L : List (List Int)} (h : NestA encI 1 w v L) (r c : Nat) (hr : r ≤ 5000) (hc : c ≤ 5000) :
    Calls Tryd.prog 51 #[v, .int .i64 r, .int .i64 c] w fun e w' => ∃ v', e = .returned v' ∧ TabI w.heap.size w' v' ((L.take r).map (·.take c)) ∧ Below w.heap.size w w' := by
  obtain ⟨R, hR⟩ : ∃ R : Ending → World → Prop, R = fun e w' => ∃ v', e = .returned v' ∧ TabI w.heap.size w' v' ((L.take r).map (·.take c)) ∧ Below w.heap.size w w' := ⟨_, rfl⟩
  rw [← hR]
  have FN := hid (show ∀ v' w', TabI w.heap.size w' v' ((L.take r).map (·.take c)) → Below w.heap.size w w' → R (.returned v') w' from fun v' w' a b => by rw [hR]; exact ⟨v', rfl, a, b⟩)
  clear hR
  obtain ⟨p, cap, rfl, hrow⟩ := h.open_
  have HROW := hid hrow
  obtain ⟨n, hn⟩ : ∃ n, n = L.length := ⟨_, rfl⟩
  have HN := hid hn
  obtain ⟨m, hm⟩ : ∃ m, m = min n r := ⟨_, rfl⟩
  have HM := hid hm
  have hm1 : m ≤ n := by omega
  have hm2 : m ≤ r := by omega
  have c0 : (0 : Int) ≤ (c : Int) := by omega
  rw [← hn]
  clear h hrow hn hm
  go_enter Tryd.func51, Tryd.ntmps51
  go_upto_region 3 with fail
  go_loopg [7, 8] m (fun k s7 s8 wr => ∃ (i : Nat) (b7 : Value), i + k = m ∧ s8 = .int .i64 i ∧ b7 = s7 ∧ TabI w.heap.size wr b7 ((L.take i).map (·.take c)) ∧ Below w.heap.size w wr)
  case atStart => exact ⟨0, _, by omega, rfl, rfl, OwnT.nil _ _, Below.refl _ _⟩
  case round =>
    obtain ⟨i, b7, hik, rfl, rfl, ht, hb⟩ := hrel
    have HIK := hid hik
    have T := hid ht
    have B := hid hb
    obtain ⟨p7, c7, hv7⟩ := ht.form
    clear hik ht hb
    by_cases him : i < m
    · have hil : i < L.length := by rw [← HN.out]; omega
      obtain ⟨bb, off, u, rfl, hu, hcu⟩ := HROW.out i hil
      have cu := hcu wr B.out
      have gi : (i : Int) < (n : Int) := by omega
      have gi0 : (0 : Int) ≤ (i : Int) := by omega
      have gr : (i : Int) < (r : Int) := by omega
      obtain ⟨v', w', r1, r2, r3⟩ := part_app ((hu.below B.out).below (Below.refl wr.heap.size wr).drew) c hc
      obtain ⟨pv, cv, hv', _⟩ := r2.form
      obtain ⟨nv, hnv⟩ : ∃ nv, nv = (L[i].take c).length := ⟨_, rfl⟩
      rw [← hnv] at hv'
      subst hv'
      rw [show ((L.take i).map (·.take c)).length = i by simp; omega] at hv7
      subst hv7
      have R1 := hid r1
      have R2 := hid r2
      have R3 := hid r3
      clear hnv
      have A8 := hid ((T.out.below (Below.refl wr.heap.size wr).drew).below R3.out)
      obtain ⟨v8, w8, q1, q2, q3⟩ := OwnT.app (t := 42) (ty := 42) (by decide) undII infoII (by omega) A8.out (by have := B.out.size; have := R3.out.size; simp at this ⊢; omega) (OwnE.mono R2.out (by have := B.out.size; simp; omega)) (by simp; omega)
      have Q1 := hid q1
      have Q2 := hid (show TabI w.heap.size w8 v8 ((L.take (i + 1)).map (·.take c)) by rw [List.take_succ_eq_append_getElem hil, List.map_append]; exact q2)
      have Q3 := hid (show Below w.heap.size w w8 from (B.out.trans (((Below.refl wr.heap.size wr).drew.trans R3.out).mono B.out.size)).trans (q3.mono (Nat.le_refl _)))
      have RND := hid (show ∃ (i' : Nat) (b7 : Value), i' + (m - (i + 1)) = m ∧ Value.int .i64 ((i + 1 : Nat) : Int) = .int .i64 i' ∧ b7 = v8 ∧ TabI w.heap.size w8 b7 ((L.take i').map (·.take c)) ∧ Below w.heap.size w w8 from ⟨i + 1, _, by omega, rfl, rfl, Q2.out, Q3.out⟩)
      rcases hu.form with rfl | ⟨a, nu, cp, rfl, f1, f2⟩
      · have ek : min (0 : Int) (c : Int) = 0 := by omega
        rw [cutV, Nat.zero_min] at R1
        clear hcu hu r1 r2 r3 q1 q2 q3
        go_upto_region 6 with fail
        refine region_tail 13 (by kernel_rfl) (by kernel_rfl) ?_
        simp only [List.take_succ_cons, List.take_zero, List.drop_succ_cons, List.drop_zero]
        repeat still_step
        refine wpStill_nil ?_
        refine wpList_append_run rfl (.tmp 21) (.tmp 33) 22 rfl _ _ _ w' rfl rfl R1.out ?_
        go_wp2_with (at_builtin; refine wpList_append_run rfl (.tmp 35) (.tmp 37) 42 rfl _ _ v8 w8 rfl rfl Q1.out ?_)
        go_roundg (m - (i + 1))
        · obtain ⟨i', b7, a1, a2, a3, a4, a5⟩ := RND.out
          exact ⟨i', b7, a1, by rw [← a2]; go_num, a3, a4, a5⟩
        · have := HIK.out; omega
      · obtain ⟨k, hk⟩ : ∃ k, k = min nu c := ⟨_, rfl⟩
        have ek : min (nu : Int) (c : Int) = (k : Int) := by omega
        have k1 : (k : Int) ≤ (cp : Int) := by omega
        have k0 : (0 : Int) ≤ (k : Int) := by omega
        rw [cutV, ← hk] at R1
        clear hcu hu r1 r2 r3 q1 q2 q3 hk f1 f2
        go_upto_region 6 with fail
        refine region_tail 13 (by kernel_rfl) (by kernel_rfl) ?_
        simp only [List.take_succ_cons, List.take_zero, List.drop_succ_cons, List.drop_zero]
        repeat still_step
        refine wpStill_nil ?_
        refine wpList_append_run rfl (.tmp 21) (.tmp 33) 22 rfl _ _ _ w' rfl rfl R1.out ?_
        go_wp2_with (at_builtin; refine wpList_append_run rfl (.tmp 35) (.tmp 37) 42 rfl _ _ v8 w8 rfl rfl Q1.out ?_)
        go_roundg (m - (i + 1))
        · obtain ⟨i', b7, a1, a2, a3, a4, a5⟩ := RND.out
          exact ⟨i', b7, a1, by rw [← a2]; go_num, a3, a4, a5⟩
        · have := HIK.out; omega
    · obtain rfl : i = m := by have := HIK.out; omega
      have F := hid (FN.out b7 wr (by
        have e : L.take i = L.take r := by
          rcases Nat.le_total n r with q | q
          · rw [List.take_of_length_le (by rw [← HN.out]; have := HM.out; omega), List.take_of_length_le (by rw [← HN.out]; exact q)]
          · rw [show i = r by have := HM.out; omega]
        rw [← e]; exact T.out) B.out)
      by_cases hin : i < n
      · have hir : i = r := by have := HM.out; omega
        subst hir
        have g1 : decide ((i : Int) < (i : Int)) = false := by simp
        have g2 : (i : Int) < (n : Int) := by omega
        clear hm1 hm2 him
        go_wp2
        first | exact F.out | (go_ret; exact F.out)
      · obtain rfl : i = n := by omega
        have g1 : decide ((i : Int) < (i : Int)) = false := by simp
        clear hm1 hm2 him hin
        go_wp2
        first | exact F.out | (go_ret; exact F.out)
end Go.Proofs.YtojednnciknhpaaDoor
namespace Go.Proofs.YtojednnciknhpaaDoor
set_option linter.unusedSimpArgs false
set_option linter.unusedVariables false
open Go.RowKit
attribute [local go_sem] Oper.semAt_some
attribute [local go_sem ↓] Go.wp_at_zero Go.wp_at_succ
def fixV (v : Int) : Int := if v < 0 ∨ 1000000000 < v then smlF v 20 else v
theorem fixV_ok (v : Int) : 0 ≤ fixV v ∧ fixV v ≤ 1000000000 := by
  unfold fixV
  split
  · have := smlF_range v 20 (by omega); omega
  · omega
def tcell (row : List Int) (k : Nat) : Int := match row[k]? with
  | none => 0
  | some v => fixV v
theorem tcell_ok (row : List Int) (k : Nat) : 0 ≤ tcell row k ∧ tcell row k ≤ 1000000000 := by
  unfold tcell
  split
  · omega
  · exact fixV_ok _
/-- How many columns, how many rows. -/
def tcols (L : List (List Int)) (c : Nat) : Nat := max 1 (min (L.getD 0 []).length c)
def trows (L : List (List Int)) (r : Nat) : Nat := max 1 (min L.length r)
def trow (L : List (List Int)) (n i : Nat) : List Int := (List.range n).map (tcell (L.getD i []))
def tidyF (L : List (List Int)) (r c : Nat) : List (List Int) := (List.range (trows L r)).map (trow L (tcols L c))
theorem trow_len (L : List (List Int)) (n i : Nat) : (trow L n i).length = n := by simp [trow]
theorem tidyF_len (L : List (List Int)) (r c : Nat) : (tidyF L r c).length = trows L r := by simp [tidyF]
theorem tidyF_cols (L : List (List Int)) (r c : Nat) : cols (tidyF L r c) = tcols L c := by
  have h : 0 < trows L r := by unfold trows; omega
  unfold cols tidyF
  simp [h, trow_len]
theorem tidy_okH {L : List (List Int)} {r c : Nat} (hr : r ≤ 64) (hc : c ≤ 64) : OkH (tidyF L r c) (tcols L c) := by
  refine ⟨by rw [tidyF_len]; unfold trows; omega, by unfold tcols; omega, fun x hx => ?_, fun x hx => ?_⟩
  · obtain ⟨i, _, rfl⟩ := List.mem_map.1 hx
    exact trow_len _ _ _
  · obtain ⟨i, _, rfl⟩ := List.mem_map.1 hx
    intro y hy
    obtain ⟨k, _, rfl⟩ := List.mem_map.1 hy
    exact tcell_ok _ _
/-- A tidy hall is valid. -/
theorem chkH_of {L : List (List Int)} (ok : OkH L (cols L)) (h1 : 1 ≤ L.length) (h2 : 1 ≤ cols L) : chkH L = 0 := by
  unfold chkH
  have h3 := ok.rows
  have h4 := ok.cols
  rw [if_neg (by omega), if_neg (by omega), if_neg, if_neg]
  · intro h
    obtain ⟨r, hr, hx⟩ := List.any_eq_true.1 h
    obtain ⟨x, hx1, hx2⟩ := List.any_eq_true.1 hx
    rw [isW_ok.2 (ok.ok r hr x hx1)] at hx2
    cases hx2
  · intro h
    obtain ⟨r, hr, hx⟩ := List.any_eq_true.1 h
    exact (of_decide_eq_true hx) (ok.len r hr)
theorem tidy_chk {L : List (List Int)} {r c : Nat} (hr : r ≤ 64) (hc : c ≤ 64) : chkH (tidyF L r c) = 0 :=
  chkH_of (by rw [tidyF_cols]; exact tidy_okH hr hc) (by rw [tidyF_len]; unfold trows; omega) (by rw [tidyF_cols]; unfold tcols; omega)

theorem rowi_app {B : Nat} {w : World} {v : Value} {l : List Int} (h : RowI B w v l) (hB : B ≤ w.heap.size) (x : Int) (hl : l.length ≤ 1000000) :
    ∃ v' w', (Builtin.append_ #[22, 22] 22 #[v, .slice (some ⟨w.heap.size, 0, none⟩) 1 1]).run Tryd.prog (w.alloc (.cells #[.int .i64 x] 2)) = .ok v' w' ∧ RowI B w' v' (l ++ [x]) ∧ Below B w w' := by
  have ha := (Below.refl w.heap.size w).alloc (Nat.le_refl _) (.cells #[.int .i64 x] 2)
  obtain ⟨v', w', r1, r2, r3, _⟩ := own_append (ty := 22) undI infoI rfl (by omega) encI_len encI_one (h.below ha) (by simp; omega) (SrcE.one (a := x) (Cells.new w #[.int .i64 x] 2)) (by unfold maxLen; simp; omega) (by simp; omega)
  refine ⟨v', w', r1, r2, (ha.mono hB).trans (kept_own (h.below ha) (by simp; omega) r3)⟩

set_option maxRecDepth 100000 in
set_option maxHeartbeats 16000000 in
theorem tidy_calls {w : World} {v : Value} {L : List (List Int)} (h : NestA encI 1 w v L) (r c : Nat) (hr : r ≤ 64) (hc : c ≤ 64) :
    Calls Tryd.prog 24 #[v, .int .i64 r, .int .i64 c] w fun e w' => ∃ v', e = .returned v' ∧ TabI w.heap.size w' v' (tidyF L r c) ∧ Below w.heap.size w w' := by
  obtain ⟨R, hR⟩ : ∃ R : Ending → World → Prop, R = fun e w' => ∃ v', e = .returned v' ∧ TabI w.heap.size w' v' (tidyF L r c) ∧ Below w.heap.size w w' := ⟨_, rfl⟩
  rw [← hR]
  have FN := hid (show ∀ v' w', TabI w.heap.size w' v' (tidyF L r c) → Below w.heap.size w w' → R (.returned v') w' from fun v' w' a b => by rw [hR]; exact ⟨v', rfl, a, b⟩)
  clear hR
  obtain ⟨p, cap, rfl, hrow⟩ := h.open_
  have HROW := hid hrow
  obtain ⟨n, hn⟩ : ∃ n, n = L.length := ⟨_, rfl⟩
  have HN := hid hn
  obtain ⟨N, hN⟩ : ∃ N, N = tcols L c := ⟨_, rfl⟩
  have HNN := hid hN
  have N1 : 1 ≤ N := by rw [hN]; unfold tcols; omega
  have N64 : N ≤ 64 := by rw [hN]; unfold tcols; omega
  obtain ⟨m, hm⟩ : ∃ m, m = min n r := ⟨_, rfl⟩
  obtain ⟨M, hM⟩ : ∃ M, M = max 1 m := ⟨_, rfl⟩
  have HM := hid (show M = trows L r by unfold trows; rw [hM, hm, hn])
  have M64 : M ≤ 64 := by omega
  have em : min (n : Int) (r : Int) = (m : Int) := by omega
  have eM : max 1 (m : Int) = (M : Int) := by omega
  unfold tidyF at FN
  rw [← hN, ← HM.out] at FN
  rw [← hn]
  clear h hrow hm hM hn hN
  go_enter Tryd.func24, Tryd.ntmps24
  go_upto_if 15 with fail
  go_cut [7] (fun s7 wx => s7 = .int .i64 N ∧ wx = w)
  case first =>
    by_cases h0 : 0 < n
    · obtain ⟨bb, off, u, rfl, hu, hcu⟩ := HROW.out 0 (by rw [← HN.out]; exact h0)
      have cu := hcu w (Below.refl _ _)
      rw [Nat.add_zero] at cu
      obtain ⟨_, p0, c0, _, _, hv0, _, _⟩ := hu.reads
      obtain ⟨q, hq⟩ : ∃ q, q = (L.getD 0 []).length := ⟨_, rfl⟩
      have e0 : L[0]'(by rw [← HN.out]; exact h0) = L.getD 0 [] := by simp [show 0 < L.length by rw [← HN.out]; exact h0]
      rw [e0] at hv0
      rw [← hq] at hv0
      have HQ := hid hq
      clear hq e0
      subst hv0
      obtain ⟨x, hx⟩ : ∃ x, x = min q c := ⟨_, rfl⟩
      have e1 : min (q : Int) (c : Int) = (x : Int) := by omega
      have e2 : max 1 (x : Int) = (N : Int) := by
        have : N = max 1 (min q c) := by rw [HNN.out, HQ.out]; rfl
        omega
      have g0 : (0 : Int) < (n : Int) := by omega
      clear hcu hu hx em eM
      go_wp2
      go_meet
      exact ⟨rfl, rfl⟩
    · obtain rfl : n = 0 := by omega
      have e2 : N = 1 := by
        have : L = [] := List.length_eq_zero_iff.1 HN.out.symm
        rw [HNN.out, this]; unfold tcols; simp
      have F := hid e2
      clear em eM e2
      go_wp2
      go_meet
      exact ⟨by rw [F.out]; rfl, rfl⟩
  case rest =>
  obtain ⟨rfl, hwc⟩ := hcut
  rw [hwc]
  clear hwc
  go_upto_region 6 with fail
  go_loopg [8, 9] M (fun k s8 s9 wr => ∃ (i : Nat) (b8 : Value), i + k = M ∧ s9 = .int .i64 i ∧ b8 = s8 ∧ TabI w.heap.size wr b8 ((List.range i).map (trow L N)) ∧ Below w.heap.size w wr)
  case atStart => exact ⟨0, _, by omega, rfl, rfl, OwnT.nil _ _, Below.refl _ _⟩
  case round =>
  obtain ⟨i, b8, hik, rfl, rfl, ht, hb⟩ := hrel
  have HIK := hid hik
  have T := hid ht
  have B := hid hb
  obtain ⟨p8, c8, hv8⟩ := ht.form
  rw [List.length_map, List.length_range] at hv8
  subst hv8
  clear hik ht hb
  by_cases hiM : i < M
  · have gi : (i : Int) < (M : Int) := by omega
    have gi0 : (0 : Int) ≤ (i : Int) := by omega
    obtain ⟨wA, hwA⟩ : ∃ wA, wA = wr := ⟨_, rfl⟩
    rw [← hwA] at T B ⊢
    have hws := B.out.size
    clear hwA
    go_upto_region 10 with fail
    go_loopg [10, 11] N (fun k s10 s11 wr => ∃ (q : Nat) (b10 : Value), q + k = N ∧ s11 = .int .i64 q ∧ b10 = s10 ∧ RowI wA.heap.size wr b10 ((List.range q).map (tcell (L.getD i []))) ∧ Below wA.heap.size wA wr)
    case atStart => exact ⟨0, _, by omega, rfl, rfl, OwnE.nil _ _, Below.refl _ _⟩
    case round =>
    obtain ⟨q, b10, hqk, rfl, rfl, hr10, hbq⟩ := hrel
    have HQK := hid hqk
    have RQ := hid hr10
    have BQ := hid hbq
    obtain ⟨p10, c10, hv10, _⟩ := hr10.form
    rw [List.length_map, List.length_range] at hv10
    subst hv10
    clear hqk hr10 hbq
    by_cases hqN : q < N
    · have gq : (q : Int) < (N : Int) := by omega
      have gq0 : (0 : Int) ≤ (q : Int) := by omega
      obtain ⟨x9, hx9⟩ : ∃ x9, x9 = tcell (L.getD i []) q := ⟨_, rfl⟩
      obtain ⟨v9, w9, r1, r2, r3⟩ := rowi_app RQ.out BQ.out.size x9 (by simp; omega)
      have R1 := hid r1
      have R2 := hid (show RowI wA.heap.size w9 v9 ((List.range (q + 1)).map (tcell (L.getD i []))) by rw [List.range_succ, List.map_append, List.map_singleton, ← hx9]; exact r2)
      have R3 := hid (BQ.out.trans r3)
      have HX9 := hid hx9
      clear hx9 r1 r2 r3
      by_cases hin : i < n
      · have hil : i < L.length := by rw [← HN.out]; exact hin
        have gin : (i : Int) < (n : Int) := by omega
        obtain ⟨bb, off, u, rfl, hu, hcu⟩ := HROW.out i hil
        have BW := hid (B.out.trans (BQ.out.mono B.out.size))
        have cu := hcu wr BW.out
        obtain ⟨pu, cpu, hpu, hcr⟩ := reads_at hu.reads
        obtain ⟨nu, hnu⟩ : ∃ nu, nu = L[i].length := ⟨_, rfl⟩
        rw [← hnu] at hpu
        subst hpu
        have eL : L.getD i [] = L[i] := by simp [hil]
        by_cases hqu : q < nu
        · have hqr : q < L[i].length := by rw [← hnu]; exact hqu
          obtain ⟨b1, o1, rfl, hc1⟩ := hcr q hqr
          have cx := hc1 wr BW.out
          have gqu : (q : Int) < (nu : Int) := by omega
          have HT := hid (show x9 = fixV L[i][q] by rw [HX9.out, eL]; unfold tcell; rw [List.getElem?_eq_getElem hqr])
          obtain ⟨x, hx⟩ : ∃ x, x = L[i][q] := ⟨_, rfl⟩
          rw [← hx] at cx HT
          unfold fixV at HT
          have SM := hid (small_calls x 20 (by omega) (by omega) wr)
          clear hcu hu hcr hnu eL hc1 hx
          by_cases hx0 : x < 0
          · rw [if_pos (.inl hx0)] at HT
            go_wp2_with fail
            refine SM.out.mono ?_
            rintro e w8 ⟨rfl, hw8⟩
            rw [hw8]
            clear hw8 SM
            rw [HT.out] at R1
            go_wp2_with (at_builtin; refine wpList_append_run rfl (.tmp 65) (.tmp 67) 22 rfl _ _ v9 w9 rfl rfl R1.out ?_)
            go_roundg (N - (q + 1))
            · exact ⟨q + 1, _, by omega, by go_num, rfl, R2.out, R3.out⟩
            · have := HQK.out; omega
          · have hx1 : 0 ≤ x := by omega
            by_cases hx2 : 1000000000 < x
            · rw [if_pos (.inr hx2)] at HT
              go_wp2_with fail
              refine SM.out.mono ?_
              rintro e w8 ⟨rfl, hw8⟩
              rw [hw8]
              clear hw8 SM
              rw [HT.out] at R1
              go_wp2_with (at_builtin; refine wpList_append_run rfl (.tmp 65) (.tmp 67) 22 rfl _ _ v9 w9 rfl rfl R1.out ?_)
              go_roundg (N - (q + 1))
              · exact ⟨q + 1, _, by omega, by go_num, rfl, R2.out, R3.out⟩
              · have := HQK.out; omega
            · rw [if_neg (by omega)] at HT
              have hx3 : x ≤ 1000000000 := by omega
              clear SM hx0 hx2
              rw [HT.out] at R1
              go_wp2_with (at_builtin; refine wpList_append_run rfl (.tmp 65) (.tmp 67) 22 rfl _ _ v9 w9 rfl rfl R1.out ?_)
              go_roundg (N - (q + 1))
              · exact ⟨q + 1, _, by omega, by go_num, rfl, R2.out, R3.out⟩
              · have := HQK.out; omega
        · have HT := hid (show x9 = 0 by rw [HX9.out, eL]; unfold tcell; rw [List.getElem?_eq_none (by omega)])
          have gqu : (nu : Int) ≤ (q : Int) := by omega
          clear hcu hu hcr hnu eL hqu
          rw [HT.out] at R1
          go_wp2_with (at_builtin; refine wpList_append_run rfl (.tmp 65) (.tmp 67) 22 rfl _ _ v9 w9 rfl rfl R1.out ?_)
          go_roundg (N - (q + 1))
          · exact ⟨q + 1, _, by omega, by go_num, rfl, R2.out, R3.out⟩
          · have := HQK.out; omega
      · have HT := hid (show x9 = 0 by rw [HX9.out, getD_none (by rw [← HN.out]; omega)]; rfl)
        have gin : (n : Int) ≤ (i : Int) := by omega
        clear hin
        rw [HT.out] at R1
        go_wp2_with (at_builtin; refine wpList_append_run rfl (.tmp 65) (.tmp 67) 22 rfl _ _ v9 w9 rfl rfl R1.out ?_)
        go_roundg (N - (q + 1))
        · exact ⟨q + 1, _, by omega, by go_num, rfl, R2.out, R3.out⟩
        · have := HQK.out; omega
    obtain rfl : q = N := by have := HQK.out; omega
    have g2 : decide ((q : Int) < (q : Int)) = false := by simp
    obtain ⟨v9, w9, r1, r2, r3⟩ := OwnT.app (t := 42) (ty := 42) (by decide) undII infoII (by omega) (T.out.below BQ.out) (Nat.le_trans hws BQ.out.size) (OwnE.mono RQ.out hws) (by simp; omega)
    have R1 := hid r1
    have R2 := hid (show TabI w.heap.size w9 v9 ((List.range (i + 1)).map (trow L q)) by rw [List.range_succ, List.map_append, List.map_singleton]; exact r2)
    have R3 := hid ((B.out.trans (BQ.out.mono hws)).trans r3)
    clear r1 r2 r3
    go_wp2_with (at_builtin; refine wpList_append_run rfl (.tmp 69) (.tmp 71) 42 rfl _ _ v9 w9 rfl rfl R1.out ?_)
    go_roundg (M - (i + 1))
    · exact ⟨i + 1, _, by omega, by go_num, rfl, R2.out, R3.out⟩
    · have := HIK.out; omega
  obtain rfl : i = M := by have := HIK.out; omega
  have g2 : decide ((i : Int) < (i : Int)) = false := by simp
  have F := hid (FN.out _ wr T.out B.out)
  clear FN
  go_wp2
  first | exact F.out | (go_ret; exact F.out)
end Go.Proofs.YtojednnciknhpaaDoor
namespace Go.Proofs.YtojednnciknhpaaDoor
set_option linter.unusedSimpArgs false
set_option linter.unusedVariables false
open Go.RowKit
attribute [local go_sem] Oper.semAt_some
attribute [local go_sem ↓] Go.wp_at_zero Go.wp_at_succ
def al5 (w : World) (c1 c2 c3 c4 c5 : Array Value) (t1 t2 t5 : TypeId) : World := ((((w.alloc (.cells c1 t1)).alloc (.cells c2 t2)).alloc (.cells c3 t2)).alloc (.cells c4 t2)).alloc (.cells c5 t5)
theorem cells_at {w : World} {o : Obj} {B : Nat} {cs : Array Value} {ty : TypeId} (h : Cells w B cs ty) : Cells (w.alloc o) B cs ty := h.alloc o
theorem cells_new' {w : World} {B : Nat} (hB : w.heap.size = B) (cs : Array Value) (ty : TypeId) : Cells (w.alloc (.cells cs ty)) B cs ty := by subst hB; exact Cells.new w cs ty
theorem size_al (w : World) (o : Obj) : (w.alloc o).heap.size = w.heap.size + 1 := by simp
/-- A slice of one offer, of one row .. -/
theorem one_offer {w : World} {B : Nat} {o : Of} {ty : TypeId} (h : Cells w B #[.int .u32 o.lots, .int .i64 o.w] ty) : ReadsE encOf 2 w (.slice (some ⟨B, 0, none⟩) 1 1) [o] := by
  refine ⟨by simp, _, 1, B, 0, rfl, fun _ => ⟨rfl, h.lt⟩, fun k hk j hj => ?_⟩
  have : k = 0 := by simp at hk; omega
  subst this
  rw [h.cell]
  rcases j with _ | _ | j
  · rfl
  · rfl
  · omega
theorem two_ints {w : World} {B : Nat} {a b : Int} {ty : TypeId} (h : Cells w B #[.int .i64 a, .int .i64 b] ty) : ReadsE encI 1 w (.slice (some ⟨B, 0, none⟩) 2 2) [a, b] := by
  refine ⟨by simp, _, 2, B, 0, rfl, fun _ => ⟨rfl, h.lt⟩, fun k hk j hj => ?_⟩
  obtain rfl : j = 0 := by omega
  rw [h.cell]
  rcases k with _ | _ | k
  · rfl
  · rfl
  · simp at hk; omega
theorem awake_au {w : World} {B : Nat} {t1 t2 t5 : TypeId} (h1 : Cells w B #[.int .i64 0, .int .i64 0] t1) (h2 : Cells w (B + 1) #[.int .u32 1, .int .i64 10] t2) (h3 : Cells w (B + 2) #[.int .u32 2, .int .i64 8] t2) (h4 : Cells w (B + 3) #[.int .u32 3, .int .i64 15] t2)
    (h5 : Cells w (B + 4) #[.slice (some ⟨B + 1, 0, none⟩) 1 1, .slice (some ⟨B + 2, 0, none⟩) 1 1, .slice (some ⟨B + 3, 0, none⟩) 1 1] t5) : AuV w (.slice (some ⟨B, 0, none⟩) 2 2) (.slice (some ⟨B + 4, 0, none⟩) 3 3) au0 := by
  refine ⟨two_ints h1, ⟨[.slice (some ⟨B + 1, 0, none⟩) 1 1, .slice (some ⟨B + 2, 0, none⟩) 1 1, .slice (some ⟨B + 3, 0, none⟩) 1 1], ⟨by simp, _, 3, B + 4, 0, rfl, fun _ => ⟨rfl, h5.lt⟩, fun k hk j hj => ?_⟩, rfl, fun k k1 k2 => ?_⟩, fun l hl o ho => ?_⟩
  · obtain rfl : j = 0 := by omega
    rw [h5.cell]
    rcases k with _ | _ | _ | k
    · rfl
    · rfl
    · rfl
    · simp at hk; omega
  · rcases k with _ | _ | _ | k
    · exact one_offer (o := ⟨1, 10⟩) h2
    · exact one_offer (o := ⟨2, 8⟩) h3
    · exact one_offer (o := ⟨3, 15⟩) h4
    · simp at k1; omega
  · simp [au0] at hl
    rcases hl with rfl | rfl | rfl <;> (simp at ho; subst ho; decide)
theorem awake_hall {w : World} {B : Nat} {t1 t3 : TypeId} (h1 : Cells w B #[.int .i64 5, .int .i64 3] t1) (h2 : Cells w (B + 1) #[.int .i64 4, .int .i64 0] t1) (h3 : Cells w (B + 2) #[.slice (some ⟨B, 0, none⟩) 2 2, .slice (some ⟨B + 1, 0, none⟩) 2 2] t3) : NestE encI 1 w (.slice (some ⟨B + 2, 0, none⟩) 2 2) [[5, 3], [4, 0]] := by
  refine ⟨[.slice (some ⟨B, 0, none⟩) 2 2, .slice (some ⟨B + 1, 0, none⟩) 2 2], ⟨by simp, _, 2, B + 2, 0, rfl, fun _ => ⟨rfl, h3.lt⟩, fun k hk j hj => ?_⟩, rfl, fun k k1 k2 => ?_⟩
  · obtain rfl : j = 0 := by omega
    rw [h3.cell]
    rcases k with _ | _ | k
    · rfl
    · rfl
    · simp at hk; omega
  · rcases k with _ | _ | k
    · exact two_ints h1
    · exact two_ints h2
    · simp at k1; omega
theorem awake_chk : chkH [[5, 3], [4, 0]] = 0 := by decide

set_option maxRecDepth 100000 in
set_option maxHeartbeats 8000000 in
theorem awake_calls {w : World} (hT : TabOk w) : Calls Tryd.prog 23 #[] w fun e w' => e = .returned (.bool true) ∧ Below w.heap.size w w' := by
  obtain ⟨R, hR⟩ : ∃ R : Ending → World → Prop, R = fun e w' => e = .returned (.bool true) ∧ Below w.heap.size w w' := ⟨_, rfl⟩
  rw [← hR]
  have FN := hid (show ∀ w', Below w.heap.size w w' → R (.returned (.bool true)) w' from fun w' h => by rw [hR]; exact ⟨rfl, h⟩)
  clear hR
  have TO := hid hT
  obtain ⟨w1, hw1⟩ : ∃ w1, w1 = ((((w.alloc (.cells #[.int .i64 0, .int .i64 0] 2)).alloc (.cells #[.int .u32 1, .int .i64 10] 54)).alloc (.cells #[.int .u32 2, .int .i64 8] 54)).alloc (.cells #[.int .u32 3, .int .i64 15] 54)).alloc (.cells #[.slice (some ⟨w.heap.size + 1, 0, none⟩) 1 1, .slice (some ⟨w.heap.size + 1 + 1, 0, none⟩) 1 1, .slice (some ⟨w.heap.size + 1 + 1 + 1, 0, none⟩) 1 1] 50) := ⟨_, rfl⟩
  have A1 := hid (show AuV w1 (.slice (some ⟨w.heap.size, 0, none⟩) 2 2) (.slice (some ⟨w.heap.size + 1 + 1 + 1 + 1, 0, none⟩) 3 3) au0 by
    rw [hw1]
    exact awake_au (cells_at (cells_at (cells_at (cells_at (Cells.new w _ _))))) (cells_at (cells_at (cells_at (cells_new' (by simp) _ _)))) (cells_at (cells_at (cells_new' (by simp) _ _))) (cells_at (cells_new' (by simp) _ _)) (cells_new' (by simp) _ _))
  have B1 := hid (show Below w.heap.size w w1 by rw [hw1]; repeat (first | exact Below.refl _ _ | refine Below.alloc ?_ (by simp; try omega) _))
  have S1 := hid (show Calls Tryd.prog 19 #[.agg #[.int .i64 2, .slice (some ⟨w.heap.size, 0, none⟩) 2 2, .slice (some ⟨w.heap.size + 1 + 1 + 1 + 1, 0, none⟩) 3 3]] w1 fun e w' => ∃ gc gp, e = .returned (.tuple #[.agg #[.slice (some ⟨gc, 0, none⟩) 3 3, .int .i64 18, .slice (some ⟨gp, 0, none⟩) 3 3], .int .i64 0]) ∧ w'.cell? ⟨gp, 0, none⟩ = some (.int .i64 7) ∧ Below w1.heap.size w1 w' from
    (solve_calls A1.out au0_chk au0_ok (hT.below B1.out)).mono fun e w' ⟨gc, gp, he, s1, s2, s3, s4, s5⟩ => ⟨gc, gp, by rw [he]; unfold awV; rw [au0_val]; rfl, by rw [s2.cellD (i := 0) (by rw [au0_len]; omega) 0, au0_pay], s5⟩)
  have HW1 := hid hw1
  clear hw1 hT
  go_enter Tryd.func23, Tryd.ntmps23
  go_wp2_with fail
  rw [← HW1.out]
  refine S1.out.mono ?_
  rintro e w2 ⟨gc, gp, rfl, hpy, hb2⟩
  have B2 := hid (B1.out.trans (hb2.mono B1.out.size))
  have hpl := World.block_lt_of_cell? _ _ hpy
  obtain ⟨w3, hw3⟩ : ∃ w3, w3 = w2.alloc (.cells #[.slice (some ⟨gc, 0, none⟩) 3 3, .int .i64 18, .slice (some ⟨gp, 0, none⟩) 3 3] 29) := ⟨_, rfl⟩
  have B3 := hid (show Below w.heap.size w w3 by rw [hw3]; exact B2.out.alloc B2.out.size _)
  have C3 := hid (show Cells w3 w2.heap.size #[.slice (some ⟨gc, 0, none⟩) 3 3, .int .i64 18, .slice (some ⟨gp, 0, none⟩) 3 3] 29 by rw [hw3]; exact Cells.new w2 _ _)
  have P3 := hid (show w3.cell? ⟨gp, 0, none⟩ = some (.int .i64 7) by rw [hw3]; exact (((Below.refl w2.heap.size w2).alloc (Nat.le_refl _) _).cell (p := ⟨gp, 0, none⟩) hpl).trans hpy)
  have HW3 := hid hw3
  obtain ⟨w4, hw4⟩ : ∃ w4, w4 = ((w3.alloc (.cells #[.int .i64 5, .int .i64 3] 2)).alloc (.cells #[.int .i64 4, .int .i64 0] 2)).alloc (.cells #[.slice (some ⟨w2.heap.size + 1, 0, none⟩) 2 2, .slice (some ⟨w2.heap.size + 1 + 1, 0, none⟩) 2 2] 22) := ⟨_, rfl⟩
  have hs3 : w3.heap.size = w2.heap.size + 1 := by rw [hw3]; simp
  have N4 := hid (show NestE encI 1 w4 (.slice (some ⟨w2.heap.size + 1 + 1 + 1, 0, none⟩) 2 2) [[5, 3], [4, 0]] by
    rw [hw4]
    exact awake_hall (cells_at (cells_at (cells_new' hs3 _ _))) (cells_at (cells_new' (by simp [hs3]) _ _)) (cells_new' (by simp [hs3]) _ _))
  have B34 := hid (show Below w3.heap.size w3 w4 by rw [hw4]; repeat (first | exact Below.refl _ _ | refine Below.alloc ?_ (by simp; try omega) _))
  have S4 := hid (show Calls Tryd.prog 25 #[.slice (some ⟨w2.heap.size + 1 + 1 + 1, 0, none⟩) 2 2] w4 fun e w' => ∃ gl cl gp, e = .returned (.tuple #[.slice (some ⟨gl, 0, none⟩) 2 cl, .slice (some ⟨gp, 0, none⟩) 2 2, .int .i64 0]) ∧ w'.cell? ⟨gl, 0, none⟩ = some (.int .i64 1) ∧ w'.cell? ⟨gp, 0, none⟩ = some (.int .i64 2) ∧ Below w4.heap.size w4 w' from
    (hall_calls N4.out awake_chk hall_awake1).mono fun e w' ⟨vl, gp, he, h1, h2, h3, h4, h5, h6⟩ => by
      rw [hall_awake3] at h1
      obtain ⟨p, cap, b, hv, hp, hc⟩ := OwnE.cells encI_len h1
      obtain ⟨rfl, _, _⟩ := hp (by simp)
      refine ⟨b, cap, gp, by rw [he, hv]; rfl, ?_, ?_, h6⟩
      · have := hc 0 (by simp) 0 (by omega)
        simpa [encI] using this
      · exact h2.cell (i := 0) (by simp))
  have HW4 := hid hw4
  clear hpy hb2 hpl hw3 hw4 S1 hs3
  go_wp2_with fail
  rw [← HW3.out, ← HW4.out]
  refine S4.out.mono ?_
  rintro e w5 ⟨gl, cl, gq, rfl, k1, k2, hb5⟩
  have B35 := hid (B34.out.trans (hb5.mono B34.out.size))
  have C5 := hid (C3.out.below B35.out C3.out.lt)
  have k3 := (B35.out.cell (p := ⟨gp, 0, none⟩) (World.block_lt_of_cell? _ _ P3.out)).trans P3.out
  have k4 : w5.cell? ⟨w2.heap.size, 1, none⟩ = some (.int .i64 18) := by rw [C5.out.cell]; rfl
  have k5 : w5.cell? ⟨w2.heap.size, 2, none⟩ = some (.slice (some ⟨gp, 0, none⟩) 3 3) := by rw [C5.out.cell]; rfl
  have F := hid (FN.out w5 (B3.out.trans (B35.out.mono B3.out.size)))
  clear hb5 S4
  go_wp2
  first | exact F.out | (go_ret; exact F.out)
end Go.Proofs.YtojednnciknhpaaDoor
