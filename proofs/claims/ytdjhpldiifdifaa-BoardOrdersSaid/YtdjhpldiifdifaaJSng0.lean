/- BoardOrders: the walk. BoardOrders: the arguments opened. BoardOrders: for every input the law returns true, and its arguments read as before. Conditions: none beyond those of the given statement. -/
import Derived.Deep.DeepCutAuto
import Derived.Test.YtdjhpldiifdifaaJRun0
import Derived.Test.YtdjhpldiifdifaaJCtc
import Derived.Test.YtdjhpldiifdifaaJOpen
namespace Go.Proofs.Ytdjhpldiifdifaa
set_option linter.unusedSimpArgs false
set_option linter.unusedVariables false
open Go.RowKit Go.Shelf
attribute [local go_sem] Oper.semAt_some
attribute [local go_sem ↓] Go.wp_at_zero Go.wp_at_succ

theorem do_order {q : Nat} {w : World} {b : Nat} {O : Nat → Nat} {G : Mm} {N : Nat} {last : Int} {vx : Value} {x : Rb} {i : Nat} (k : LkS q w b O G N last vx x i) (hi : i ≤ 90) (o : Od) (ho : o.q ≤ 9223372036854775807) :
    Calls Try.prog 32 #[pt b, rbV vx x.nums x.turn x.paid, .agg #[.int .i64 0, .int .i64 o.m, .int .i64 o.s, .int .i64 o.k, .int .i64 o.f, .int .i64 o.p, .int .i64 o.t, .int .i64 o.q, .int .i64 o.pk, .int .i64 0, .int .i64 0, .int .i64 0, .int .i64 0]] w (DoP q w b O i) :=
  do_calls k hi ⟨0, o, 0, 0, 0, 0⟩ ⟨ho, rfl⟩

set_option maxRecDepth 100000 in
set_option maxHeartbeats 20000000 in
theorem single_calls (w : World) (v : Value) (l : List Ac) (hv : ReadsE encA 13 w v l) (hok : ∀ x ∈ l, AcOk x) (o : Od) (ho : o.q ≤ 9223372036854775807) :
    Calls Try.prog 9 #[v, .agg o.vals] w fun e w' => e = .returned (.bool true) ∧ Below w.heap.size w w' := by
  obtain ⟨w1, hw1⟩ : ∃ w1, w1 = w.alloc (.cells o.vals 27) := ⟨_, rfl⟩
  have b1 : Below w.heap.size w w1 := by rw [hw1]; exact (Below.refl _ _).alloc (Nat.le_refl _) _
  have c1 : Cells w1 w.heap.size o.vals 27 := by rw [hw1]; exact Cells.new _ _ _
  have RU := hid (run_calls w1 v l (hv.below b1) hok 12 (by omega))
  have HW1 := hid hw1
  have B1 := hid b1
  have C1 := hid c1
  have HO := hid ho
  obtain ⟨R, hR⟩ : ∃ R : Ending → World → Prop, R = fun e w' => e = .returned (.bool true) ∧ Below w.heap.size w w' := ⟨_, rfl⟩
  have FIN := hid (show ∀ w', Below w.heap.size w w' → R (.returned (.bool true)) w' by intro w' h; rw [hR]; exact ⟨rfl, h⟩)
  rw [← hR]
  have AW := hid awake_calls
  obtain ⟨_, p0, cap0, _, _, rfl, _⟩ := hv
  unfold Od.vals at HW1 ⊢
  clear hR hw1 b1 c1 ho
  go_enter Try.func9, Try.ntmps9
  go_wp2_with fail
  rw [← HW1.out]
  refine RU.out.mono ?_
  rintro e w2 ⟨b, O, G, N, last, vx, x, i, rfl, lk, hi, hb2, low⟩
  obtain ⟨p9, cap9, _, rfl, _, _⟩ := lk.row.rows
  obtain ⟨n9, hn9⟩ : ∃ n9, n9 = x.L.length := ⟨_, rfl⟩
  rw [← hn9] at lk ⊢
  obtain ⟨w3, hw3⟩ : ∃ w3, w3 = w2.alloc (.cells #[.slice p9 n9 cap9, .int .i64 x.nums, .int .i64 x.turn, .int .i64 x.paid] 49) := ⟨_, rfl⟩
  have b3 : Below w2.heap.size w2 w3 := by rw [hw3]; exact (Below.refl _ _).alloc (Nat.le_refl _) _
  have b02 : Below w.heap.size w w2 := B1.out.trans (hb2.mono B1.out.size)
  have K3 := hid (show CtC w w3 w3 b w2.heap.size (grow O w2 0) G N last (.slice p9 n9 cap9) x i from
    ⟨lk.grow b3, hi, by rw [hw3]; exact Cells.new _ _ _, b02.trans (b3.mono b02.size), fun k hk => by rw [grow_old (Nat.lt_of_lt_of_le hk b02.size)]; exact low k (Nat.lt_of_lt_of_le hk B1.out.size), Below.refl _ _⟩)
  have C3 := hid ((C1.out.below hb2 C1.out.lt).below b3 (Nat.lt_of_lt_of_le C1.out.lt hb2.size))
  obtain ⟨r8, hr8⟩ : ∃ r8, r8 = w2.heap.size := ⟨_, rfl⟩
  obtain ⟨O3, hO3⟩ : ∃ O3, O3 = grow O w2 0 := ⟨_, rfl⟩
  rw [← hr8, ← hO3] at K3
  have HR8 := hid hr8
  have HW3 := hid hw3
  have DQ := hid (do_order K3.out.lk (by have := K3.out.hi; omega) o HO.out)
  obtain ⟨x0, x1, x2, x3, xl⟩ := K3.out.cell
  obtain ⟨y0, y1, y2, y3, y4, y5, y6, y7⟩ : w3.cell? ⟨w.heap.size, 0, none⟩ = some (.int .i64 o.m) ∧ w3.cell? ⟨w.heap.size, 1, none⟩ = some (.int .i64 o.s) ∧ w3.cell? ⟨w.heap.size, 2, none⟩ = some (.int .i64 o.k) ∧ w3.cell? ⟨w.heap.size, 3, none⟩ = some (.int .i64 o.f) ∧ w3.cell? ⟨w.heap.size, 4, none⟩ = some (.int .i64 o.p) ∧ w3.cell? ⟨w.heap.size, 5, none⟩ = some (.int .i64 o.t) ∧ w3.cell? ⟨w.heap.size, 6, none⟩ = some (.int .i64 o.q) ∧ w3.cell? ⟨w.heap.size, 7, none⟩ = some (.int .i64 o.pk) := by
    refine ⟨?_, ?_, ?_, ?_, ?_, ?_, ?_, ?_⟩ <;> (rw [C3.out.cell]; rfl)
  have yl := C3.out.lt
  clear lk hi hb2 low hw3 b3 b02 RU hn9 hr8 hO3
  unfold rbV at DQ ⊢
  go_upto_region 4 with fail
  rw [← HW3.out, ← HR8.out]
  go_wp2_with fail
  refine DQ.out.mono ?_
  rintro e w4 ⟨O4, G4, N4, last4, v4, x4, rfl, lk4, st4⟩
  obtain ⟨p4, cap4, _, rfl, _, _⟩ := lk4.row.rows
  obtain ⟨n4, hn4⟩ : ∃ n4, n4 = x4.L.length := ⟨_, rfl⟩
  rw [← hn4] at lk4
  unfold rbV
  rw [← hn4]
  obtain ⟨w5, hw5⟩ : ∃ w5, w5 = w4.alloc (.cells #[.slice p4 n4 cap4, .int .i64 x4.nums, .int .i64 x4.turn, .int .i64 x4.paid] 49) := ⟨_, rfl⟩
  have b5 : Below w4.heap.size w4 w5 := by rw [hw5]; exact (Below.refl _ _).alloc (Nat.le_refl _) _
  have c5 : Cells w5 w4.heap.size #[.slice p4 n4 cap4, .int .i64 x4.nums, .int .i64 x4.turn, .int .i64 x4.paid] 49 := by rw [hw5]; exact Cells.new _ _ _
  have B4 := K3.out.below.trans (low_step st4 K3.out.below.size K3.out.low).1
  have B5 := hid (B4.trans (b5.mono B4.size))
  have SH := hid (shows_calls (lk4.grow b5) (by have := K3.out.hi; omega))
  unfold rbV at SH
  obtain ⟨z0, z1, z2, z3⟩ := c5.cells4
  have zl := c5.lt
  have HW5 := hid hw5
  have HN4 := hid hn4
  clear hn4 lk4 st4 hw5 b5 c5 B4 x0 x1 x2 x3 xl y0 y1 y2 y3 y4 y5 y6 y7 yl DQ
  go_upto_region 5 with fail
  rw [← HW5.out]
  go_wp2_with fail
  refine SH.out.mono ?_
  rintro e w6 ⟨rfl, hb6⟩
  have B6 := hid (B5.out.trans (hb6.mono B5.out.size))
  clear hb6 z0 z1 z2 z3 zl
  go_wp2_with fail
  refine (AW.out _).mono ?_
  rintro e w10 ⟨rfl, hb10⟩
  have FN := hid (FIN.out w10 (B6.out.trans (hb10.mono B6.out.size)))
  go_wp2
  first | exact FN.out | (go_ret; exact FN.out)
end Go.Proofs.Ytdjhpldiifdifaa
namespace Go.Proofs.Ytdjhpldiifdifaa.boardOrders
set_option linter.unusedSimpArgs false
set_option linter.unusedVariables false
open Go.RowKit Go.ChangeShapes Go.WideShapes

theorem od_leaves : leaves Try.prog 3 27 = some [.i64, .i64, .i64, .i64, .i64, .i64, .i64, .i64] := by kernel_rfl
theorem eight {vs : List Value} (h : IntsK [.i64, .i64, .i64, .i64, .i64, .i64, .i64, .i64] vs) : ∃ o : Od, vs = o.vals.toList ∧ o.q ≤ 9223372036854775807 := by
  obtain ⟨a, _, rfl, _, _, h⟩ := h.cons
  obtain ⟨b, _, rfl, _, _, h⟩ := h.cons
  obtain ⟨c, _, rfl, _, _, h⟩ := h.cons
  obtain ⟨d, _, rfl, _, _, h⟩ := h.cons
  obtain ⟨e, _, rfl, _, _, h⟩ := h.cons
  obtain ⟨f, _, rfl, _, _, h⟩ := h.cons
  obtain ⟨g, _, rfl, _, g2, h⟩ := h.cons
  obtain ⟨k, _, rfl, _, _, h⟩ := h.cons
  obtain rfl := h.nil
  exact ⟨⟨a, b, c, d, e, f, g, k⟩, rfl, g2⟩
set_option maxRecDepth 100000 in
theorem boardOrders_walk {H : Type} {enc : TypeId × Value → H} (W : World) (args : Array Value) (ds : List (DataW H)) (p : List MemPlace) {base : Nat}
    (hval : ∀ (j : Nat) t v, (#[22, 27] : Array TypeId)[j]? = some t → args[j]? = some v → Value.okWide Try.prog W .any base t v)
    (hA : DataW.TrodAll enc Try.prog W 0 (fun _ => true) true [22, 27] args.toList ds p) : Calls Try.prog 9 args W fun e w' => e = .returned (.bool true) ∧ Below W.heap.size W w' := by
  obtain ⟨v0, vs0, d0, ds0, p0, q0, hargs, rfl, rfl, h0, r0⟩ := trodAll_cons hA
  obtain ⟨v1, vs1, d1, ds1, p1, q1, rfl, rfl, rfl, h1, r1⟩ := trodAll_cons r0
  obtain ⟨rfl, rfl, rfl⟩ := trodAll_nil r1
  obtain rfl : args = #[v0, v1] := by cases args; simp_all
  obtain ⟨l0, hl0, hok0⟩ := acts_open (hval 0 _ v0 rfl rfl) h0
  obtain ⟨cs, rfl, hk⟩ := open_flat od_leaves (fun k hk => by rw [Try.underlying27] at hk; cases hk) (hval 1 _ v1 rfl rfl) h1
  obtain ⟨o, he, hq⟩ := eight hk
  obtain rfl : cs = o.vals := by cases cs; simp_all
  exact single_calls W v0 l0 hl0 hok0 o hq
end Go.Proofs.Ytdjhpldiifdifaa.boardOrders
namespace Go.Proofs.Ytdjhpldiifdifaa.boardOrders
set_option linter.unusedSimpArgs false
set_option linter.unusedVariables false
open Go.ChangeShapes Go.WideShapes Go.ChangeAt Go.RowKit

theorem own : ownKnob Try.prog.godebug = none := by kernel_rfl
theorem laidOut : laidOutB Try.prog = true := by kernel_rfl
theorem readable : ∀ t ∈ [22, 27], Try.prog.readableRec t = true ∧ t < Try.prog.types.size := by
  intro t ht
  simp only [List.mem_cons, List.mem_nil_iff, or_false] at ht
  rcases ht with rfl | rfl <;> exact ⟨by kernel_rfl, of_decide_eq_true (by kernel_rfl)⟩

set_option maxRecDepth 100000 in
theorem lifted (os : Os) (started : os.Started) (H : Type) (enc : TypeId × Value → H) :
    ReturnsInHanded {} Try.checked os 9 .any (Rows.boardOrdersSpec.pre6 enc Try.prog Try.f9 Rows.boardOrdersRow.domain false) (Rows.boardOrdersSpec.post enc Try.prog Try.f9 false true false false) := by
  refine returnsInHanded_of_change (C := Try.checked) own started (by kernel_rfl) Try.func9
    (ChangeSpec.witness6 (enc := enc) (C := Try.checked) false ⟨#[], #[.slice none 0 0, .agg #[.int .i64 0, .int .i64 0, .int .i64 0, .int .i64 0, .int .i64 0, .int .i64 0, .int .i64 0, .int .i64 0]], []⟩ 8 (by kernel_rfl) (by kernel_rfl) (by kernel_rfl) (by kernel_rfl)) ?_
  intro W base args ds gs before hval0 hW hcnd _
  have hval : ∀ (j : Nat) t v, Try.f9.params[j]? = some t → args[j]? = some v → Value.okWide Try.prog W .any base t v := hval0
  have hW' := hW
  obtain ⟨p, q, hA0, hV, rfl, hfz, hnd⟩ := hW
  have hA : DataW.TrodAll enc Try.prog W 0 (fun _ => true) true Try.f9.params.toList args.toList ds p := hA0
  rw [Try.params9] at hA hval
  obtain ⟨rfl, rfl⟩ := trodVars_none hV
  clear hA0 hval0
  simp only [List.append_nil] at hW'
  have hlt : ∀ x ∈ p, x.block < W.heap.size := fun x hx => hW'.lt x hx
  refine (boardOrders_walk W args ds p (base := base) hval hA).mono fun e W' ⟨he, hg⟩ => ?_
  subst he
  have hst := fun sp hs => trodAll_stays laidOut hg [22, 27] args.toList ds p readable hA hlt sp hs
  obtain ⟨v0, vs0, d0, ds0, p0, q0, hargs, rfl, rfl, h0, r0⟩ := trodAll_cons hA
  obtain ⟨v1, vs1, d1, ds1, p1, q1, rfl, rfl, rfl, h1, r1⟩ := trodAll_cons r0
  obtain ⟨rfl, rfl, rfl⟩ := trodAll_nil r1
  exact ⟨_, rfl, post_of_below (pv := []) hW' (fun _ _ _ => (trodAll_cons_mk (shut_bool Try.underlying4 _) trodAll_mk0)) (fun sp hs => hst sp hs) (fun _ _ => rfl) (by simp)
    hg (ok_one (by kernel_rfl) rfl (okWide_bool_mk Try.underlying4 _))⟩

theorem over : Rows.boardOrdersRow.holds Try.pinned (OpenSpec.ofChange Rows.boardOrdersSpec) :=
  OpenClaim.holds_of_wide 9 Try.f9 rfl rfl rfl rfl rfl rfl rfl ⟨rfl, rfl, rfl, rfl, rfl⟩ rfl rfl rfl rfl rfl (by kernel_rfl) Try.func9 (by kernel_rfl)
    (of_decide_eq_true (by kernel_rfl)) (by unfold Func.isWrapper; first | (rw [if_pos (by decide +kernel)]; kernel_rfl) | (rw [if_neg (by decide +kernel)]; exact ⟨rfl, rfl⟩))
    (fun os started H enc _ => lifted os started H enc)

/-- The statement. -/
theorem proved : Rows.BoardOrdersSaid := over
#print axioms proved
end Go.Proofs.Ytdjhpldiifdifaa.boardOrders
