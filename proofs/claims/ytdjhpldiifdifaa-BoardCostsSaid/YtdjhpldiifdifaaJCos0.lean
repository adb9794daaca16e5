/- BoardCosts: the walk. BoardCosts: the arguments opened. BoardCosts: for every input the law returns true, and its arguments read as before. Conditions: none beyond those of the given statement. -/
import Derived.Deep.DeepCutAuto
import Derived.Test.YtdjhpldiifdifaaJRun0
import Derived.Test.YtdjhpldiifdifaaJCtc
import Derived.Test.YtdjhpldiifdifaaJRw5
import Derived.Test.YtdjhpldiifdifaaJOpen
namespace Go.Proofs.Ytdjhpldiifdifaa
set_option linter.unusedSimpArgs false
set_option linter.unusedVariables false
open Go.RowKit Go.Shelf
attribute [local go_sem] Oper.semAt_some
attribute [local go_sem ↓] Go.wp_at_zero Go.wp_at_succ

theorem qty_mod3 (k : Int) : ∃ r : Int, (IntKind.u64.wrap k).tmod 300 = r ∧ IntKind.u64.wrap r = r ∧ IntKind.i64.wrap r = r ∧ IntKind.i64.wrap (1 + r) = 1 + r ∧ 0 ≤ r ∧ r < 300 := by
  have h := u64_nonneg k
  have h2 : 0 ≤ (IntKind.u64.wrap k).tmod 300 ∧ (IntKind.u64.wrap k).tmod 300 < 300 := by
    rw [Int.tmod_eq_emod_of_nonneg h]; omega
  exact ⟨_, rfl, IntWalk.u64_in _ (by omega), IntWalk.i64_in _ (by omega), IntWalk.i64_in _ (by omega), by omega⟩
/-- Cost of both. -/
theorem cost_both {q : Nat} {w : World} {b : Nat} {O : Nat → Nat} {G : Mm} {N : Nat} {last : Int} {vx : Value} {x : Rb} {i : Nat} (k : LkS q w b O G N last vx x i) (s qty : Int) :
    ∃ n m e : Int, (∀ (w' : World) (_ : Below w.heap.size w w'), Calls Try.prog 21 #[pt b, .int .i64 s, .int .i64 qty] w' (fun e' w'' => e' = .returned (.tuple #[.int .i64 n, .int .i64 m, .int .i64 e]) ∧ Below w'.heap.size w' w'')) ∧
      ∀ (w' : World) (_ : Below w.heap.size w w'), Calls Try.prog 35 #[rbV vx x.nums x.turn x.paid, .int .i64 s, .int .i64 qty] w' (fun e' w'' => e' = .returned (.tuple #[.int .i64 n, .int .i64 m, .int .i64 e]) ∧ Below w'.heap.size w' w'') := by
  by_cases h : sideB s = true ∧ inB2 qty 1 1000000000 = true
  · have hs := sideB_iff.1 h.1
    have hq := inB2_iff.1 h.2
    refine ⟨_, _, _, fun w' hb => cost_side (k.grow hb).bd hs hq, fun w' hb => ?_⟩
    rw [← Mm.plain G (other_side hs) N last]
    exact cost_rside w' (k.grow hb).row (k.grow hb).bd.ok (k.grow hb).rel (k.grow hb).len hs hq
  · have hE : costE s qty = 1 := by unfold costE; rw [if_neg h]
    exact ⟨0, 0, 1, fun w' hb => cost_arg w' b hE, fun w' hb => cost_rarg w' (k.grow hb).row x.nums x.turn x.paid hE⟩

set_option maxRecDepth 100000 in
set_option maxHeartbeats 20000000 in
theorem costs_calls (w : World) (v : Value) (l : List Ac) (hv : ReadsE encA 13 w v l) (hok : ∀ x ∈ l, AcOk x) (s0 q0 : Int) :
    Calls Try.prog 11 #[v, .int .i64 s0, .int .i64 q0] w fun e w' => e = .returned (.bool true) ∧ Below w.heap.size w w' := by
  have RU := hid (run_calls w v l hv hok 20 (by omega))
  obtain ⟨R, hR⟩ : ∃ R : Ending → World → Prop, R = fun e w' => e = .returned (.bool true) ∧ Below w.heap.size w w' := ⟨_, rfl⟩
  have FIN := hid (show ∀ w', Below w.heap.size w w' → R (.returned (.bool true)) w' by intro w' h; rw [hR]; exact ⟨rfl, h⟩)
  rw [← hR]
  have AW := hid awake_calls
  obtain ⟨_, p0, cap0, _, _, rfl, _⟩ := hv
  clear hR
  go_enter Try.func11, Try.ntmps11
  go_wp2_with fail
  refine RU.out.mono ?_
  rintro e w2 ⟨b, O, G, N, last, vx, x, i, rfl, lk, hi, hb2, low⟩
  obtain ⟨p9, cap9, _, rfl, _, _⟩ := lk.row.rows
  obtain ⟨n9, hn9⟩ : ∃ n9, n9 = x.L.length := ⟨_, rfl⟩
  rw [← hn9] at lk ⊢
  have HN9 := hid hn9
  obtain ⟨w3, hw3⟩ : ∃ w3, w3 = w2.alloc (.cells #[.slice p9 n9 cap9, .int .i64 x.nums, .int .i64 x.turn, .int .i64 x.paid] 49) := ⟨_, rfl⟩
  have b3 : Below w2.heap.size w2 w3 := by rw [hw3]; exact (Below.refl _ _).alloc (Nat.le_refl _) _
  have K3 := hid (show CtC w w3 w3 b w2.heap.size (grow O w2 0) G N last (.slice p9 n9 cap9) x i from
    ⟨lk.grow b3, hi, by rw [hw3]; exact Cells.new _ _ _, hb2.trans (b3.mono hb2.size), fun k hk => by rw [grow_old (Nat.lt_of_lt_of_le hk hb2.size)]; exact low k hk, Below.refl _ _⟩)
  obtain ⟨r8, hr8⟩ : ∃ r8, r8 = w2.heap.size := ⟨_, rfl⟩
  obtain ⟨O3, hO3⟩ : ∃ O3, O3 = grow O w2 0 := ⟨_, rfl⟩
  rw [← hr8, ← hO3] at K3
  have HR8 := hid hr8
  have HW3 := hid hw3
  clear lk hi hb2 low hw3 b3 RU hn9 hr8 hO3
  unfold rbV
  go_upto_region 4 with fail
  rw [← HW3.out, ← HR8.out]
  go_wp2_with fail
  go_loopg [1, 2, 9] 2 (fun k s1 s2 s9 wq => ∃ (j : Nat) (s qq : Int), j + k = 2 ∧ s9 = .int .i64 j ∧ s1 = .int .i64 s ∧ s2 = .int .i64 qq ∧ Below w3.heap.size w3 wq)
  case atStart => exact ⟨0, s0, q0, by omega, rfl, rfl, rfl, Below.refl _ _⟩
  case round =>
    obtain ⟨j, s, qq, hjk, rfl, rfl, rfl, hb⟩ := hrel
    have HJK := hid hjk
    have SJ := hid (K3.out.after hb)
    obtain ⟨x0, x1, x2, x3, xl⟩ := SJ.out.cell
    clear hjk hb
    by_cases hj : j < 2
    · have gj : (j : Int) < 2 := by omega
      obtain ⟨n, m, er, ca, cb⟩ := cost_both SJ.out.at s qq
      have CA := hid (ca wr (Below.refl _ _))
      have CB := hid cb
      unfold rbV at CB
      obtain ⟨rs, hs1, hs2, hs3, hs4, hs5, hs6⟩ := side_mod s
      obtain ⟨rq, hq1, hq2, hq3, hq4, hq5, hq6⟩ := qty_mod3 qq
      have en : (n != n) = false := by simp
      have em : (m != m) = false := by simp
      have ee : (er != er) = false := by simp
      clear ca cb x0 x1 x2 x3 xl
      go_wp2_with fail
      refine CA.out.mono ?_
      rintro e w5 ⟨rfl, hb5⟩
      have S5 := hid (SJ.out.after hb5)
      have CB5 := hid (CB.out w5 hb5)
      obtain ⟨x0, x1, x2, x3, xl⟩ := S5.out.cell
      clear hb5 CA CB
      go_wp2_with fail
      refine CB5.out.mono ?_
      rintro e w6 ⟨rfl, hb6⟩
      have S6 := hid (S5.out.after hb6)
      clear hb6 x0 x1 x2 x3 xl CB5
      go_wp2
      go_roundg (2 - (j + 1))
      · exact ⟨j + 1, 1 + rs, 1 + rq, by omega, by go_num, rfl, rfl, S6.out.now⟩
      · have := HJK.out; omega
    · have gj : ¬ (j : Int) < 2 := by omega
      have SH := hid (shows_calls SJ.out.at (by have := K3.out.hi; omega))
      unfold rbV at SH
      clear hj
      go_wp2_with fail
      refine SH.out.mono ?_
      rintro e w6 ⟨rfl, hb6⟩
      have S6 := hid (SJ.out.after hb6)
      clear hb6 x0 x1 x2 x3 xl SH
      go_wp2_with fail
      refine (AW.out _).mono ?_
      rintro e w10 ⟨rfl, hb10⟩
      have FN := hid (FIN.out w10 (S6.out.after hb10).out)
      go_wp2
      first | exact FN.out | (go_ret; exact FN.out)
end Go.Proofs.Ytdjhpldiifdifaa
namespace Go.Proofs.Ytdjhpldiifdifaa.boardCosts
set_option linter.unusedSimpArgs false
set_option linter.unusedVariables false
open Go.RowKit Go.ChangeShapes Go.WideShapes

set_option maxRecDepth 100000 in
theorem boardCosts_walk {H : Type} {enc : TypeId × Value → H} (W : World) (args : Array Value) (ds : List (DataW H)) (p : List MemPlace) {base : Nat}
    (hval : ∀ (j : Nat) t v, (#[22, 3, 2] : Array TypeId)[j]? = some t → args[j]? = some v → Value.okWide Try.prog W .any base t v)
    (hA : DataW.TrodAll enc Try.prog W 0 (fun _ => true) true [22, 3, 2] args.toList ds p) : Calls Try.prog 11 args W fun e w' => e = .returned (.bool true) ∧ Below W.heap.size W w' := by
  obtain ⟨v0, vs0, d0, ds0, p0, q0, hargs, rfl, rfl, h0, r0⟩ := trodAll_cons hA
  obtain ⟨v1, vs1, d1, ds1, p1, q1, rfl, rfl, rfl, h1, r1⟩ := trodAll_cons r0
  obtain ⟨v2, vs2, d2, ds2, p2, q2, rfl, rfl, rfl, h2, r2⟩ := trodAll_cons r1
  obtain ⟨rfl, rfl, rfl⟩ := trodAll_nil r2
  obtain rfl : args = #[v0, v1, v2] := by cases args; simp_all
  obtain ⟨l0, hl0, hok0⟩ := acts_open (hval 0 _ v0 rfl rfl) h0
  obtain ⟨x1, rfl, hx1⟩ := open_int Try.underlying3 (hval 1 _ v1 rfl rfl) h1
  obtain ⟨x2, rfl, hx2⟩ := open_int Try.underlying2 (hval 2 _ v2 rfl rfl) h2
  exact costs_calls W v0 l0 hl0 hok0 x1 x2
end Go.Proofs.Ytdjhpldiifdifaa.boardCosts
namespace Go.Proofs.Ytdjhpldiifdifaa.boardCosts
set_option linter.unusedSimpArgs false
set_option linter.unusedVariables false
open Go.ChangeShapes Go.WideShapes Go.ChangeAt Go.RowKit

theorem own : ownKnob Try.prog.godebug = none := by kernel_rfl
theorem laidOut : laidOutB Try.prog = true := by kernel_rfl
theorem readable : ∀ t ∈ [22, 3, 2], Try.prog.readableRec t = true ∧ t < Try.prog.types.size := by
  intro t ht
  simp only [List.mem_cons, List.mem_nil_iff, or_false] at ht
  rcases ht with rfl | rfl | rfl <;> exact ⟨by kernel_rfl, of_decide_eq_true (by kernel_rfl)⟩

set_option maxRecDepth 100000 in
theorem lifted (os : Os) (started : os.Started) (H : Type) (enc : TypeId × Value → H) :
    ReturnsInHanded {} Try.checked os 11 .any (Rows.boardCostsSpec.pre6 enc Try.prog Try.f11 Rows.boardCostsRow.domain false) (Rows.boardCostsSpec.post enc Try.prog Try.f11 false true false false) := by
  refine returnsInHanded_of_change (C := Try.checked) own started (by kernel_rfl) Try.func11
    (ChangeSpec.witness6 (enc := enc) (C := Try.checked) false ⟨#[], #[.slice none 0 0, .int .i64 0, .int .i64 0], []⟩ 8 (by kernel_rfl) (by kernel_rfl) (by kernel_rfl) (by kernel_rfl)) ?_
  intro W base args ds gs before hval0 hW hcnd _
  have hval : ∀ (j : Nat) t v, Try.f11.params[j]? = some t → args[j]? = some v → Value.okWide Try.prog W .any base t v := hval0
  have hW' := hW
  obtain ⟨p, q, hA0, hV, rfl, hfz, hnd⟩ := hW
  have hA : DataW.TrodAll enc Try.prog W 0 (fun _ => true) true Try.f11.params.toList args.toList ds p := hA0
  rw [Try.params11] at hA hval
  obtain ⟨rfl, rfl⟩ := trodVars_none hV
  clear hA0 hval0
  simp only [List.append_nil] at hW'
  have hlt : ∀ x ∈ p, x.block < W.heap.size := fun x hx => hW'.lt x hx
  refine (boardCosts_walk W args ds p (base := base) hval hA).mono fun e W' ⟨he, hg⟩ => ?_
  subst he
  have hst := fun sp hs => trodAll_stays laidOut hg [22, 3, 2] args.toList ds p readable hA hlt sp hs
  obtain ⟨v0, vs0, d0, ds0, p0, q0, hargs, rfl, rfl, h0, r0⟩ := trodAll_cons hA
  obtain ⟨v1, vs1, d1, ds1, p1, q1, rfl, rfl, rfl, h1, r1⟩ := trodAll_cons r0
  obtain ⟨v2, vs2, d2, ds2, p2, q2, rfl, rfl, rfl, h2, r2⟩ := trodAll_cons r1
  obtain ⟨rfl, rfl, rfl⟩ := trodAll_nil r2
  exact ⟨_, rfl, post_of_below (pv := []) hW' (fun _ _ _ => (trodAll_cons_mk (shut_bool Try.underlying4 _) trodAll_mk0)) (fun sp hs => hst sp hs) (fun _ _ => rfl) (by simp)
    hg (ok_one (by kernel_rfl) rfl (okWide_bool_mk Try.underlying4 _))⟩

theorem over : Rows.boardCostsRow.holds Try.pinned (OpenSpec.ofChange Rows.boardCostsSpec) :=
  OpenClaim.holds_of_wide 11 Try.f11 rfl rfl rfl rfl rfl rfl rfl ⟨rfl, rfl, rfl, rfl, rfl⟩ rfl rfl rfl rfl rfl (by kernel_rfl) Try.func11 (by kernel_rfl)
    (of_decide_eq_true (by kernel_rfl)) (by unfold Func.isWrapper; first | (rw [if_pos (by decide +kernel)]; kernel_rfl) | (rw [if_neg (by decide +kernel)]; exact ⟨rfl, rfl⟩))
    (fun os started H enc _ => lifted os started H enc)

/-- The statement. -/
theorem proved : Rows.BoardCostsSaid := over
#print axioms proved
end Go.Proofs.Ytdjhpldiifdifaa.boardCosts
