/- board.Cost. board.Cost: the walk. -/
import Derived.BigQuiet
import Derived.Test.YtdjhpldiifdifaaJBrd1
namespace Go.Proofs.Ytdjhpldiifdifaa
set_option linter.unusedSimpArgs false
set_option linter.unusedVariables false
open Go.RowKit Go.Shelf
attribute [local go_sem] Oper.semAt_some
attribute [local go_sem ↓] Go.wp_at_zero Go.wp_at_succ

/-- How much a market order of a stranger would trade, and for how much. -/
def costF (qty : Int) : List En → Int × Int → Int × Int
  | [], z => z
  | e :: r, z => if z.1 < qty then costF qty r (z.1 + min (qty - z.1) e.l, z.2 + min (qty - z.1) e.l * e.o.p) else z
theorem costF_done {qty : Int} {z : Int × Int} (h : ¬ z.1 < qty) : ∀ l, costF qty l z = z
  | [] => rfl
  | e :: r => by show (if z.1 < qty then _ else z) = z; rw [if_neg h]

set_option maxRecDepth 100000 in
set_option maxHeartbeats 4000000 in
theorem cost1_calls {w : World} {Y B1 B2 B3 : Nat} {y : En} {wy : Bool} {py : Option Nat} {qty f m : Int} (hY : EnC w Y y wy py) (h1 : Cells w B1 #[.int .i64 qty] 2) (h2 : Cells w B2 #[.int .i64 f] 2) (h3 : Cells w B3 #[.int .i64 m] 2)
    (hf : 0 ≤ f ∧ f < qty) (hq : qty ≤ 1000000000) (hm : 0 ≤ m ∧ m ≤ 1000000000000000) (hl : 1 ≤ y.l ∧ y.l ≤ 1000000000) (hp : 0 ≤ y.o.p ∧ y.o.p ≤ 1000000) (n1 : B1 ≠ B2) (n2 : B1 ≠ B3) (n3 : B2 ≠ B3) :
    Calls Try.prog 51 #[pt Y, pt B1, pt B2, pt B3] w fun e w' => e = .returned (.bool (decide (f + min (qty - f) y.l < qty))) ∧ Cells w' B2 #[.int .i64 (f + min (qty - f) y.l)] 2 ∧ Cells w' B3 #[.int .i64 (m + min (qty - f) y.l * y.o.p)] 2 ∧ Kept (fun k => k = B2 ∨ k = B3) w w' := by
  obtain ⟨d, hd⟩ : ∃ d, d = min (qty - f) y.l := ⟨_, rfl⟩
  obtain ⟨z, hz⟩ : ∃ z, z = d * y.o.p := ⟨_, rfl⟩
  have hd1 : 1 ≤ d ∧ d ≤ qty - f ∧ d ≤ y.l := by omega
  have hz0 : 0 ≤ z := by rw [hz]; exact Int.mul_nonneg (by omega) hp.1
  have hz1 : z ≤ 1000000000000000 := by
    rw [hz]
    have h4 : d * y.o.p ≤ 1000000000 * y.o.p := Int.mul_le_mul_of_nonneg_right (by omega) hp.1
    omega
  have y9 : w.cell? ⟨Y, 9, none⟩ = some (.int .i64 y.l) := by rw [Cells.cell hY]; rfl
  have y5 : w.cell? ⟨Y, 5, none⟩ = some (.int .i64 y.o.p) := by rw [Cells.cell hY]; rfl
  have b1 : w.cell? ⟨B1, 0, none⟩ = some (.int .i64 qty) := by rw [h1.cell]; rfl
  have b2 : w.cell? ⟨B2, 0, none⟩ = some (.int .i64 f) := by rw [h2.cell]; rfl
  have b3 : w.cell? ⟨B3, 0, none⟩ = some (.int .i64 m) := by rw [h3.cell]; rfl
  have f2 : w.frozen? ⟨B2, 0, none⟩ = false := h2.frozen 0
  have f3 : w.frozen? ⟨B3, 0, none⟩ = false := h3.frozen 0
  have hYl := hY.lt
  have hB1 := h1.lt
  have hB2 := h2.lt
  have hB3 := h3.lt
  have hny2 : Y ≠ B2 := Cells.ne hY h2 (by decide)
  have hny3 : Y ≠ B3 := Cells.ne hY h3 (by decide)
  obtain ⟨p, hpp⟩ : ∃ p, p = y.o.p := ⟨_, rfl⟩
  obtain ⟨l, hll⟩ : ∃ l, l = y.l := ⟨_, rfl⟩
  rw [← hpp] at y5 hz hp ⊢
  rw [← hll] at y9 hd hl hd1 ⊢
  rw [← hd, ← hz]
  have HZ := hid hz
  have HD := hid hd
  have K := hid (show ∀ wx, wx = ((w.drewN 1).setCell ⟨B2, 0, none⟩ (.int .i64 (f + d))) → True from fun _ _ => trivial)
  obtain ⟨R, hR⟩ : ∃ R : Ending → World → Prop, R = fun e w' => e = .returned (.bool (decide (f + d < qty))) ∧ Cells w' B2 #[.int .i64 (f + d)] 2 ∧ Cells w' B3 #[.int .i64 (m + z)] 2 ∧ Kept (fun k => k = B2 ∨ k = B3) w w' := ⟨_, rfl⟩
  have H2 := hid h2
  have H3 := hid h3
  have HR := hid hR
  rw [← hR]
  clear hz hd hpp hll h1 h2 h3 hY hR K
  go_enter Try.func51, Try.ntmps51
  go_upto_region 1 with fail
  go_cut [6] (fun s6 wx => s6 = .int .i64 d ∧ ∃ n, wx = w.drewN n)
  case first =>
    by_cases hle : qty - f ≤ l
    · have e : d = qty - f := by have := HD.out; omega
      subst e
      go_big_quiet (fail)
      go_wp2
      go_meet
      exact ⟨rfl, _, rfl⟩
    · have e : d = l := by have := HD.out; omega
      subst e
      go_big_quiet (fail)
      all_goals go_wp2
      all_goals go_meet
      all_goals first | exact ⟨rfl, _, rfl⟩ | (exfalso; omega)
  case rest =>
    obtain ⟨rfl, n, rfl⟩ := hcut
    have FIN := hid (show ∀ wx k, wx = (((w.drewN n).setCell ⟨B2, 0, none⟩ (.int .i64 (f + d))).setCell ⟨B3, 0, none⟩ (.int .i64 (m + z))).drewN k → R (.returned (.bool (decide (f + d < qty)))) wx by
      rintro wx k rfl
      rw [HR.out]
      have k1 : Kept (fun k => k = B2 ∨ k = B3) w ((w.drewN n).setCell ⟨B2, 0, none⟩ (.int .i64 (f + d))) := ((Kept.refl _ w).drewN n).set (C := B2) (.inl rfl) 0 _
      have c2 : Cells ((w.drewN n).setCell ⟨B2, 0, none⟩ (.int .i64 (f + d))) B2 #[.int .i64 (f + d)] 2 := (H2.out.drewN n).set 0 _
      have c3 : Cells ((w.drewN n).setCell ⟨B2, 0, none⟩ (.int .i64 (f + d))) B3 #[.int .i64 m] 2 := (H3.out.drewN n).kept ((Kept.refl (fun k => k = B2) _).set (C := B2) rfl 0 _) (fun e => n3 e.symm)
      have c4 := c2.kept (w' := ((w.drewN n).setCell ⟨B2, 0, none⟩ (.int .i64 (f + d))).setCell ⟨B3, 0, none⟩ (.int .i64 (m + z))) ((Kept.refl (fun k => k = B3) _).set (C := B3) rfl 0 _) n3
      exact ⟨rfl, c4.drewN k, (c3.set 0 _).drewN k, (k1.set (C := B3) (.inr rfl) 0 _).drewN k⟩)
    have hzz : d * p = z := HZ.out.symm
    go_wp2
    go_region
    all_goals go_wp2
    all_goals (
      have hx := hzz
      first | exact FIN.out _ _ rfl | (go_ret; exact FIN.out _ _ rfl))
end Go.Proofs.Ytdjhpldiifdifaa
namespace Go.Proofs.Ytdjhpldiifdifaa
set_option linter.unusedSimpArgs false
set_option linter.unusedVariables false
open Go.RowKit Go.Shelf
attribute [local go_sem] Oper.semAt_some
attribute [local go_sem ↓] Go.wp_at_zero Go.wp_at_succ

/-- What Cost refuses. -/
def costE (s qty : Int) : Int := if sideB s = true ∧ inB2 qty 1 1000000000 = true then 0 else 1
/-- The search stands before the k-th entry. -/
structure CoJ (w : World) (B1 B2 B3 : Nat) (qty : Int) (all : List En) (k : Nat) (W : World) : Prop where
  below : Below B1 w W
  one : Cells W B1 #[.int .i64 qty] 2
  two : ∃ f m, Cells W B2 #[.int .i64 f] 2 ∧ Cells W B3 #[.int .i64 m] 2 ∧ 0 ≤ f ∧ f < qty ∧ 0 ≤ m ∧ m ≤ f * 1000000 ∧ costF qty (all.drop k) (f, m) = costF qty all (0, 0)

set_option maxRecDepth 100000 in
set_option maxHeartbeats 4000000 in
theorem cost_side {O : Nat → Nat} {q : Nat} {w : World} {b : Nat} {G : Mm} {nums last : Int} {evs : List Ev} (h : BdC O q w b G nums last evs) {s : Int} (hs : s = 1 ∨ s = 2) {qty : Int} (hq : 1 ≤ qty ∧ qty ≤ 1000000000) :
    Calls Try.prog 21 #[pt b, .int .i64 s, .int .i64 qty] w fun e w' => e = .returned (.tuple #[.int .i64 (costF qty (plainH (G.L (3 - s)) G.en).all (0, 0)).1, .int .i64 (costF qty (plainH (G.L (3 - s)) G.en).all (0, 0)).2, .int .i64 0]) ∧ Below w.heap.size w w' := by
  have ho := other_side hs
  have hok := h.sok ho
  have hl1 := lv_len hok.sh
  have hl2 := few_side (G := G) ho
  have hfew := h.few
  obtain ⟨w1, hw1⟩ : ∃ w1, w1 = ((w.alloc (.cells #[.int .i64 qty] 2)).alloc (.cells #[.int .i64 0] 2)).alloc (.cells #[.int .i64 0] 2) := ⟨_, rfl⟩
  have hk1 : Below w.heap.size w w1 := by rw [hw1]; exact (((Below.refl _ w).alloc (Nat.le_refl _) _).alloc (by simp) _).alloc (by simp; omega) _
  have b1 : Cells w1 w.heap.size #[.int .i64 qty] 2 := by rw [hw1]; exact ((Cells.new w _ _).alloc _).alloc _
  have b2 : Cells w1 (w.heap.size + 1) #[.int .i64 0] 2 := by rw [hw1]; have := (Cells.new (w.alloc (.cells #[.int .i64 qty] 2)) #[.int .i64 0] 2).alloc (.cells #[.int .i64 0] 2); simpa using this
  have b3 : Cells w1 (w.heap.size + 1 + 1) #[.int .i64 0] 2 := by rw [hw1]; have := Cells.new ((w.alloc (.cells #[.int .i64 qty] 2)).alloc (.cells #[.int .i64 0] 2)) #[.int .i64 0] 2; simpa using this
  have st : Step (fun k => k = q) O w (grow O w q) w1 := Step.grow (Kept.of_below hk1)
  have h1 := h.step st (fun c hc => by have := hc.1; omega)
  have hot := other_calls h1.top hs
  rw [← G.other hs] at hot
  have hsd := h1.side ho
  rw [plainH_all]
  have hgr : ∀ k, w.heap.size ≤ k → grow O w q k = q := fun k hk => grow_new hk
  have hcol := colS_cases q ho
  obtain ⟨all, hall⟩ : ∃ all, all = (ensL (G.L (3 - s))).map G.en := ⟨_, rfl⟩
  have hjs : ∀ k W, CoJ w w.heap.size (w.heap.size + 1) (w.heap.size + 1 + 1) qty all k W → Stays (grow O w q) (colS q (3 - s)) w1 W := fun k W hJ => by
    have hsz : w1.heap.size = w.heap.size + 1 + 1 + 1 := by rw [hw1]; simp
    obtain ⟨f, m, hf, hm, _⟩ := hJ.two
    refine ⟨by have := hm.lt; omega, fun k hk hO => ?_⟩
    have hk2 : k < w.heap.size := by
      refine Nat.not_le.1 fun g => ?_
      rw [hgr k g] at hO; omega
    rw [hJ.below.block k hk2, hk1.block k hk2]
  have hea := each_calls hsd (by omega) 51 #[pt w.heap.size, pt (w.heap.size + 1), pt (w.heap.size + 1 + 1)] (enters_of Try.func51 (by kernel_rfl) rfl)
    (CoJ w w.heap.size (w.heap.size + 1) (w.heap.size + 1 + 1) qty all)
    (fun _ W => Below w.heap.size w W ∧ Cells W (w.heap.size + 1) #[.int .i64 (costF qty all (0, 0)).1] 2 ∧ Cells W (w.heap.size + 1 + 1) #[.int .i64 (costF qty all (0, 0)).2] 2)
    ⟨hk1, b1, 0, 0, b2, b3, by omega, by omega, by omega, by omega, rfl⟩ hjs (fun k E W hE hJ => by
      have hJs := hjs k W hJ
      obtain ⟨f, m, cf, cm, hf0, hf1, hm0, hm1, hcf⟩ := hJ.two
      have hEm : E ∈ ensL (G.L (3 - s)) := List.mem_of_getElem? hE
      obtain ⟨hOE, P, eE⟩ := hsd.entry hEm
      have hEok : EnOk (3 - s) nums (G.en E) := hok.mem _ (by rw [plainH_all]; exact List.mem_map.2 ⟨E, hEm, rfl⟩)
      have eE2 : EnC W E (G.en E) false (some P) := (hJs.block E eE.lt hOE).trans eE
      have hqq := okQ hEok.ok
      have hEl := hEok.l
      have hEp := okP hEok.ok hEok.f
      refine (cost1_calls eE2 hJ.one cf cm ⟨hf0, hf1⟩ hq.2 ⟨hm0, by omega⟩ (by omega) (by omega) (by omega) (by omega) (by omega)).mono ?_
      rintro e W' ⟨rfl, r2, r3, r4⟩
      have hbW : Below w.heap.size w W' := hJ.below.trans (r4.below hJ.below.size (fun k hk => by omega))
      have hdrop : all.drop k = G.en E :: all.drop (k + 1) := by
        have hlt := (List.getElem?_eq_some_iff.1 hE).1
        rw [hall, List.drop_eq_getElem_cons (by simpa using hlt)]
        congr 1
        rw [List.getElem_map, (List.getElem?_eq_some_iff.1 hE).2]
      rw [hdrop] at hcf
      have hcf2 : costF qty (all.drop (k + 1)) (f + min (qty - f) (G.en E).l, m + min (qty - f) (G.en E).l * (G.en E).o.p) = costF qty all (0, 0) := by
        rw [← hcf]
        show _ = if f < qty then _ else _
        rw [if_pos hf1]
      obtain ⟨d, hd⟩ : ∃ d, d = min (qty - f) (G.en E).l := ⟨_, rfl⟩
      rw [← hd] at r2 r3 hcf2 ⊢
      have hd1 : 1 ≤ d ∧ d ≤ qty - f := by omega
      have hz0 : 0 ≤ d * (G.en E).o.p := Int.mul_nonneg (by omega) (by omega)
      have hz1 : d * (G.en E).o.p ≤ d * 1000000 := Int.mul_le_mul_of_nonneg_left (by omega) (by omega)
      by_cases hfd : f + d < qty
      · left
        exact ⟨by simp [hfd], hbW, hJ.one.kept r4 (by omega), _, _, r2, r3, by omega, hfd, by omega, by omega, hcf2⟩
      · right
        rw [costF_done hfd] at hcf2
        rw [← hcf2]
        exact ⟨by simp [hfd], hbW, r2, r3⟩)
  have hfin : ∀ w', (CoJ w w.heap.size (w.heap.size + 1) (w.heap.size + 1 + 1) qty all (ensL (G.L (3 - s))).length w' ∨ ∃ k, k < (ensL (G.L (3 - s))).length ∧ Below w.heap.size w w' ∧ Cells w' (w.heap.size + 1) #[.int .i64 (costF qty all (0, 0)).1] 2 ∧ Cells w' (w.heap.size + 1 + 1) #[.int .i64 (costF qty all (0, 0)).2] 2) → Below w.heap.size w w' ∧ Cells w' (w.heap.size + 1) #[.int .i64 (costF qty all (0, 0)).1] 2 ∧ Cells w' (w.heap.size + 1 + 1) #[.int .i64 (costF qty all (0, 0)).2] 2 := by
    rintro w' (hJ | ⟨_, _, h1⟩)
    · obtain ⟨f, m, cf, cm, _, _, _, _, hf⟩ := hJ.two
      rw [List.drop_of_length_le (by rw [hall]; simp)] at hf
      rw [← hf]
      exact ⟨hJ.below, cf, cm⟩
    · exact h1
  have hea := hea.mono (R' := fun e w' => e = .returned (.tuple #[]) ∧ Below w.heap.size w w' ∧ Cells w' (w.heap.size + 1) #[.int .i64 (costF qty all (0, 0)).1] 2 ∧ Cells w' (w.heap.size + 1 + 1) #[.int .i64 (costF qty all (0, 0)).2] 2) (fun e w' ⟨h1, h2⟩ => ⟨h1, hfin w' h2⟩)
  rw [← hall]
  obtain ⟨⟨rf, rm⟩, hr⟩ : ∃ z, z = costF qty all (0, 0) := ⟨_, rfl⟩
  rw [← hr] at hea ⊢
  simp only at hea ⊢
  have HO := hid hot
  have HE := hid hea
  have HW1 := hid hw1
  have c0 : w1.cell? ⟨w.heap.size, 0, none⟩ = some (.int .i64 qty) := by rw [b1.cell]; rfl
  have hl0 := b1.lt
  have g1 : inB2 qty 1 1000000000 = true := inB2_iff.2 hq
  have g2 : sideB s = true := sideB_iff.2 hs
  have SD := hid (isSide_calls s)
  have IN := hid (in_calls qty 1 1000000000)
  rw [g1] at IN
  rw [g2] at SD
  obtain ⟨R, hR⟩ : ∃ R : Ending → World → Prop, R = fun e w' => e = .returned (.tuple #[.int .i64 rf, .int .i64 rm, .int .i64 0]) ∧ Below w.heap.size w w' := ⟨_, rfl⟩
  have HR := hid hR
  rw [← hR]
  clear hea hot h h1 hsd hjs hok hl1 hl2 hfew st hk1 hw1 hfin b1 b2 b3 hgr hcol hall hr hR hs g1 g2 ho
  go_enter Try.func21, Try.ntmps21
  go_wp2_with fail
  refine (SD.out _).mono ?_
  rintro e w2 ⟨rfl, rfl⟩
  rw [← HW1.out]
  go_wp2_with fail
  refine (IN.out _).mono ?_
  rintro e w2 ⟨rfl, rfl⟩
  go_wp2_with fail
  refine HO.out.mono ?_
  rintro e w2 ⟨rfl, rfl⟩
  go_wp2_with fail
  refine HE.out.mono ?_
  rintro e w3 ⟨rfl, hb, hc2, hc3⟩
  have d2 : w3.cell? ⟨w.heap.size + 1, 0, none⟩ = some (.int .i64 rf) := by rw [hc2.cell]; rfl
  have d3 : w3.cell? ⟨w.heap.size + 1 + 1, 0, none⟩ = some (.int .i64 rm) := by rw [hc3.cell]; rfl
  have l2 := hc2.lt
  have l3 := hc3.lt
  have f2 := hc2.frozen 0
  have f3 := hc3.frozen 0
  have HB := hid hb
  have FIN := hid (show ∀ wx, wx = ((w3.setCell ⟨w.heap.size + 1, 0, none⟩ (.int .i64 rf)).setCell ⟨w.heap.size + 1 + 1, 0, none⟩ (.int .i64 rm)).drew → R (.returned (.tuple #[.int .i64 rf, .int .i64 rm, .int .i64 0])) wx by
    rintro wx rfl
    rw [HR.out]
    refine ⟨rfl, Below.drew ?_⟩
    have kk : Kept (fun k => k = w.heap.size + 1 ∨ k = w.heap.size + 1 + 1) w3 ((w3.setCell ⟨w.heap.size + 1, 0, none⟩ (.int .i64 rf)).setCell ⟨w.heap.size + 1 + 1, 0, none⟩ (.int .i64 rm)) := ((Kept.refl _ w3).set (C := w.heap.size + 1) (.inl rfl) 0 _).set (C := w.heap.size + 1 + 1) (.inr rfl) 0 _
    exact HB.out.trans (kk.below HB.out.size (fun k hk => by omega)))
  clear hb hc2 hc3
  go_wp2
  go_region
  all_goals go_wp2
  all_goals (first | exact FIN.out _ rfl | (go_ret; exact FIN.out _ rfl) | (refine bodyPost_ret (v := .tuple #[.int .i64 rf, .int .i64 rm, .int .i64 0]) (by simp [results, Try.results21, go_sem, d2, d3, l2, l3, f2, f3]) rfl (FIN.out _ rfl)))

set_option maxRecDepth 100000 in
set_option maxHeartbeats 4000000 in
theorem cost_arg (w : World) (b : Nat) {s qty : Int} (h : costE s qty = 1) :
    Calls Try.prog 21 #[pt b, .int .i64 s, .int .i64 qty] w fun e w' => e = .returned (.tuple #[.int .i64 0, .int .i64 0, .int .i64 1]) ∧ Below w.heap.size w w' := by
  obtain ⟨w1, hw1⟩ : ∃ w1, w1 = ((w.alloc (.cells #[.int .i64 qty] 2)).alloc (.cells #[.int .i64 0] 2)).alloc (.cells #[.int .i64 0] 2) := ⟨_, rfl⟩
  have hk1 : Below w.heap.size w w1 := by rw [hw1]; exact (((Below.refl _ w).alloc (Nat.le_refl _) _).alloc (by simp) _).alloc (by simp; omega) _
  have b1 : Cells w1 w.heap.size #[.int .i64 qty] 2 := by rw [hw1]; exact ((Cells.new w _ _).alloc _).alloc _
  have b2 : Cells w1 (w.heap.size + 1) #[.int .i64 0] 2 := by rw [hw1]; have := (Cells.new (w.alloc (.cells #[.int .i64 qty] 2)) #[.int .i64 0] 2).alloc (.cells #[.int .i64 0] 2); simpa using this
  have b3 : Cells w1 (w.heap.size + 1 + 1) #[.int .i64 0] 2 := by rw [hw1]; have := Cells.new ((w.alloc (.cells #[.int .i64 qty] 2)).alloc (.cells #[.int .i64 0] 2)) #[.int .i64 0] 2; simpa using this
  have c0 : w1.cell? ⟨w.heap.size, 0, none⟩ = some (.int .i64 qty) := by rw [b1.cell]; rfl
  have d2 : w1.cell? ⟨w.heap.size + 1, 0, none⟩ = some (.int .i64 0) := by rw [b2.cell]; rfl
  have d3 : w1.cell? ⟨w.heap.size + 1 + 1, 0, none⟩ = some (.int .i64 0) := by rw [b3.cell]; rfl
  have l1 := b1.lt
  have l2 := b2.lt
  have l3 := b3.lt
  have f2 := b2.frozen 0
  have f3 := b3.frozen 0
  have HW1 := hid hw1
  have SD := hid (isSide_calls s)
  have IN := hid (in_calls qty 1 1000000000)
  obtain ⟨R, hR⟩ : ∃ R : Ending → World → Prop, R = fun e w' => e = .returned (.tuple #[.int .i64 0, .int .i64 0, .int .i64 1]) ∧ Below w.heap.size w w' := ⟨_, rfl⟩
  have FIN := hid (show ∀ wx, wx = (w1.setCell ⟨w.heap.size + 1, 0, none⟩ (.int .i64 0)).setCell ⟨w.heap.size + 1 + 1, 0, none⟩ (.int .i64 0) → R (.returned (.tuple #[.int .i64 0, .int .i64 0, .int .i64 1])) wx by
    rintro wx rfl
    rw [hR]
    have kk : Kept (fun k => k = w.heap.size + 1 ∨ k = w.heap.size + 1 + 1) w1 ((w1.setCell ⟨w.heap.size + 1, 0, none⟩ (.int .i64 0)).setCell ⟨w.heap.size + 1 + 1, 0, none⟩ (.int .i64 0)) := ((Kept.refl _ w1).set (C := w.heap.size + 1) (.inl rfl) 0 _).set (C := w.heap.size + 1 + 1) (.inr rfl) 0 _
    exact ⟨rfl, hk1.trans (kk.below hk1.size (fun k hk => by omega))⟩)
  rw [← hR]
  have hx : sideB s = false ∨ (sideB s = true ∧ inB2 qty 1 1000000000 = false) := by
    unfold costE at h
    cases h1 : sideB s <;> cases h2 : inB2 qty 1 1000000000 <;> simp_all
  clear hw1 hk1 b1 b2 b3 hR h
  rcases hx with g1 | ⟨g1, g2⟩
  · rw [g1] at SD
    clear g1
    go_enter Try.func21, Try.ntmps21
    go_wp2_with fail
    refine (SD.out _).mono ?_
    rintro e w2 ⟨rfl, rfl⟩
    rw [← HW1.out]
    go_wp2
    all_goals (first | exact FIN.out _ rfl | (go_ret; exact FIN.out _ rfl) | (refine bodyPost_ret (v := .tuple #[.int .i64 0, .int .i64 0, .int .i64 1]) (by simp [results, Try.results21, go_sem, d2, d3, l2, l3, f2, f3]) rfl (FIN.out _ rfl)))
  · rw [g1] at SD
    rw [g2] at IN
    clear g1 g2
    go_enter Try.func21, Try.ntmps21
    go_wp2_with fail
    refine (SD.out _).mono ?_
    rintro e w2 ⟨rfl, rfl⟩
    rw [← HW1.out]
    go_wp2_with fail
    refine (IN.out _).mono ?_
    rintro e w2 ⟨rfl, rfl⟩
    go_wp2
    all_goals (first | exact FIN.out _ rfl | (go_ret; exact FIN.out _ rfl) | (refine bodyPost_ret (v := .tuple #[.int .i64 0, .int .i64 0, .int .i64 1]) (by simp [results, Try.results21, go_sem, d2, d3, l2, l3, f2, f3]) rfl (FIN.out _ rfl)))
end Go.Proofs.Ytdjhpldiifdifaa
