/- call.Clear and call.ClearAt. -/
import Derived.Test.YtepldjidkomclaaGreatJCSv1
import Derived.Test.YtepldjidkomclaaGreatJCZnw
namespace Go.Proofs.YtepldjidkomclaaGreat.Ca
set_option linter.unusedSimpArgs false
set_option linter.unusedVariables false
open Go.RowKit Go.Shelf
attribute [local go_sem] Oper.semAt_some
attribute [local go_sem ↓] Go.wp_at_zero Go.wp_at_succ
def clearF (l : List Bd) (x rule : Int) : ResT := if chk l ≠ 0 then ⟨0, 0, 0, [], chk l⟩ else if inC x 1 1000000 = true ∧ (rule = 1 ∨ rule = 2) then (if priceZ (zonesL l) x = 0 then ⟨0, 0, 0, [], 30⟩ else clrF l (priceZ (zonesL l) x) rule) else ⟨0, 0, 0, [], 1⟩
set_option maxRecDepth 100000 in
set_option maxHeartbeats 8000000 in
theorem clear_calls {w : World} {v : Value} {l : List Bd} (hv : ReadsE encBd 3 w v l) (x rule : Int) :
    Calls Tryz.prog 9 #[v, .int .i64 x, .int .i64 rule] w fun e w' => ResP w.heap.size (clearF l x rule) e w' ∧ Below w.heap.size w w' := by
  obtain ⟨R, hR⟩ : ∃ R : Ending → World → Prop, R = fun e w' => ResP w.heap.size (clearF l x rule) e w' ∧ Below w.heap.size w w' := ⟨_, rfl⟩
  rw [← hR]
  have FM := hid (show ∀ (r : ResT) (vf : Value) w', clearF l x rule = r → RowI w.heap.size w' vf r.f → Below w.heap.size w w' → R (.returned (.tuple #[.agg #[.int .i64 r.p, .int .i64 r.v, .int .i64 r.s, vf], .int .i64 r.e])) w' from fun r vf w' h1 h2 h3 => by rw [hR, h1]; exact ⟨⟨vf, rfl, h2⟩, h3⟩)
  clear hR
  have b1 := (Below.refl w.heap.size w).alloc (Nat.le_refl _) (.cells #[.int .i64 0, .int .i64 0, .int .i64 0, .slice none 0 0] 40)
  have CH := hid (check_calls (hv.below b1))
  have C1 := hid (Cells.new w #[.int .i64 0, .int .i64 0, .int .i64 0, .slice none 0 0] 40)
  have B1 := hid b1
  have IN := hid (fun wx => in_calls x 1 1000000 wx)
  have hrd := hid (fun w' (hb : Below w.heap.size w w') => show ReadsE encBd 3 w' v l from hv.below hb)
  have PR := hid (fun (hc : chk l = 0) (hi : inC x 1 1000000 = true) wx (hb : Below w.heap.size w wx) => price_calls (hrd.out wx hb) (chk_zero hc).1 (chk_zero hc).2 (inC_true hi))
  have CL := hid (fun (hc : chk l = 0) p wx (hb : Below w.heap.size w wx) => cleared_calls (hrd.out wx hb) (chk_zero hc).1 (chk_zero hc).2 p rule)
  unfold clearF at FM
  obtain ⟨c, hc⟩ : ∃ c, c = chk l := ⟨_, rfl⟩
  rw [← hc] at CH FM
  have HC := hid hc
  obtain ⟨b, hb⟩ : ∃ b, b = inC x 1 1000000 := ⟨_, rfl⟩
  have HB := hid hb
  rw [← hb] at IN FM
  obtain ⟨p, hp⟩ : ∃ p, p = priceZ (zonesL l) x := ⟨_, rfl⟩
  rw [← hp] at PR FM
  clear hp
  clear hc hb hv b1
  go_enter Tryz.func9, Tryz.ntmps9
  go_wp2_with fail
  refine CH.out.mono ?_
  rintro e w2 ⟨rfl, hb2⟩
  have B2 := hid (B1.out.trans (hb2.mono B1.out.size))
  have c2 : Cells w2 w.heap.size #[.int .i64 0, .int .i64 0, .int .i64 0, .slice none 0 0] 40 := C1.out.below hb2 (by rw [World.size_alloc]; omega)
  clear hb2 CH C1
  have d0 : w2.cell? ⟨w.heap.size, 0, none⟩ = some (.int .i64 0) := by rw [c2.cell]; rfl
  have d1 : w2.cell? ⟨w.heap.size, 1, none⟩ = some (.int .i64 0) := by rw [c2.cell]; rfl
  have d2 : w2.cell? ⟨w.heap.size, 2, none⟩ = some (.int .i64 0) := by rw [c2.cell]; rfl
  have d3 : w2.cell? ⟨w.heap.size, 3, none⟩ = some (.slice none 0 0) := by rw [c2.cell]; rfl
  have f0 := c2.frozen 0
  have f1 := c2.frozen 1
  have f2 := c2.frozen 2
  have f3 := c2.frozen 3
  have y1 := c2.lt
  by_cases hc0 : c = 0
  · subst hc0
    rw [if_neg (fun h => h rfl)] at FM
    have C2 := hid c2
    by_cases hbr : b = true ∧ (rule = 1 ∨ rule = 2)
    · rw [if_pos hbr] at FM
      obtain ⟨rfl, hr⟩ := hbr
      clear c2
      have G : (rule != 1) = false ∨ (rule != 1) = true ∧ (rule != 2) = false := by
        rcases hr with rfl | rfl
        · exact .inl rfl
        · exact .inr ⟨rfl, rfl⟩
      clear hr
      have PRX := hid (fun wx (hb : Below w.heap.size w wx) => PR.out HC.out.symm HB.out.symm wx hb)
      have CLX := hid (fun wx (hb : Below w.heap.size w wx) => CL.out HC.out.symm p wx hb)
      clear PR CL
      by_cases hp0 : p = 0
      · rw [if_pos hp0] at FM
        have e1 : (p == 0) = true := by simpa using hp0
        clear hp0
        rcases G with g1 | ⟨g1, g2⟩
        all_goals (
          go_wp2_with (go_at_call 28; refine (IN.out _).mono ?_; rintro e w3 ⟨rfl, rfl⟩)
          refine (PRX.out _ B2.out).mono ?_
          rintro e w5 ⟨rfl, hb5⟩
          have c5 := C2.out.below hb5 C2.out.lt
          have B5 := hid (B2.out.trans (hb5.mono B2.out.size))
          clear hb5 d0 d1 d2 d3 f0 f1 f2 f3 y1
          have d0 : w5.cell? ⟨w.heap.size, 0, none⟩ = some (.int .i64 0) := by rw [c5.cell]; rfl
          have d1 : w5.cell? ⟨w.heap.size, 1, none⟩ = some (.int .i64 0) := by rw [c5.cell]; rfl
          have d2 : w5.cell? ⟨w.heap.size, 2, none⟩ = some (.int .i64 0) := by rw [c5.cell]; rfl
          have d3 : w5.cell? ⟨w.heap.size, 3, none⟩ = some (.slice none 0 0) := by rw [c5.cell]; rfl
          have f0 := c5.frozen 0
          have f1 := c5.frozen 1
          have f2 := c5.frozen 2
          have f3 := c5.frozen 3
          have y1 := c5.lt
          obtain ⟨q1, q3⟩ := set4_spec c5 (.int .i64 0) (.int .i64 0) (.int .i64 0) (.slice none 0 0)
          have q2 := hid (B5.out.trans (q3.below B5.out.size (fun k hk => by omega)))
          have q5 := hid q1
          have q3 := hid q3
          clear q1
          go_wp2
          show bodyPost _ _ _ _ _ (set4 w5 w.heap.size (.int .i64 0) (.int .i64 0) (.int .i64 0) (.slice none 0 0))
          obtain ⟨w4, hw4⟩ : ∃ w4, w4 = set4 w5 w.heap.size (.int .i64 0) (.int .i64 0) (.int .i64 0) (.slice none 0 0) := ⟨_, rfl⟩
          rw [← hw4] at q2 q3 q5 ⊢
          clear hw4
          have m0 : w4.cell? ⟨w.heap.size, 0, none⟩ = some (.int .i64 0) := by rw [q5.out.cell]; rfl
          have m1 : w4.cell? ⟨w.heap.size, 1, none⟩ = some (.int .i64 0) := by rw [q5.out.cell]; rfl
          have m2 : w4.cell? ⟨w.heap.size, 2, none⟩ = some (.int .i64 0) := by rw [q5.out.cell]; rfl
          have m3 : w4.cell? ⟨w.heap.size, 3, none⟩ = some (.slice none 0 0) := by rw [q5.out.cell]; rfl
          exact bodyPost_ret (v := .tuple #[.agg #[.int .i64 0, .int .i64 0, .int .i64 0, .slice none 0 0], .int .i64 30]) (by simp [results, Tryz.results9, go_sem, m0, m1, m2, m3]) rfl (FM.out _ _ w4 rfl (OwnE.nil _ _) q2.out))
      · rw [if_neg hp0] at FM
        have e1 : (p == 0) = false := by simpa using hp0
        clear hp0
        rcases G with g1 | ⟨g1, g2⟩
        all_goals (
          go_wp2_with (go_at_call 28; refine (IN.out _).mono ?_; rintro e w3 ⟨rfl, rfl⟩)
          refine (PRX.out _ B2.out).mono ?_
          rintro e w3 ⟨rfl, hb3⟩
          have B3 := hid (B2.out.trans (hb3.mono B2.out.size))
          have C3 := hid (C2.out.below hb3 C2.out.lt)
          clear hb3
          go_wp2_with fail
          refine (CLX.out _ B3.out).mono ?_
          rintro e w5 ⟨⟨vf, rfl, hr5⟩, hb5⟩
          obtain ⟨pf, cf, hvf, hh⟩ := hr5.form
          obtain ⟨nf, hnf⟩ : ∃ nf, nf = (clrF l p rule).f.length := ⟨_, rfl⟩
          rw [← hnf] at hvf
          subst hvf
          have HH := hid hh
          clear hnf hh
          have c5 := C3.out.below hb5 C3.out.lt
          have B5 := hid (B3.out.trans (hb5.mono B3.out.size))
          have R5 := hid hr5
          clear hr5 hb5 d0 d1 d2 d3 f0 f1 f2 f3 y1
          have d0 : w5.cell? ⟨w.heap.size, 0, none⟩ = some (.int .i64 0) := by rw [c5.cell]; rfl
          have d1 : w5.cell? ⟨w.heap.size, 1, none⟩ = some (.int .i64 0) := by rw [c5.cell]; rfl
          have d2 : w5.cell? ⟨w.heap.size, 2, none⟩ = some (.int .i64 0) := by rw [c5.cell]; rfl
          have d3 : w5.cell? ⟨w.heap.size, 3, none⟩ = some (.slice none 0 0) := by rw [c5.cell]; rfl
          have f0 := c5.frozen 0
          have f1 := c5.frozen 1
          have f2 := c5.frozen 2
          have f3 := c5.frozen 3
          have y1 := c5.lt
          obtain ⟨q1, q3⟩ := set4_spec c5 (.int .i64 (clrF l p rule).p) (.int .i64 (clrF l p rule).v) (.int .i64 (clrF l p rule).s) (.slice pf nf cf)
          have q2 := hid (B5.out.trans (q3.below B5.out.size (fun k hk => by omega)))
          have q5 := hid q1
          have q3 := hid q3
          clear q1
          go_wp2
          show bodyPost _ _ _ _ _ (set4 w5 w.heap.size (.int .i64 (clrF l p rule).p) (.int .i64 (clrF l p rule).v) (.int .i64 (clrF l p rule).s) (.slice pf nf cf))
          obtain ⟨w4, hw4⟩ : ∃ w4, w4 = set4 w5 w.heap.size (.int .i64 (clrF l p rule).p) (.int .i64 (clrF l p rule).v) (.int .i64 (clrF l p rule).s) (.slice pf nf cf) := ⟨_, rfl⟩
          rw [← hw4] at q2 q3 q5 ⊢
          clear hw4
          have m0 : w4.cell? ⟨w.heap.size, 0, none⟩ = some (.int .i64 (clrF l p rule).p) := by rw [q5.out.cell]; rfl
          have m1 : w4.cell? ⟨w.heap.size, 1, none⟩ = some (.int .i64 (clrF l p rule).v) := by rw [q5.out.cell]; rfl
          have m2 : w4.cell? ⟨w.heap.size, 2, none⟩ = some (.int .i64 (clrF l p rule).s) := by rw [q5.out.cell]; rfl
          have m3 : w4.cell? ⟨w.heap.size, 3, none⟩ = some (.slice pf nf cf) := by rw [q5.out.cell]; rfl
          exact bodyPost_ret (v := .tuple #[.agg #[.int .i64 (clrF l p rule).p, .int .i64 (clrF l p rule).v, .int .i64 (clrF l p rule).s, .slice pf nf cf], .int .i64 (clrF l p rule).e]) (by simp [results, Tryz.results9, go_sem, m0, m1, m2, m3]) rfl (FM.out (clrF l p rule) (.slice pf nf cf) w4 rfl ((R5.out.mono B3.out.size).kept q3.out (fun k hk e => by rcases HH.out with ⟨rfl, _⟩ | ⟨g, rfl, hg, _⟩ <;> cases hk; have e2 : g = w.heap.size := e; have := C3.out.lt; omega)) q2.out))
    · rw [if_neg hbr] at FM
      cases b with
      | true =>
        have g1 : (rule != 1) = true := by
          have : ¬ rule = 1 := fun h => hbr ⟨rfl, .inl h⟩
          simpa using this
        have g2 : (rule != 2) = true := by
          have : ¬ rule = 2 := fun h => hbr ⟨rfl, .inr h⟩
          simpa using this
        clear hbr c2
        go_upto_region 5 with (go_at_call 28; refine (IN.out _).mono ?_; rintro e w3 ⟨rfl, rfl⟩)
        obtain ⟨q1, q3⟩ := set4_spec C2.out (.int .i64 0) (.int .i64 0) (.int .i64 0) (.slice none 0 0)
        have q2 := hid (B2.out.trans (q3.below B2.out.size (fun k hk => by omega)))
        have q5 := hid q1
        have q3 := hid q3
        clear q1
        go_wp2
        show bodyPost _ _ _ _ _ (set4 w3 w.heap.size (.int .i64 0) (.int .i64 0) (.int .i64 0) (.slice none 0 0))
        obtain ⟨w4, hw4⟩ : ∃ w4, w4 = set4 w3 w.heap.size (.int .i64 0) (.int .i64 0) (.int .i64 0) (.slice none 0 0) := ⟨_, rfl⟩
        rw [← hw4] at q2 q3 q5 ⊢
        clear hw4
        have m0 : w4.cell? ⟨w.heap.size, 0, none⟩ = some (.int .i64 0) := by rw [q5.out.cell]; rfl
        have m1 : w4.cell? ⟨w.heap.size, 1, none⟩ = some (.int .i64 0) := by rw [q5.out.cell]; rfl
        have m2 : w4.cell? ⟨w.heap.size, 2, none⟩ = some (.int .i64 0) := by rw [q5.out.cell]; rfl
        have m3 : w4.cell? ⟨w.heap.size, 3, none⟩ = some (.slice none 0 0) := by rw [q5.out.cell]; rfl
        exact bodyPost_ret (v := .tuple #[.agg #[.int .i64 0, .int .i64 0, .int .i64 0, .slice none 0 0], .int .i64 1]) (by simp [results, Tryz.results9, go_sem, m0, m1, m2, m3]) rfl (FM.out _ _ w4 rfl (OwnE.nil _ _) q2.out)
      | false =>
        clear hbr c2
        go_upto_region 5 with (go_at_call 28; refine (IN.out _).mono ?_; rintro e w3 ⟨rfl, rfl⟩)
        obtain ⟨q1, q3⟩ := set4_spec C2.out (.int .i64 0) (.int .i64 0) (.int .i64 0) (.slice none 0 0)
        have q2 := hid (B2.out.trans (q3.below B2.out.size (fun k hk => by omega)))
        have q5 := hid q1
        have q3 := hid q3
        clear q1
        go_wp2
        show bodyPost _ _ _ _ _ (set4 w3 w.heap.size (.int .i64 0) (.int .i64 0) (.int .i64 0) (.slice none 0 0))
        obtain ⟨w4, hw4⟩ : ∃ w4, w4 = set4 w3 w.heap.size (.int .i64 0) (.int .i64 0) (.int .i64 0) (.slice none 0 0) := ⟨_, rfl⟩
        rw [← hw4] at q2 q3 q5 ⊢
        clear hw4
        have m0 : w4.cell? ⟨w.heap.size, 0, none⟩ = some (.int .i64 0) := by rw [q5.out.cell]; rfl
        have m1 : w4.cell? ⟨w.heap.size, 1, none⟩ = some (.int .i64 0) := by rw [q5.out.cell]; rfl
        have m2 : w4.cell? ⟨w.heap.size, 2, none⟩ = some (.int .i64 0) := by rw [q5.out.cell]; rfl
        have m3 : w4.cell? ⟨w.heap.size, 3, none⟩ = some (.slice none 0 0) := by rw [q5.out.cell]; rfl
        exact bodyPost_ret (v := .tuple #[.agg #[.int .i64 0, .int .i64 0, .int .i64 0, .slice none 0 0], .int .i64 1]) (by simp [results, Tryz.results9, go_sem, m0, m1, m2, m3]) rfl (FM.out _ _ w4 rfl (OwnE.nil _ _) q2.out)
  · rw [if_pos hc0] at FM
    have e1 : (c != 0) = true := by simpa using hc0
    have C2 := hid c2
    clear hc0 c2
    obtain ⟨q1, q3⟩ := set4_spec C2.out (.int .i64 0) (.int .i64 0) (.int .i64 0) (.slice none 0 0)
    have q2 := hid (B2.out.trans (q3.below B2.out.size (fun k hk => by omega)))
    have q5 := hid q1
    have q3 := hid q3
    clear q1
    go_wp2
    show bodyPost _ _ _ _ _ (set4 w2 w.heap.size (.int .i64 0) (.int .i64 0) (.int .i64 0) (.slice none 0 0))
    obtain ⟨w4, hw4⟩ : ∃ w4, w4 = set4 w2 w.heap.size (.int .i64 0) (.int .i64 0) (.int .i64 0) (.slice none 0 0) := ⟨_, rfl⟩
    rw [← hw4] at q2 q3 q5 ⊢
    clear hw4
    have m0 : w4.cell? ⟨w.heap.size, 0, none⟩ = some (.int .i64 0) := by rw [q5.out.cell]; rfl
    have m1 : w4.cell? ⟨w.heap.size, 1, none⟩ = some (.int .i64 0) := by rw [q5.out.cell]; rfl
    have m2 : w4.cell? ⟨w.heap.size, 2, none⟩ = some (.int .i64 0) := by rw [q5.out.cell]; rfl
    have m3 : w4.cell? ⟨w.heap.size, 3, none⟩ = some (.slice none 0 0) := by rw [q5.out.cell]; rfl
    exact bodyPost_ret (v := .tuple #[.agg #[.int .i64 0, .int .i64 0, .int .i64 0, .slice none 0 0], .int .i64 c]) (by simp [results, Tryz.results9, go_sem, m0, m1, m2, m3]) rfl (FM.out _ _ w4 rfl (OwnE.nil _ _) q2.out)
end Go.Proofs.YtepldjidkomclaaGreat.Ca
