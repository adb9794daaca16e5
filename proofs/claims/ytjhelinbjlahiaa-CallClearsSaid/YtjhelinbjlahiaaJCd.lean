/- call.Clear and call.ClearAt. call.Best. -/
import Derived.Test.YtjhelinbjlahiaaJCc0
import Derived.Test.YtjhelinbjlahiaaJCa
namespace Go.Proofs.Ytjhelinbjlahiaa
set_option linter.unusedSimpArgs false
set_option linter.unusedVariables false
open Go.RowKit Go.Shelf
attribute [local go_sem] Oper.semAt_some
attribute [local go_sem ↓] Go.wp_at_zero Go.wp_at_succ
/-- What Clear answers. -/
def clearF (l : List Bd) (x rule : Int) : ResT := if chk l ≠ 0 then ⟨0, 0, 0, [], chk l⟩ else if inC x 1 1000000 = true ∧ (rule = 1 ∨ rule = 2) then (if priceZ (zonesL l) x = 0 then ⟨0, 0, 0, [], 30⟩ else clrF l (priceZ (zonesL l) x) rule) else ⟨0, 0, 0, [], 1⟩
/-- What ClearAt answers. -/
def clearAtF (l : List Bd) (x rule : Int) : ResT := if chk l ≠ 0 then ⟨0, 0, 0, [], chk l⟩ else if inC x 1 1000000 = true ∧ (rule = 1 ∨ rule = 2) then clrF l x rule else ⟨0, 0, 0, [], 1⟩

set_option maxRecDepth 100000 in
set_option maxHeartbeats 8000000 in
theorem clearAt_calls {w : World} {v : Value} {l : List Bd} (hv : ReadsE encBd 3 w v l) (x rule : Int) :
    Calls Try.prog 21 #[v, .int .i64 x, .int .i64 rule] w fun e w' => ResP w.heap.size (clearAtF l x rule) e w' ∧ Below w.heap.size w w' := by
  obtain ⟨R, hR⟩ : ∃ R : Ending → World → Prop, R = fun e w' => ResP w.heap.size (clearAtF l x rule) e w' ∧ Below w.heap.size w w' := ⟨_, rfl⟩
  rw [← hR]
  have FM := hid (show ∀ (r : ResT) (vf : Value) w', clearAtF l x rule = r → RowI w.heap.size w' vf r.f → Below w.heap.size w w' → R (.returned (.tuple #[.agg #[.int .i64 r.p, .int .i64 r.v, .int .i64 r.s, vf], .int .i64 r.e])) w' from fun r vf w' h1 h2 h3 => by rw [hR, h1]; exact ⟨⟨vf, rfl, h2⟩, h3⟩)
  clear hR
  have b1 := (Below.refl w.heap.size w).alloc (Nat.le_refl _) (.cells #[.int .i64 0, .int .i64 0, .int .i64 0, .slice none 0 0] 26)
  have CH := hid (check_calls (hv.below b1))
  have C1 := hid (Cells.new w #[.int .i64 0, .int .i64 0, .int .i64 0, .slice none 0 0] 26)
  have B1 := hid b1
  have IN := hid (fun wx => in_calls x 1 1000000 wx)
  have hrd := hid (fun w' (hb : Below w.heap.size w w') => show ReadsE encBd 3 w' v l from hv.below hb)
  have CL := hid (fun (hc : chk l = 0) p wx (hb : Below w.heap.size w wx) => cleared_calls (hrd.out wx hb) (chk_zero hc).1 (chk_zero hc).2 p rule)
  unfold clearAtF at FM
  obtain ⟨c, hc⟩ : ∃ c, c = chk l := ⟨_, rfl⟩
  rw [← hc] at CH FM
  have HC := hid hc
  obtain ⟨b, hb⟩ : ∃ b, b = inC x 1 1000000 := ⟨_, rfl⟩
  have HB := hid hb
  rw [← hb] at IN FM
  clear hc hb hv b1
  go_enter Try.func21, Try.ntmps21
  go_wp2_with fail
  refine CH.out.mono ?_
  rintro e w2 ⟨rfl, hb2⟩
  have B2 := hid (B1.out.trans (hb2.mono B1.out.size))
  have c2 : Cells w2 w.heap.size #[.int .i64 0, .int .i64 0, .int .i64 0, .slice none 0 0] 26 := C1.out.below hb2 (by rw [World.size_alloc]; omega)
  clear hb2 CH C1
  have d0 : w2.cell? ⟨w.heap.size, 0, none⟩ = some (.int .i64 0) := by rw [c2.cell]; rfl
  have d1 : w2.cell? ⟨w.heap.size, 1, none⟩ = some (.int .i64 0) := by rw [c2.cell]; rfl
  have d2 : w2.cell? ⟨w.heap.size, 2, none⟩ = some (.int .i64 0) := by rw [c2.cell]; rfl
  have d3 : w2.cell? ⟨w.heap.size, 3, none⟩ = some (.slice none 0 0) := by rw [c2.cell]; rfl
  have f0 := c2.frozen 0
  have f1 := c2.frozen 1
  have f2 := c2.frozen 2
  have f3 := c2.frozen 3
  have y1 := c2.lt
  by_cases hc0 : c = 0
  · subst hc0
    rw [if_neg (fun h => h rfl)] at FM
    have C2 := hid c2
    by_cases hbr : b = true ∧ (rule = 1 ∨ rule = 2)
    · rw [if_pos hbr] at FM
      obtain ⟨rfl, hr⟩ := hbr
      clear c2
      have G : (rule != 1) = false ∨ (rule != 1) = true ∧ (rule != 2) = false := by
        rcases hr with rfl | rfl
        · exact .inl rfl
        · exact .inr ⟨rfl, rfl⟩
      clear hr
      have CLX := hid (fun wx (hb : Below w.heap.size w wx) => CL.out HC.out.symm x wx hb)
      rcases G with g1 | ⟨g1, g2⟩
      all_goals (
        go_wp2_with (go_at_call 40; refine (IN.out _).mono ?_; rintro e w3 ⟨rfl, rfl⟩)
        refine (CLX.out _ B2.out).mono ?_
        rintro e w5 ⟨⟨vf, rfl, hr5⟩, hb5⟩
        obtain ⟨pf, cf, hvf, hh⟩ := hr5.form
        obtain ⟨nf, hnf⟩ : ∃ nf, nf = (clrF l x rule).f.length := ⟨_, rfl⟩
        rw [← hnf] at hvf
        subst hvf
        have HH := hid hh
        clear hnf hh
        have c5 := C2.out.below hb5 C2.out.lt
        have B5 := hid (B2.out.trans (hb5.mono B2.out.size))
        have R5 := hid hr5
        clear hr5 hb5 d0 d1 d2 d3 f0 f1 f2 f3 y1
        have d0 : w5.cell? ⟨w.heap.size, 0, none⟩ = some (.int .i64 0) := by rw [c5.cell]; rfl
        have d1 : w5.cell? ⟨w.heap.size, 1, none⟩ = some (.int .i64 0) := by rw [c5.cell]; rfl
        have d2 : w5.cell? ⟨w.heap.size, 2, none⟩ = some (.int .i64 0) := by rw [c5.cell]; rfl
        have d3 : w5.cell? ⟨w.heap.size, 3, none⟩ = some (.slice none 0 0) := by rw [c5.cell]; rfl
        have f0 := c5.frozen 0
        have f1 := c5.frozen 1
        have f2 := c5.frozen 2
        have f3 := c5.frozen 3
        have y1 := c5.lt
        obtain ⟨q1, q3⟩ := set4_spec c5 (.int .i64 (clrF l x rule).p) (.int .i64 (clrF l x rule).v) (.int .i64 (clrF l x rule).s) (.slice pf nf cf)
        have q2 := hid (B5.out.trans (q3.below B5.out.size (fun k hk => by omega)))
        have q5 := hid q1
        have q3 := hid q3
        clear q1
        go_wp2
        show bodyPost _ _ _ _ _ (set4 w5 w.heap.size (.int .i64 (clrF l x rule).p) (.int .i64 (clrF l x rule).v) (.int .i64 (clrF l x rule).s) (.slice pf nf cf))
        obtain ⟨w4, hw4⟩ : ∃ w4, w4 = set4 w5 w.heap.size (.int .i64 (clrF l x rule).p) (.int .i64 (clrF l x rule).v) (.int .i64 (clrF l x rule).s) (.slice pf nf cf) := ⟨_, rfl⟩
        rw [← hw4] at q2 q3 q5 ⊢
        clear hw4
        have m0 : w4.cell? ⟨w.heap.size, 0, none⟩ = some (.int .i64 (clrF l x rule).p) := by rw [q5.out.cell]; rfl
        have m1 : w4.cell? ⟨w.heap.size, 1, none⟩ = some (.int .i64 (clrF l x rule).v) := by rw [q5.out.cell]; rfl
        have m2 : w4.cell? ⟨w.heap.size, 2, none⟩ = some (.int .i64 (clrF l x rule).s) := by rw [q5.out.cell]; rfl
        have m3 : w4.cell? ⟨w.heap.size, 3, none⟩ = some (.slice pf nf cf) := by rw [q5.out.cell]; rfl
        exact bodyPost_ret (v := .tuple #[.agg #[.int .i64 (clrF l x rule).p, .int .i64 (clrF l x rule).v, .int .i64 (clrF l x rule).s, .slice pf nf cf], .int .i64 (clrF l x rule).e]) (by simp [results, Try.results21, go_sem, m0, m1, m2, m3]) rfl (FM.out (clrF l x rule) (.slice pf nf cf) w4 rfl ((R5.out.mono B2.out.size).kept q3.out (fun k hk e => by rcases HH.out with ⟨rfl, _⟩ | ⟨g, rfl, hg, _⟩ <;> cases hk; have e2 : g = w.heap.size := e; have := C2.out.lt; omega)) q2.out))
    · rw [if_neg hbr] at FM
      cases b with
      | true =>
        have g1 : (rule != 1) = true := by
          have : ¬ rule = 1 := fun h => hbr ⟨rfl, .inl h⟩
          simpa using this
        have g2 : (rule != 2) = true := by
          have : ¬ rule = 2 := fun h => hbr ⟨rfl, .inr h⟩
          simpa using this
        clear hbr c2
        go_upto_region 5 with (go_at_call 40; refine (IN.out _).mono ?_; rintro e w3 ⟨rfl, rfl⟩)
        obtain ⟨q1, q3⟩ := set4_spec C2.out (.int .i64 0) (.int .i64 0) (.int .i64 0) (.slice none 0 0)
        have q2 := hid (B2.out.trans (q3.below B2.out.size (fun k hk => by omega)))
        have q5 := hid q1
        have q3 := hid q3
        clear q1
        go_wp2
        show bodyPost _ _ _ _ _ (set4 w3 w.heap.size (.int .i64 0) (.int .i64 0) (.int .i64 0) (.slice none 0 0))
        obtain ⟨w4, hw4⟩ : ∃ w4, w4 = set4 w3 w.heap.size (.int .i64 0) (.int .i64 0) (.int .i64 0) (.slice none 0 0) := ⟨_, rfl⟩
        rw [← hw4] at q2 q3 q5 ⊢
        clear hw4
        have m0 : w4.cell? ⟨w.heap.size, 0, none⟩ = some (.int .i64 0) := by rw [q5.out.cell]; rfl
        have m1 : w4.cell? ⟨w.heap.size, 1, none⟩ = some (.int .i64 0) := by rw [q5.out.cell]; rfl
        have m2 : w4.cell? ⟨w.heap.size, 2, none⟩ = some (.int .i64 0) := by rw [q5.out.cell]; rfl
        have m3 : w4.cell? ⟨w.heap.size, 3, none⟩ = some (.slice none 0 0) := by rw [q5.out.cell]; rfl
        exact bodyPost_ret (v := .tuple #[.agg #[.int .i64 0, .int .i64 0, .int .i64 0, .slice none 0 0], .int .i64 1]) (by simp [results, Try.results21, go_sem, m0, m1, m2, m3]) rfl (FM.out _ _ w4 rfl (OwnE.nil _ _) q2.out)
      | false =>
        clear hbr c2
        go_upto_region 5 with (go_at_call 40; refine (IN.out _).mono ?_; rintro e w3 ⟨rfl, rfl⟩)
        obtain ⟨q1, q3⟩ := set4_spec C2.out (.int .i64 0) (.int .i64 0) (.int .i64 0) (.slice none 0 0)
        have q2 := hid (B2.out.trans (q3.below B2.out.size (fun k hk => by omega)))
        have q5 := hid q1
        have q3 := hid q3
        clear q1
        go_wp2
        show bodyPost _ _ _ _ _ (set4 w3 w.heap.size (.int .i64 0) (.int .i64 0) (.int .i64 0) (.slice none 0 0))
        obtain ⟨w4, hw4⟩ : ∃ w4, w4 = set4 w3 w.heap.size (.int .i64 0) (.int .i64 0) (.int .i64 0) (.slice none 0 0) := ⟨_, rfl⟩
        rw [← hw4] at q2 q3 q5 ⊢
        clear hw4
        have m0 : w4.cell? ⟨w.heap.size, 0, none⟩ = some (.int .i64 0) := by rw [q5.out.cell]; rfl
        have m1 : w4.cell? ⟨w.heap.size, 1, none⟩ = some (.int .i64 0) := by rw [q5.out.cell]; rfl
        have m2 : w4.cell? ⟨w.heap.size, 2, none⟩ = some (.int .i64 0) := by rw [q5.out.cell]; rfl
        have m3 : w4.cell? ⟨w.heap.size, 3, none⟩ = some (.slice none 0 0) := by rw [q5.out.cell]; rfl
        exact bodyPost_ret (v := .tuple #[.agg #[.int .i64 0, .int .i64 0, .int .i64 0, .slice none 0 0], .int .i64 1]) (by simp [results, Try.results21, go_sem, m0, m1, m2, m3]) rfl (FM.out _ _ w4 rfl (OwnE.nil _ _) q2.out)
  · rw [if_pos hc0] at FM
    have e1 : (c != 0) = true := by simpa using hc0
    have C2 := hid c2
    clear hc0 c2
    obtain ⟨q1, q3⟩ := set4_spec C2.out (.int .i64 0) (.int .i64 0) (.int .i64 0) (.slice none 0 0)
    have q2 := hid (B2.out.trans (q3.below B2.out.size (fun k hk => by omega)))
    have q5 := hid q1
    have q3 := hid q3
    clear q1
    go_wp2
    show bodyPost _ _ _ _ _ (set4 w2 w.heap.size (.int .i64 0) (.int .i64 0) (.int .i64 0) (.slice none 0 0))
    obtain ⟨w4, hw4⟩ : ∃ w4, w4 = set4 w2 w.heap.size (.int .i64 0) (.int .i64 0) (.int .i64 0) (.slice none 0 0) := ⟨_, rfl⟩
    rw [← hw4] at q2 q3 q5 ⊢
    clear hw4
    have m0 : w4.cell? ⟨w.heap.size, 0, none⟩ = some (.int .i64 0) := by rw [q5.out.cell]; rfl
    have m1 : w4.cell? ⟨w.heap.size, 1, none⟩ = some (.int .i64 0) := by rw [q5.out.cell]; rfl
    have m2 : w4.cell? ⟨w.heap.size, 2, none⟩ = some (.int .i64 0) := by rw [q5.out.cell]; rfl
    have m3 : w4.cell? ⟨w.heap.size, 3, none⟩ = some (.slice none 0 0) := by rw [q5.out.cell]; rfl
    exact bodyPost_ret (v := .tuple #[.agg #[.int .i64 0, .int .i64 0, .int .i64 0, .slice none 0 0], .int .i64 c]) (by simp [results, Try.results21, go_sem, m0, m1, m2, m3]) rfl (FM.out _ _ w4 rfl (OwnE.nil _ _) q2.out)

set_option maxRecDepth 100000 in
set_option maxHeartbeats 8000000 in
theorem clear_calls {w : World} {v : Value} {l : List Bd} (hv : ReadsE encBd 3 w v l) (x rule : Int) :
    Calls Try.prog 15 #[v, .int .i64 x, .int .i64 rule] w fun e w' => ResP w.heap.size (clearF l x rule) e w' ∧ Below w.heap.size w w' := by
  obtain ⟨R, hR⟩ : ∃ R : Ending → World → Prop, R = fun e w' => ResP w.heap.size (clearF l x rule) e w' ∧ Below w.heap.size w w' := ⟨_, rfl⟩
  rw [← hR]
  have FM := hid (show ∀ (r : ResT) (vf : Value) w', clearF l x rule = r → RowI w.heap.size w' vf r.f → Below w.heap.size w w' → R (.returned (.tuple #[.agg #[.int .i64 r.p, .int .i64 r.v, .int .i64 r.s, vf], .int .i64 r.e])) w' from fun r vf w' h1 h2 h3 => by rw [hR, h1]; exact ⟨⟨vf, rfl, h2⟩, h3⟩)
  clear hR
  have b1 := (Below.refl w.heap.size w).alloc (Nat.le_refl _) (.cells #[.int .i64 0, .int .i64 0, .int .i64 0, .slice none 0 0] 26)
  have CH := hid (check_calls (hv.below b1))
  have C1 := hid (Cells.new w #[.int .i64 0, .int .i64 0, .int .i64 0, .slice none 0 0] 26)
  have B1 := hid b1
  have IN := hid (fun wx => in_calls x 1 1000000 wx)
  have hrd := hid (fun w' (hb : Below w.heap.size w w') => show ReadsE encBd 3 w' v l from hv.below hb)
  have PR := hid (fun (hc : chk l = 0) (hi : inC x 1 1000000 = true) wx (hb : Below w.heap.size w wx) => price_calls (hrd.out wx hb) (chk_zero hc).1 (chk_zero hc).2 (inC_true hi))
  have CL := hid (fun (hc : chk l = 0) p wx (hb : Below w.heap.size w wx) => cleared_calls (hrd.out wx hb) (chk_zero hc).1 (chk_zero hc).2 p rule)
  unfold clearF at FM
  obtain ⟨c, hc⟩ : ∃ c, c = chk l := ⟨_, rfl⟩
  rw [← hc] at CH FM
  have HC := hid hc
  obtain ⟨b, hb⟩ : ∃ b, b = inC x 1 1000000 := ⟨_, rfl⟩
  have HB := hid hb
  rw [← hb] at IN FM
  obtain ⟨p, hp⟩ : ∃ p, p = priceZ (zonesL l) x := ⟨_, rfl⟩
  rw [← hp] at PR FM
  clear hp
  clear hc hb hv b1
  go_enter Try.func15, Try.ntmps15
  go_wp2_with fail
  refine CH.out.mono ?_
  rintro e w2 ⟨rfl, hb2⟩
  have B2 := hid (B1.out.trans (hb2.mono B1.out.size))
  have c2 : Cells w2 w.heap.size #[.int .i64 0, .int .i64 0, .int .i64 0, .slice none 0 0] 26 := C1.out.below hb2 (by rw [World.size_alloc]; omega)
  clear hb2 CH C1
  have d0 : w2.cell? ⟨w.heap.size, 0, none⟩ = some (.int .i64 0) := by rw [c2.cell]; rfl
  have d1 : w2.cell? ⟨w.heap.size, 1, none⟩ = some (.int .i64 0) := by rw [c2.cell]; rfl
  have d2 : w2.cell? ⟨w.heap.size, 2, none⟩ = some (.int .i64 0) := by rw [c2.cell]; rfl
  have d3 : w2.cell? ⟨w.heap.size, 3, none⟩ = some (.slice none 0 0) := by rw [c2.cell]; rfl
  have f0 := c2.frozen 0
  have f1 := c2.frozen 1
  have f2 := c2.frozen 2
  have f3 := c2.frozen 3
  have y1 := c2.lt
  by_cases hc0 : c = 0
  · subst hc0
    rw [if_neg (fun h => h rfl)] at FM
    have C2 := hid c2
    by_cases hbr : b = true ∧ (rule = 1 ∨ rule = 2)
    · rw [if_pos hbr] at FM
      obtain ⟨rfl, hr⟩ := hbr
      clear c2
      have G : (rule != 1) = false ∨ (rule != 1) = true ∧ (rule != 2) = false := by
        rcases hr with rfl | rfl
        · exact .inl rfl
        · exact .inr ⟨rfl, rfl⟩
      clear hr
      have PRX := hid (fun wx (hb : Below w.heap.size w wx) => PR.out HC.out.symm HB.out.symm wx hb)
      have CLX := hid (fun wx (hb : Below w.heap.size w wx) => CL.out HC.out.symm p wx hb)
      clear PR CL
      by_cases hp0 : p = 0
      · rw [if_pos hp0] at FM
        have e1 : (p == 0) = true := by simpa using hp0
        clear hp0
        rcases G with g1 | ⟨g1, g2⟩
        all_goals (
          go_wp2_with (go_at_call 40; refine (IN.out _).mono ?_; rintro e w3 ⟨rfl, rfl⟩)
          refine (PRX.out _ B2.out).mono ?_
          rintro e w5 ⟨rfl, hb5⟩
          have c5 := C2.out.below hb5 C2.out.lt
          have B5 := hid (B2.out.trans (hb5.mono B2.out.size))
          clear hb5 d0 d1 d2 d3 f0 f1 f2 f3 y1
          have d0 : w5.cell? ⟨w.heap.size, 0, none⟩ = some (.int .i64 0) := by rw [c5.cell]; rfl
          have d1 : w5.cell? ⟨w.heap.size, 1, none⟩ = some (.int .i64 0) := by rw [c5.cell]; rfl
          have d2 : w5.cell? ⟨w.heap.size, 2, none⟩ = some (.int .i64 0) := by rw [c5.cell]; rfl
          have d3 : w5.cell? ⟨w.heap.size, 3, none⟩ = some (.slice none 0 0) := by rw [c5.cell]; rfl
          have f0 := c5.frozen 0
          have f1 := c5.frozen 1
          have f2 := c5.frozen 2
          have f3 := c5.frozen 3
          have y1 := c5.lt
          obtain ⟨q1, q3⟩ := set4_spec c5 (.int .i64 0) (.int .i64 0) (.int .i64 0) (.slice none 0 0)
          have q2 := hid (B5.out.trans (q3.below B5.out.size (fun k hk => by omega)))
          have q5 := hid q1
          have q3 := hid q3
          clear q1
          go_wp2
          show bodyPost _ _ _ _ _ (set4 w5 w.heap.size (.int .i64 0) (.int .i64 0) (.int .i64 0) (.slice none 0 0))
          obtain ⟨w4, hw4⟩ : ∃ w4, w4 = set4 w5 w.heap.size (.int .i64 0) (.int .i64 0) (.int .i64 0) (.slice none 0 0) := ⟨_, rfl⟩
          rw [← hw4] at q2 q3 q5 ⊢
          clear hw4
          have m0 : w4.cell? ⟨w.heap.size, 0, none⟩ = some (.int .i64 0) := by rw [q5.out.cell]; rfl
          have m1 : w4.cell? ⟨w.heap.size, 1, none⟩ = some (.int .i64 0) := by rw [q5.out.cell]; rfl
          have m2 : w4.cell? ⟨w.heap.size, 2, none⟩ = some (.int .i64 0) := by rw [q5.out.cell]; rfl
          have m3 : w4.cell? ⟨w.heap.size, 3, none⟩ = some (.slice none 0 0) := by rw [q5.out.cell]; rfl
          exact bodyPost_ret (v := .tuple #[.agg #[.int .i64 0, .int .i64 0, .int .i64 0, .slice none 0 0], .int .i64 30]) (by simp [results, Try.results15, go_sem, m0, m1, m2, m3]) rfl (FM.out _ _ w4 rfl (OwnE.nil _ _) q2.out))
      · rw [if_neg hp0] at FM
        have e1 : (p == 0) = false := by simpa using hp0
        clear hp0
        rcases G with g1 | ⟨g1, g2⟩
        all_goals (
          go_wp2_with (go_at_call 40; refine (IN.out _).mono ?_; rintro e w3 ⟨rfl, rfl⟩)
          refine (PRX.out _ B2.out).mono ?_
          rintro e w3 ⟨rfl, hb3⟩
          have B3 := hid (B2.out.trans (hb3.mono B2.out.size))
          have C3 := hid (C2.out.below hb3 C2.out.lt)
          clear hb3
          go_wp2_with fail
          refine (CLX.out _ B3.out).mono ?_
          rintro e w5 ⟨⟨vf, rfl, hr5⟩, hb5⟩
          obtain ⟨pf, cf, hvf, hh⟩ := hr5.form
          obtain ⟨nf, hnf⟩ : ∃ nf, nf = (clrF l p rule).f.length := ⟨_, rfl⟩
          rw [← hnf] at hvf
          subst hvf
          have HH := hid hh
          clear hnf hh
          have c5 := C3.out.below hb5 C3.out.lt
          have B5 := hid (B3.out.trans (hb5.mono B3.out.size))
          have R5 := hid hr5
          clear hr5 hb5 d0 d1 d2 d3 f0 f1 f2 f3 y1
          have d0 : w5.cell? ⟨w.heap.size, 0, none⟩ = some (.int .i64 0) := by rw [c5.cell]; rfl
          have d1 : w5.cell? ⟨w.heap.size, 1, none⟩ = some (.int .i64 0) := by rw [c5.cell]; rfl
          have d2 : w5.cell? ⟨w.heap.size, 2, none⟩ = some (.int .i64 0) := by rw [c5.cell]; rfl
          have d3 : w5.cell? ⟨w.heap.size, 3, none⟩ = some (.slice none 0 0) := by rw [c5.cell]; rfl
          have f0 := c5.frozen 0
          have f1 := c5.frozen 1
          have f2 := c5.frozen 2
          have f3 := c5.frozen 3
          have y1 := c5.lt
          obtain ⟨q1, q3⟩ := set4_spec c5 (.int .i64 (clrF l p rule).p) (.int .i64 (clrF l p rule).v) (.int .i64 (clrF l p rule).s) (.slice pf nf cf)
          have q2 := hid (B5.out.trans (q3.below B5.out.size (fun k hk => by omega)))
          have q5 := hid q1
          have q3 := hid q3
          clear q1
          go_wp2
          show bodyPost _ _ _ _ _ (set4 w5 w.heap.size (.int .i64 (clrF l p rule).p) (.int .i64 (clrF l p rule).v) (.int .i64 (clrF l p rule).s) (.slice pf nf cf))
          obtain ⟨w4, hw4⟩ : ∃ w4, w4 = set4 w5 w.heap.size (.int .i64 (clrF l p rule).p) (.int .i64 (clrF l p rule).v) (.int .i64 (clrF l p rule).s) (.slice pf nf cf) := ⟨_, rfl⟩
          rw [← hw4] at q2 q3 q5 ⊢
          clear hw4
          have m0 : w4.cell? ⟨w.heap.size, 0, none⟩ = some (.int .i64 (clrF l p rule).p) := by rw [q5.out.cell]; rfl
          have m1 : w4.cell? ⟨w.heap.size, 1, none⟩ = some (.int .i64 (clrF l p rule).v) := by rw [q5.out.cell]; rfl
          have m2 : w4.cell? ⟨w.heap.size, 2, none⟩ = some (.int .i64 (clrF l p rule).s) := by rw [q5.out.cell]; rfl
          have m3 : w4.cell? ⟨w.heap.size, 3, none⟩ = some (.slice pf nf cf) := by rw [q5.out.cell]; rfl
          exact bodyPost_ret (v := .tuple #[.agg #[.int .i64 (clrF l p rule).p, .int .i64 (clrF l p rule).v, .int .i64 (clrF l p rule).s, .slice pf nf cf], .int .i64 (clrF l p rule).e]) (by simp [results, Try.results15, go_sem, m0, m1, m2, m3]) rfl (FM.out (clrF l p rule) (.slice pf nf cf) w4 rfl ((R5.out.mono B3.out.size).kept q3.out (fun k hk e => by rcases HH.out with ⟨rfl, _⟩ | ⟨g, rfl, hg, _⟩ <;> cases hk; have e2 : g = w.heap.size := e; have := C3.out.lt; omega)) q2.out))
    · rw [if_neg hbr] at FM
      cases b with
      | true =>
        have g1 : (rule != 1) = true := by
          have : ¬ rule = 1 := fun h => hbr ⟨rfl, .inl h⟩
          simpa using this
        have g2 : (rule != 2) = true := by
          have : ¬ rule = 2 := fun h => hbr ⟨rfl, .inr h⟩
          simpa using this
        clear hbr c2
        go_upto_region 5 with (go_at_call 40; refine (IN.out _).mono ?_; rintro e w3 ⟨rfl, rfl⟩)
        obtain ⟨q1, q3⟩ := set4_spec C2.out (.int .i64 0) (.int .i64 0) (.int .i64 0) (.slice none 0 0)
        have q2 := hid (B2.out.trans (q3.below B2.out.size (fun k hk => by omega)))
        have q5 := hid q1
        have q3 := hid q3
        clear q1
        go_wp2
        show bodyPost _ _ _ _ _ (set4 w3 w.heap.size (.int .i64 0) (.int .i64 0) (.int .i64 0) (.slice none 0 0))
        obtain ⟨w4, hw4⟩ : ∃ w4, w4 = set4 w3 w.heap.size (.int .i64 0) (.int .i64 0) (.int .i64 0) (.slice none 0 0) := ⟨_, rfl⟩
        rw [← hw4] at q2 q3 q5 ⊢
        clear hw4
        have m0 : w4.cell? ⟨w.heap.size, 0, none⟩ = some (.int .i64 0) := by rw [q5.out.cell]; rfl
        have m1 : w4.cell? ⟨w.heap.size, 1, none⟩ = some (.int .i64 0) := by rw [q5.out.cell]; rfl
        have m2 : w4.cell? ⟨w.heap.size, 2, none⟩ = some (.int .i64 0) := by rw [q5.out.cell]; rfl
        have m3 : w4.cell? ⟨w.heap.size, 3, none⟩ = some (.slice none 0 0) := by rw [q5.out.cell]; rfl
        exact bodyPost_ret (v := .tuple #[.agg #[.int .i64 0, .int .i64 0, .int .i64 0, .slice none 0 0], .int .i64 1]) (by simp [results, Try.results15, go_sem, m0, m1, m2, m3]) rfl (FM.out _ _ w4 rfl (OwnE.nil _ _) q2.out)
      | false =>
        clear hbr c2
        go_upto_region 5 with (go_at_call 40; refine (IN.out _).mono ?_; rintro e w3 ⟨rfl, rfl⟩)
        obtain ⟨q1, q3⟩ := set4_spec C2.out (.int .i64 0) (.int .i64 0) (.int .i64 0) (.slice none 0 0)
        have q2 := hid (B2.out.trans (q3.below B2.out.size (fun k hk => by omega)))
        have q5 := hid q1
        have q3 := hid q3
        clear q1
        go_wp2
        show bodyPost _ _ _ _ _ (set4 w3 w.heap.size (.int .i64 0) (.int .i64 0) (.int .i64 0) (.slice none 0 0))
        obtain ⟨w4, hw4⟩ : ∃ w4, w4 = set4 w3 w.heap.size (.int .i64 0) (.int .i64 0) (.int .i64 0) (.slice none 0 0) := ⟨_, rfl⟩
        rw [← hw4] at q2 q3 q5 ⊢
        clear hw4
        have m0 : w4.cell? ⟨w.heap.size, 0, none⟩ = some (.int .i64 0) := by rw [q5.out.cell]; rfl
        have m1 : w4.cell? ⟨w.heap.size, 1, none⟩ = some (.int .i64 0) := by rw [q5.out.cell]; rfl
        have m2 : w4.cell? ⟨w.heap.size, 2, none⟩ = some (.int .i64 0) := by rw [q5.out.cell]; rfl
        have m3 : w4.cell? ⟨w.heap.size, 3, none⟩ = some (.slice none 0 0) := by rw [q5.out.cell]; rfl
        exact bodyPost_ret (v := .tuple #[.agg #[.int .i64 0, .int .i64 0, .int .i64 0, .slice none 0 0], .int .i64 1]) (by simp [results, Try.results15, go_sem, m0, m1, m2, m3]) rfl (FM.out _ _ w4 rfl (OwnE.nil _ _) q2.out)
  · rw [if_pos hc0] at FM
    have e1 : (c != 0) = true := by simpa using hc0
    have C2 := hid c2
    clear hc0 c2
    obtain ⟨q1, q3⟩ := set4_spec C2.out (.int .i64 0) (.int .i64 0) (.int .i64 0) (.slice none 0 0)
    have q2 := hid (B2.out.trans (q3.below B2.out.size (fun k hk => by omega)))
    have q5 := hid q1
    have q3 := hid q3
    clear q1
    go_wp2
    show bodyPost _ _ _ _ _ (set4 w2 w.heap.size (.int .i64 0) (.int .i64 0) (.int .i64 0) (.slice none 0 0))
    obtain ⟨w4, hw4⟩ : ∃ w4, w4 = set4 w2 w.heap.size (.int .i64 0) (.int .i64 0) (.int .i64 0) (.slice none 0 0) := ⟨_, rfl⟩
    rw [← hw4] at q2 q3 q5 ⊢
    clear hw4
    have m0 : w4.cell? ⟨w.heap.size, 0, none⟩ = some (.int .i64 0) := by rw [q5.out.cell]; rfl
    have m1 : w4.cell? ⟨w.heap.size, 1, none⟩ = some (.int .i64 0) := by rw [q5.out.cell]; rfl
    have m2 : w4.cell? ⟨w.heap.size, 2, none⟩ = some (.int .i64 0) := by rw [q5.out.cell]; rfl
    have m3 : w4.cell? ⟨w.heap.size, 3, none⟩ = some (.slice none 0 0) := by rw [q5.out.cell]; rfl
    exact bodyPost_ret (v := .tuple #[.agg #[.int .i64 0, .int .i64 0, .int .i64 0, .slice none 0 0], .int .i64 c]) (by simp [results, Try.results15, go_sem, m0, m1, m2, m3]) rfl (FM.out _ _ w4 rfl (OwnE.nil _ _) q2.out)

end Go.Proofs.Ytjhelinbjlahiaa
namespace Go.Proofs.Ytjhelinbjlahiaa
set_option linter.unusedSimpArgs false
set_option linter.unusedVariables false
open Go.RowKit Go.Shelf
attribute [local go_sem] Oper.semAt_some
attribute [local go_sem ↓] Go.wp_at_zero Go.wp_at_succ
def zn0 : Zn := ⟨0, 0, 0, 0⟩
/-- The zones of the greatest volume. -/
def bestZ (l : List Bd) : List Zn := keptF F1 (zonesL l)
/-- What Best answers. -/
def bsF (l : List Bd) : Int × Int × Int × Int := if chk l ≠ 0 then (0, 0, 0, chk l) else if ((bestZ l).getD 0 zn0).vol = 0 then (0, 0, 0, 30) else (((bestZ l).getD 0 zn0).f, ((bestZ l).getD ((bestZ l).length - 1) zn0).t, ((bestZ l).getD 0 zn0).vol, 0)

set_option maxRecDepth 100000 in
set_option maxHeartbeats 4000000 in
theorem best_calls {w : World} {v : Value} {l : List Bd} (hv : ReadsE encBd 3 w v l) :
    Calls Try.prog 31 #[v] w fun e w' => e = .returned (.tuple #[.int .i64 (bsF l).1, .int .i64 (bsF l).2.1, .int .i64 (bsF l).2.2.1, .int .i64 (bsF l).2.2.2]) ∧ Below w.heap.size w w' := by
  obtain ⟨R, hR⟩ : ∃ R : Ending → World → Prop, R = fun e w' => e = .returned (.tuple #[.int .i64 (bsF l).1, .int .i64 (bsF l).2.1, .int .i64 (bsF l).2.2.1, .int .i64 (bsF l).2.2.2]) ∧ Below w.heap.size w w' := ⟨_, rfl⟩
  rw [← hR]
  have FM := hid (show ∀ (a b c d : Int) w', bsF l = (a, b, c, d) → Below w.heap.size w w' → R (.returned (.tuple #[.int .i64 a, .int .i64 b, .int .i64 c, .int .i64 d])) w' from fun a b c d w' h1 h2 => by rw [hR, h1]; exact ⟨rfl, h2⟩)
  clear hR
  have CH := hid (check_calls hv)
  have ZC := hid (fun (hc : chk l = 0) wx (hb : Below w.heap.size w wx) => zones_calls (hv.below hb) (chk_zero hc).1 (chk_zero hc).2)
  have ZO := hid (fun (hc : chk l = 0) => (⟨(zonesL_ok (chk_zero hc).1 (chk_zero hc).2).1, (zonesL_ok (chk_zero hc).1 (chk_zero hc).2).2, zonesL_ne (chk_zero hc).2⟩ : (∀ z ∈ zonesL l, z.ok) ∧ (zonesL l).length ≤ 4097 ∧ zonesL l ≠ []))
  unfold bsF at FM
  obtain ⟨c, hc⟩ : ∃ c, c = chk l := ⟨_, rfl⟩
  rw [← hc] at CH FM
  have HC := hid hc
  clear hc hv
  by_cases hc0 : c = 0
  · subst hc0
    rw [if_neg (fun h => h rfl)] at FM
    obtain ⟨zok, zlen, zne⟩ := ZO.out HC.out.symm
    have ZC2 := hid (fun wx hb => ZC.out HC.out.symm wx hb)
    have ZOK := hid zok
    clear ZC ZO zok
    go_enter Try.func31, Try.ntmps31
    go_wp2_with fail
    refine CH.out.mono ?_
    rintro e w2 ⟨rfl, hb2⟩
    have B2 := hid hb2
    clear hb2
    go_wp2_with fail
    refine (ZC2.out _ B2.out).mono ?_
    rintro e w3 ⟨v3, rfl, hz3, hb3⟩
    have B3 := hid (B2.out.trans (hb3.mono B2.out.size))
    have KP := hid (kept_calls hz3 (by omega) zne fnc_best (fun w z hi hz => fnc_best.call w z hi hz) (fun _ _ _ _ => trivial) trivial ZOK.out (fun _ _ => trivial) (fun _ _ h => h))
    obtain ⟨p3, c3, hv3, _⟩ := hz3.form
    obtain ⟨n3, hn3⟩ : ∃ n3, n3 = (zonesL l).length := ⟨_, rfl⟩
    rw [← hn3] at hv3
    subst hv3
    clear hz3 hb3 hn3
    go_wp2_with fail
    refine KP.out.mono ?_
    rintro e w5 ⟨v5, rfl, r5, _, k5⟩
    have B5 := hid (B3.out.trans ((k5.below (B := w3.heap.size) (Nat.le_refl _) (fun _ h => h.elim)).mono B3.out.size))
    have kne := keptF_ne F1 zne
    have hok0 : ∀ z ∈ bestZ l, z.ok := fun z hz => ZOK.out z (keptF_sub _ hz)
    obtain ⟨K, hK⟩ : ∃ K, K = bestZ l := ⟨_, rfl⟩
    rw [show keptF F1 (zonesL l) = K from hK.symm] at r5 kne
    rw [← hK] at FM hok0
    obtain ⟨p5, c5, hv5, hh⟩ := r5.form
    obtain ⟨m, hm⟩ : ∃ m, m = K.length := ⟨_, rfl⟩
    rw [← hm] at hv5 FM
    rcases hh with ⟨_, h0⟩ | ⟨g, rfl, hg, hgl⟩
    · exact absurd h0 kne
    subst hv5
    have hm0 : 0 < m := by rw [hm]; exact List.length_pos_iff.2 kne
    obtain ⟨hq, _, _, hcell⟩ := OwnE.cellsAt encZn_len r5
    have e0 : K.getD 0 zn0 = K[0]'(by omega) := by simp [show 0 < K.length by omega]
    have e1 : K.getD (m - 1) zn0 = K[m - 1]'(by omega) := by simp [show m - 1 < K.length by omega]
    have d0 := hcell 0 (by omega) 0 (by omega)
    have d1 := hcell 0 (by omega) 1 (by omega)
    have d2 := hcell 0 (by omega) 2 (by omega)
    have d3 := hcell 0 (by omega) 3 (by omega)
    have d4 := hcell (m - 1) (by omega) 1 (by omega)
    have zk := hok0 _ (List.getElem_mem (show 0 < K.length by omega))
    obtain ⟨z, hz⟩ : ∃ z, z = K[0]'(by omega) := ⟨_, rfl⟩
    obtain ⟨y, hy⟩ : ∃ y, y = K[m - 1]'(by omega) := ⟨_, rfl⟩
    simp [encZn] at d0 d1 d2 d3 d4
    rw [← hz] at d0 d1 d2 d3 zk e0
    rw [← hy] at d4 e1
    rw [e0, e1] at FM
    obtain ⟨j, hj⟩ : ∃ j, j = m - 1 := ⟨_, rfl⟩
    rw [← hj] at d4
    have hjm : m = j + 1 := by omega
    have ew : IntKind.i64.wrap ((m : Int) - 1) = (j : Int) := by rw [show (m : Int) - 1 = (j : Int) by omega]; exact IntWalk.i64_in _ (by have : m ≤ 4097 := (by rw [hm, hK]; exact Nat.le_trans (keptF_len _ _) zlen); omega)
    have g0 : (0 : Int) < (m : Int) := by omega
    have g1 : (j : Int) < (m : Int) := by omega
    have g2 : (0 : Int) ≤ (j : Int) := by omega
    have VC := hid (fun wx => volume_calls z wx)
    unfold Zn.val at VC
    obtain ⟨vv, hvv⟩ : ∃ vv, vv = z.vol := ⟨_, rfl⟩
    rw [← hvv] at VC FM
    clear hvv hj hz hy e0 e1 hcell hq hm hK r5 k5 kne hok0 zk KP CH ZC2 ZOK zlen zne hjm
    by_cases hv0 : vv = 0
    · rw [if_pos hv0] at FM
      have g3 : (vv == 0) = true := by simpa using hv0
      clear hv0
      go_wp2_with fail
      refine (VC.out _).mono ?_
      rintro e w6 ⟨rfl, hb6⟩
      have B6 := hid (B5.out.trans (hb6.mono B5.out.size))
      clear hb6
      go_wp2
      first | exact FM.out _ _ _ _ _ rfl B6.out | exact bodyPost_ret (by simp [results, Try.results31, go_sem]) rfl (FM.out _ _ _ _ _ rfl B6.out)
    · rw [if_neg hv0] at FM
      have g3 : (vv == 0) = false := by simpa using hv0
      clear hv0
      go_wp2_with fail
      refine (VC.out _).mono ?_
      rintro e w6 ⟨rfl, hb6⟩
      have B6 := hid (B5.out.trans (hb6.mono B5.out.size))
      have CC := hid (show ∀ w', Below w6.drew.heap.size w6.drew w' → w'.cell? ⟨g, 0, none⟩ = some (.int .i64 z.f) ∧ w'.cell? ⟨g, 1, none⟩ = some (.int .i64 z.t) ∧ w'.cell? ⟨g, 2, none⟩ = some (.int .i64 z.d) ∧ w'.cell? ⟨g, 3, none⟩ = some (.int .i64 z.s) ∧ w'.cell? ⟨g, j * 4 + 1, none⟩ = some (.int .i64 y.t) from fun w' hb => by
        have q : Below w5.heap.size w5 w' := hb6.drew.trans (hb.mono hb6.size)
        exact ⟨(q.cell (p := ⟨g, 0, none⟩) hgl).trans d0, (q.cell (p := ⟨g, 1, none⟩) hgl).trans d1, (q.cell (p := ⟨g, 2, none⟩) hgl).trans d2, (q.cell (p := ⟨g, 3, none⟩) hgl).trans d3, (q.cell (p := ⟨g, j * 4 + 1, none⟩) hgl).trans d4⟩)
      have hgl6 : g < w6.heap.size := Nat.lt_of_lt_of_le hgl hb6.size
      obtain ⟨x0, x1, x2, x3, x4⟩ := CC.out w6.drew (Below.refl _ _)
      clear hb6 d0 d1 d2 d3 d4
      have FIN := hid (show ∀ w', Below w6.drew.heap.size w6.drew w' → R (.returned (.tuple #[.int .i64 z.f, .int .i64 y.t, .int .i64 vv, .int .i64 0])) w' from fun w' hb => FM.out _ _ _ _ _ rfl (B6.out.drew.trans (hb.mono B6.out.size)))
      go_upto_region 7 with fail
      go_region_held3 (fun wh => wh.cell? ⟨g, 0, none⟩ = some (.int .i64 z.f) ∧ wh.cell? ⟨g, 1, none⟩ = some (.int .i64 z.t) ∧ wh.cell? ⟨g, 2, none⟩ = some (.int .i64 z.d) ∧ wh.cell? ⟨g, 3, none⟩ = some (.int .i64 z.s) ∧ wh.cell? ⟨g, j * 4 + 1, none⟩ = some (.int .i64 y.t))
        (exact ⟨x0, x1, x2, x3, x4⟩)
        (first | (go_at_call 51; (with_reducible refine (VC.out _).mono ?_); rintro e w7 ⟨rfl, hb7⟩; obtain ⟨x0, x1, x2, x3, x4⟩ := CC.out _ hb7))
      all_goals (
        have FN := hid (FIN.out _ hb7)
        clear hb7
        go_wp2
        first | exact FN.out | exact bodyPost_ret (by simp [results, Try.results31, go_sem]) rfl FN.out)
  · rw [if_pos hc0] at FM
    have e1 : (c != 0) = true := by simpa using hc0
    go_enter Try.func31, Try.ntmps31
    go_wp2_with fail
    refine CH.out.mono ?_
    rintro e w2 ⟨rfl, hb2⟩
    have B2 := hid hb2
    clear hb2 hc0
    go_wp2
    first | exact FM.out _ _ _ _ _ rfl B2.out | exact bodyPost_ret (by simp [results, Try.results31, go_sem]) rfl (FM.out _ _ _ _ _ rfl B2.out)
end Go.Proofs.Ytjhelinbjlahiaa
