/- call.cleared. call.Clear and call.ClearAt. call.Best. -/
import Derived.Test.YtepldjidkomclaaGreatJCSv2
import Derived.Test.YtepldjidkomclaaGreatJCSo5
import Derived.Test.YtepldjidkomclaaGreatJCZnw
namespace Go.Proofs.YtepldjidkomclaaGreat.Ca
set_option linter.unusedSimpArgs false
set_option linter.unusedVariables false
open Go.RowKit
attribute [local go_sem] Oper.semAt_some
attribute [local go_sem ↓] Go.wp_at_zero Go.wp_at_succ
def resCells (p v s : Int) (vf : Value) : Array Value := #[.int .i64 p, .int .i64 v, .int .i64 s, vf]
/-- What stands while cleared runs. -/
structure ClS (w : World) (x vol sur : Int) (n r gf : Nat) (h : Nat → Int) (wr : World) : Prop where
  out : Cells wr w.heap.size #[.int .i64 0, .int .i64 0, .int .i64 0, .slice none 0 0] 40
  res : Cells wr r #[.int .i64 x, .int .i64 vol, .int .i64 sur, .slice (some ⟨gf, 0, none⟩) n n] 40
  arr : Cells wr (r + 1) #[.int .i64 1, .int .i64 2] 3
  fills : RowL wr gf n h
  below : Below w.heap.size w wr
  low : w.heap.size < gf
  low2 : gf < r

set_option maxRecDepth 100000 in
set_option maxHeartbeats 8000000 in
theorem cleared_calls {w : World} {v : Value} {l : List Bd} (hv : ReadsE encBd 3 w v l) (hl : l.length ≤ 4096) (hok : ∀ b ∈ l, b.ok) (x rule : Int) :
    Calls Tryz.prog 30 #[v, .int .i64 x, .int .i64 rule] w fun e w' => ResP w.heap.size (clrF l x rule) e w' ∧ Below w.heap.size w w' := by
  obtain ⟨R, hR⟩ : ∃ R : Ending → World → Prop, R = fun e w' => ResP w.heap.size (clrF l x rule) e w' ∧ Below w.heap.size w w' := ⟨_, rfl⟩
  rw [← hR]
  have HR := hid hR
  have HV := hid hv
  obtain ⟨hm, p, cap, bb, off, rfl, hp, hc⟩ := hv
  obtain ⟨n, hn⟩ : ∃ n, n = l.length := ⟨_, rfl⟩
  rw [← hn] at hl HV ⊢
  have HN := hid hn
  have HOK := hid hok
  have hd := sumQ_bound (buyT x) hok
  have hs := sumQ_bound (selT x) hok
  rw [← hn] at hd hs
  have SM := hid (fun wx (hb : Below w.heap.size w wx) => sums_calls (HV.out.below hb) (by rw [← HN.out]; exact hl) HOK.out x)
  have SOME := hid (fun (h : min (dem l x) (sup l x) ≠ 0) => ids_some hok h)
  have CF := hid (show clrF l x rule = if min (dem l x) (sup l x) = 0 then ⟨0, 0, 0, [], 30⟩ else ⟨x, min (dem l x) (sup l x), dem l x - sup l x, fillsL l x (min (dem l x) (sup l x)) rule, 0⟩ from rfl)
  obtain ⟨D, hD⟩ : ∃ D, D = dem l x := ⟨_, rfl⟩
  obtain ⟨S, hS⟩ : ∃ S, S = sup l x := ⟨_, rfl⟩
  rw [show sumQ (buyT x) l = D by rw [hD]; rfl] at hd
  rw [show sumQ (selT x) l = S by rw [hS]; rfl] at hs
  rw [← hD, ← hS] at SM SOME CF
  have hdb : 0 ≤ D ∧ D ≤ 4096000000000 := by omega
  have hsb : 0 ≤ S ∧ S ≤ 4096000000000 := by omega
  have ew : IntKind.i64.wrap (D - S) = D - S := IntWalk.i64_in _ (by omega)
  have b1 := hid ((Below.refl w.heap.size w).alloc (Nat.le_refl _) (.cells #[.int .i64 0, .int .i64 0, .int .i64 0, .slice none 0 0] 40))
  clear hR hok hn hc hp hd hs hD hS hm
  go_enter Tryz.func30, Tryz.ntmps30
  go_upto_region 1 with fail
  go_wp2_with fail
  refine (SM.out _ b1.out).mono ?_
  rintro e w2 ⟨rfl, hb2⟩
  have B2 := hid (b1.out.trans (hb2.mono b1.out.size))
  have c2 : Cells w2 w.heap.size #[.int .i64 0, .int .i64 0, .int .i64 0, .slice none 0 0] 40 := (Cells.new w _ _).below hb2 (by rw [World.size_alloc]; omega)
  have C2 := hid c2
  have l2 := c2.lt
  have hmk := mk_i64 w2 n (by omega)
  clear hb2 SM c2
  obtain ⟨vol, hvol⟩ : ∃ vol, vol = min D S := ⟨_, rfl⟩
  rw [← hvol] at SOME CF
  have hvb : 0 ≤ vol ∧ vol ≤ 5000000000000 := by omega
  have HVO := hid hvol
  clear hvol
  have NB := hid (fun (h : vol ≠ 0) => SOME.out h)
  go_upto_region 3 with fail
  rw [← HVO.out]
  obtain ⟨w3, hw3⟩ : ∃ w3, w3 = ((w2.alloc (.cells (madeCells #[.int .i64 0] n) 2)).alloc (.cells #[.int .i64 x, .int .i64 vol, .int .i64 (D - S), .slice (some ⟨w2.heap.size, 0, none⟩) n n] 40)) := ⟨_, rfl⟩
  rw [← hw3]
  have z1 : Cells w3 w.heap.size #[.int .i64 0, .int .i64 0, .int .i64 0, .slice none 0 0] 40 := by rw [hw3]; exact (C2.out.alloc _).alloc _
  have z2 : Cells w3 (w2.heap.size + 1) #[.int .i64 x, .int .i64 vol, .int .i64 (D - S), .slice (some ⟨w2.heap.size, 0, none⟩) n n] 40 := by
    rw [hw3]
    have := Cells.new (w2.alloc (.cells (madeCells #[.int .i64 0] n) 2)) #[.int .i64 x, .int .i64 vol, .int .i64 (D - S), .slice (some ⟨w2.heap.size, 0, none⟩) n n] 40
    rwa [World.size_alloc] at this
  have z3 : RowL w3 w2.heap.size n (fun _ => 0) := by
    rw [hw3]; exact (RowL.made w2 n).kept ((Kept.refl (fun _ => False) _).alloc _) id
  have z4 : Below w.heap.size w w3 := by rw [hw3]; exact (B2.out.alloc B2.out.size _).alloc (by have := B2.out.size; simp; omega) _
  have z5 : w3.heap.size = w2.heap.size + 2 := by rw [hw3]; simp
  obtain ⟨gf, hgf⟩ : ∃ gf, gf = w2.heap.size := ⟨_, rfl⟩
  rw [← hgf] at z2 z3 z5 l2 ⊢
  clear hw3 hgf hmk
  have e0 : w3.cell? ⟨gf + 1, 0, none⟩ = some (.int .i64 x) := by rw [z2.cell]; rfl
  have e1 : w3.cell? ⟨gf + 1, 1, none⟩ = some (.int .i64 vol) := by rw [z2.cell]; rfl
  have e2 : w3.cell? ⟨gf + 1, 2, none⟩ = some (.int .i64 (D - S)) := by rw [z2.cell]; rfl
  have e3 : w3.cell? ⟨gf + 1, 3, none⟩ = some (.slice (some ⟨gf, 0, none⟩) n n) := by rw [z2.cell]; rfl
  have d0 : w3.cell? ⟨w.heap.size, 0, none⟩ = some (.int .i64 0) := by rw [z1.cell]; rfl
  have d1 : w3.cell? ⟨w.heap.size, 1, none⟩ = some (.int .i64 0) := by rw [z1.cell]; rfl
  have d2 : w3.cell? ⟨w.heap.size, 2, none⟩ = some (.int .i64 0) := by rw [z1.cell]; rfl
  have d3 : w3.cell? ⟨w.heap.size, 3, none⟩ = some (.slice none 0 0) := by rw [z1.cell]; rfl
  have f0 := z1.frozen 0
  have f1 := z1.frozen 1
  have f2 := z1.frozen 2
  have f3 := z1.frozen 3
  have y1 := z1.lt
  have y2 := z2.lt
  by_cases hv0 : vol = 0
  · have g1 : (vol == 0) = true := by simpa using hv0
    have CF0 := hid (show clrF l x rule = ⟨0, 0, 0, [], 30⟩ by rw [CF.out, if_pos hv0])
    clear hv0
    go_wp2
    obtain ⟨q1, q3⟩ := set4_spec z1 (.int .i64 0) (.int .i64 0) (.int .i64 0) (.slice none 0 0)
    have q2 := z4.trans (q3.below z4.size (fun k hk => by omega))
    show bodyPost _ _ _ _ _ (set4 w3 w.heap.size (.int .i64 0) (.int .i64 0) (.int .i64 0) (.slice none 0 0))
    obtain ⟨w4, hw4⟩ : ∃ w4, w4 = set4 w3 w.heap.size (.int .i64 0) (.int .i64 0) (.int .i64 0) (.slice none 0 0) := ⟨_, rfl⟩
    rw [← hw4] at q1 q2 ⊢
    clear hw4 q3
    have m0 : w4.cell? ⟨w.heap.size, 0, none⟩ = some (.int .i64 0) := by rw [q1.cell]; rfl
    have m1 : w4.cell? ⟨w.heap.size, 1, none⟩ = some (.int .i64 0) := by rw [q1.cell]; rfl
    have m2 : w4.cell? ⟨w.heap.size, 2, none⟩ = some (.int .i64 0) := by rw [q1.cell]; rfl
    have m3 : w4.cell? ⟨w.heap.size, 3, none⟩ = some (.slice none 0 0) := by rw [q1.cell]; rfl
    refine bodyPost_ret (v := .tuple #[.agg #[.int .i64 0, .int .i64 0, .int .i64 0, .slice none 0 0], .int .i64 30]) (by simp [results, Tryz.results30, go_sem, m0, m1, m2, m3]) rfl ?_
    rw [HR.out, CF0.out]
    exact ⟨⟨_, rfl, OwnE.nil _ _⟩, q2⟩
  · have g1 : (vol == 0) = false := by simpa using hv0
    obtain ⟨nb1, nb2⟩ := NB.out hv0
    have S0 := hid (show ClS w x vol (D - S) n (gf + 1) gf (stageF l x vol rule 0) (w3.alloc (.cells #[.int .i64 1, .int .i64 2] 3)) by
      have z6 := Cells.new w3 #[.int .i64 1, .int .i64 2] 3
      rw [z5] at z6
      exact ⟨z1.alloc _, z2.alloc _, z6, z3.kept ((Kept.refl (fun _ => False) _).alloc _) id, z4.alloc z4.size _, l2, by omega⟩)
    have CFN := hid (show clrF l x rule = ⟨x, vol, D - S, fillsL l x vol rule, 0⟩ by rw [CF.out, if_neg hv0])
    have HV2 := hid hv0
    clear hv0 CF SOME
    go_upto_region 6 with fail
    clear e0 e1 e2 e3 d0 d1 d2 d3 f0 f1 f2 f3 z1 z2 z3 z4
    go_loopg [36] 2 (fun k s36 wx => ∃ i : Nat, i + k = 2 ∧ s36 = .int .i64 i ∧ ClS w x vol (D - S) n (gf + 1) gf (stageF l x vol rule i) wx)
    case atStart => exact ⟨0, rfl, rfl, S0.out⟩
    case round =>
      obtain ⟨i, hik, rfl, ss⟩ := hrel
      have HIK := hid hik
      have SS := hid ss
      clear hik ss S0
      have e1 : wr.cell? ⟨gf + 1, 1, none⟩ = some (.int .i64 vol) := by rw [SS.out.res.cell]; rfl
      have e3 : wr.cell? ⟨gf + 1, 3, none⟩ = some (.slice (some ⟨gf, 0, none⟩) n n) := by rw [SS.out.res.cell]; rfl
      have a0 : wr.cell? ⟨gf + 1 + 1, 0, none⟩ = some (.int .i64 1) := by rw [SS.out.arr.cell]; rfl
      have a1 : wr.cell? ⟨gf + 1 + 1, 1, none⟩ = some (.int .i64 2) := by rw [SS.out.arr.cell]; rfl
      have lr := SS.out.res.lt
      have la := SS.out.arr.lt
      have NX := hid (show ∀ j w', Kept (fun k => k = gf) wr w' → RowL w' gf n (stageF l x vol rule j) → ClS w x vol (D - S) n (gf + 1) gf (stageF l x vol rule j) w' from fun j w' hk hr => by
        have q1 := SS.out.low
        have q2 := SS.out.low2
        exact ⟨SS.out.out.kept hk (by omega), SS.out.res.kept hk (by omega), SS.out.arr.kept hk (by omega), hr, SS.out.below.trans (hk.below SS.out.below.size (fun k hk => by omega)), q1, q2⟩)
      rcases (show i = 0 ∨ i = 1 ∨ i = 2 by have := HIK.out; omega) with rfl | rfl | rfl
      · have SV := hid (serve_calls (w0 := w) (w := wr) (x := x) (vol := vol) (rule := rule) (sd := 1) (h0 := stageF l x vol rule 0) HV.out SS.out.below (by rw [← HN.out]; exact hl) HOK.out hvb (by rw [← HN.out]; exact SS.out.fills) (Nat.le_of_lt SS.out.low) nb1 (fun _ _ _ => rfl))
        rw [← HN.out] at SV
        go_wp2_with fail
        refine SV.out.mono ?_
        rintro e w5 ⟨rfl, hr5, hk5⟩
        have N5 := hid (NX.out 1 w5 hk5 hr5)
        clear hr5 hk5 SV
        go_wp2
        go_roundg 1
        · exact ⟨1, rfl, by go_num, N5.out⟩
        · have := HIK.out; omega
      · have SV := hid (serve_calls (w0 := w) (w := wr) (x := x) (vol := vol) (rule := rule) (sd := 2) (h0 := stageF l x vol rule 1) HV.out SS.out.below (by rw [← HN.out]; exact hl) HOK.out hvb (by rw [← HN.out]; exact SS.out.fills) (Nat.le_of_lt SS.out.low) nb2 (fun _ _ hp => stage_zero hp))
        rw [← HN.out] at SV
        go_wp2_with fail
        refine SV.out.mono ?_
        rintro e w5 ⟨rfl, hr5, hk5⟩
        have N5 := hid (NX.out 2 w5 hk5 hr5)
        clear hr5 hk5 SV
        go_wp2
        go_roundg 0
        · exact ⟨2, rfl, by go_num, N5.out⟩
        · have := HIK.out; omega
      · have e0 : wr.cell? ⟨gf + 1, 0, none⟩ = some (.int .i64 x) := by rw [SS.out.res.cell]; rfl
        have e2 : wr.cell? ⟨gf + 1, 2, none⟩ = some (.int .i64 (D - S)) := by rw [SS.out.res.cell]; rfl
        have d0 : wr.cell? ⟨w.heap.size, 0, none⟩ = some (.int .i64 0) := by rw [SS.out.out.cell]; rfl
        have d1 : wr.cell? ⟨w.heap.size, 1, none⟩ = some (.int .i64 0) := by rw [SS.out.out.cell]; rfl
        have d2 : wr.cell? ⟨w.heap.size, 2, none⟩ = some (.int .i64 0) := by rw [SS.out.out.cell]; rfl
        have d3 : wr.cell? ⟨w.heap.size, 3, none⟩ = some (.slice none 0 0) := by rw [SS.out.out.cell]; rfl
        have f0 := SS.out.out.frozen 0
        have f1 := SS.out.out.frozen 1
        have f2 := SS.out.out.frozen 2
        have f3 := SS.out.out.frozen 3
        have y1 := SS.out.out.lt
        have CFX := hid (show ∀ w4, RowL w4 gf n (stageF l x vol rule 2) → Below w.heap.size w w4 → R (.returned (.tuple #[.agg #[.int .i64 x, .int .i64 vol, .int .i64 (D - S), .slice (some ⟨gf, 0, none⟩) n n], .int .i64 0])) w4 from fun w4 hr hb => by
          rw [HR.out, CFN.out]
          refine ⟨⟨_, rfl, hr.own (by rw [fillsL_len]; exact HN.out.symm) (fun k hk => by rw [fillsL_get]; rfl) (Nat.le_of_lt SS.out.low) (by unfold maxLen; omega)⟩, hb⟩)
        obtain ⟨q1, q3⟩ := set4_spec SS.out.out (.int .i64 x) (.int .i64 vol) (.int .i64 (D - S)) (.slice (some ⟨gf, 0, none⟩) n n)
        have q2 := hid (SS.out.below.trans (q3.below SS.out.below.size (fun k hk => by omega)))
        have q4 := hid (SS.out.fills.kept q3 (by have := SS.out.low; omega))
        have q5 := hid q1
        clear q1 q3
        go_wp2
        show bodyPost _ _ _ _ _ (set4 wr w.heap.size (.int .i64 x) (.int .i64 vol) (.int .i64 (D - S)) (.slice (some ⟨gf, 0, none⟩) n n))
        obtain ⟨w4, hw4⟩ : ∃ w4, w4 = set4 wr w.heap.size (.int .i64 x) (.int .i64 vol) (.int .i64 (D - S)) (.slice (some ⟨gf, 0, none⟩) n n) := ⟨_, rfl⟩
        rw [← hw4] at q2 q4 q5 ⊢
        clear hw4
        have m0 : w4.cell? ⟨w.heap.size, 0, none⟩ = some (.int .i64 x) := by rw [q5.out.cell]; rfl
        have m1 : w4.cell? ⟨w.heap.size, 1, none⟩ = some (.int .i64 vol) := by rw [q5.out.cell]; rfl
        have m2 : w4.cell? ⟨w.heap.size, 2, none⟩ = some (.int .i64 (D - S)) := by rw [q5.out.cell]; rfl
        have m3 : w4.cell? ⟨w.heap.size, 3, none⟩ = some (.slice (some ⟨gf, 0, none⟩) n n) := by rw [q5.out.cell]; rfl
        exact bodyPost_ret (v := .tuple #[.agg #[.int .i64 x, .int .i64 vol, .int .i64 (D - S), .slice (some ⟨gf, 0, none⟩) n n], .int .i64 0]) (by simp [results, Tryz.results30, go_sem, m0, m1, m2, m3]) rfl (CFX.out w4 q4.out q2.out)
end Go.Proofs.YtepldjidkomclaaGreat.Ca
namespace Go.Proofs.YtepldjidkomclaaGreat.Ca
set_option linter.unusedSimpArgs false
set_option linter.unusedVariables false
open Go.RowKit Go.Shelf
attribute [local go_sem] Oper.semAt_some
attribute [local go_sem ↓] Go.wp_at_zero Go.wp_at_succ
/-- What Clear answers. -/
def clearF (l : List Bd) (x rule : Int) : ResT := if chk l ≠ 0 then ⟨0, 0, 0, [], chk l⟩ else if inC x 1 1000000 = true ∧ (rule = 1 ∨ rule = 2) then (if priceZ (zonesL l) x = 0 then ⟨0, 0, 0, [], 30⟩ else clrF l (priceZ (zonesL l) x) rule) else ⟨0, 0, 0, [], 1⟩
/-- What ClearAt answers. -/
def clearAtF (l : List Bd) (x rule : Int) : ResT := if chk l ≠ 0 then ⟨0, 0, 0, [], chk l⟩ else if inC x 1 1000000 = true ∧ (rule = 1 ∨ rule = 2) then clrF l x rule else ⟨0, 0, 0, [], 1⟩

set_option maxRecDepth 100000 in
set_option maxHeartbeats 8000000 in
theorem clear_calls {w : World} {v : Value} {l : List Bd} (hv : ReadsE encBd 3 w v l) (x rule : Int) :
    Calls Tryz.prog 9 #[v, .int .i64 x, .int .i64 rule] w fun e w' => ResP w.heap.size (clearF l x rule) e w' ∧ Below w.heap.size w w' := by
  obtain ⟨R, hR⟩ : ∃ R : Ending → World → Prop, R = fun e w' => ResP w.heap.size (clearF l x rule) e w' ∧ Below w.heap.size w w' := ⟨_, rfl⟩
  rw [← hR]
  have FM := hid (show ∀ (r : ResT) (vf : Value) w', clearF l x rule = r → RowI w.heap.size w' vf r.f → Below w.heap.size w w' → R (.returned (.tuple #[.agg #[.int .i64 r.p, .int .i64 r.v, .int .i64 r.s, vf], .int .i64 r.e])) w' from fun r vf w' h1 h2 h3 => by rw [hR, h1]; exact ⟨⟨vf, rfl, h2⟩, h3⟩)
  clear hR
  have b1 := (Below.refl w.heap.size w).alloc (Nat.le_refl _) (.cells #[.int .i64 0, .int .i64 0, .int .i64 0, .slice none 0 0] 40)
  have CH := hid (check_calls (hv.below b1))
  have C1 := hid (Cells.new w #[.int .i64 0, .int .i64 0, .int .i64 0, .slice none 0 0] 40)
  have B1 := hid b1
  have IN := hid (fun wx => in_calls x 1 1000000 wx)
  have hrd := hid (fun w' (hb : Below w.heap.size w w') => show ReadsE encBd 3 w' v l from hv.below hb)
  have PR := hid (fun (hc : chk l = 0) (hi : inC x 1 1000000 = true) wx (hb : Below w.heap.size w wx) => price_calls (hrd.out wx hb) (chk_zero hc).1 (chk_zero hc).2 (inC_true hi))
  have CL := hid (fun (hc : chk l = 0) p wx (hb : Below w.heap.size w wx) => cleared_calls (hrd.out wx hb) (chk_zero hc).1 (chk_zero hc).2 p rule)
  unfold clearF at FM
  obtain ⟨c, hc⟩ : ∃ c, c = chk l := ⟨_, rfl⟩
  rw [← hc] at CH FM
  have HC := hid hc
  obtain ⟨b, hb⟩ : ∃ b, b = inC x 1 1000000 := ⟨_, rfl⟩
  have HB := hid hb
  rw [← hb] at IN FM
  obtain ⟨p, hp⟩ : ∃ p, p = priceZ (zonesL l) x := ⟨_, rfl⟩
  rw [← hp] at PR FM
  clear hp
  clear hc hb hv b1
  go_enter Tryz.func9, Tryz.ntmps9
  go_wp2_with fail
  refine CH.out.mono ?_
  rintro e w2 ⟨rfl, hb2⟩
  have B2 := hid (B1.out.trans (hb2.mono B1.out.size))
  have c2 : Cells w2 w.heap.size #[.int .i64 0, .int .i64 0, .int .i64 0, .slice none 0 0] 40 := C1.out.below hb2 (by rw [World.size_alloc]; omega)
  clear hb2 CH C1
  have d0 : w2.cell? ⟨w.heap.size, 0, none⟩ = some (.int .i64 0) := by rw [c2.cell]; rfl
  have d1 : w2.cell? ⟨w.heap.size, 1, none⟩ = some (.int .i64 0) := by rw [c2.cell]; rfl
  have d2 : w2.cell? ⟨w.heap.size, 2, none⟩ = some (.int .i64 0) := by rw [c2.cell]; rfl
  have d3 : w2.cell? ⟨w.heap.size, 3, none⟩ = some (.slice none 0 0) := by rw [c2.cell]; rfl
  have f0 := c2.frozen 0
  have f1 := c2.frozen 1
  have f2 := c2.frozen 2
  have f3 := c2.frozen 3
  have y1 := c2.lt
  by_cases hc0 : c = 0
  · subst hc0
    rw [if_neg (fun h => h rfl)] at FM
    have C2 := hid c2
    by_cases hbr : b = true ∧ (rule = 1 ∨ rule = 2)
    · rw [if_pos hbr] at FM
      obtain ⟨rfl, hr⟩ := hbr
      clear c2
      have G : (rule != 1) = false ∨ (rule != 1) = true ∧ (rule != 2) = false := by
        rcases hr with rfl | rfl
        · exact .inl rfl
        · exact .inr ⟨rfl, rfl⟩
      clear hr
      have PRX := hid (fun wx (hb : Below w.heap.size w wx) => PR.out HC.out.symm HB.out.symm wx hb)
      have CLX := hid (fun wx (hb : Below w.heap.size w wx) => CL.out HC.out.symm p wx hb)
      clear PR CL
      by_cases hp0 : p = 0
      · rw [if_pos hp0] at FM
        have e1 : (p == 0) = true := by simpa using hp0
        clear hp0
        rcases G with g1 | ⟨g1, g2⟩
        all_goals (
          go_wp2_with (go_at_call 28; refine (IN.out _).mono ?_; rintro e w3 ⟨rfl, rfl⟩)
          refine (PRX.out _ B2.out).mono ?_
          rintro e w5 ⟨rfl, hb5⟩
          have c5 := C2.out.below hb5 C2.out.lt
          have B5 := hid (B2.out.trans (hb5.mono B2.out.size))
          clear hb5 d0 d1 d2 d3 f0 f1 f2 f3 y1
          have d0 : w5.cell? ⟨w.heap.size, 0, none⟩ = some (.int .i64 0) := by rw [c5.cell]; rfl
          have d1 : w5.cell? ⟨w.heap.size, 1, none⟩ = some (.int .i64 0) := by rw [c5.cell]; rfl
          have d2 : w5.cell? ⟨w.heap.size, 2, none⟩ = some (.int .i64 0) := by rw [c5.cell]; rfl
          have d3 : w5.cell? ⟨w.heap.size, 3, none⟩ = some (.slice none 0 0) := by rw [c5.cell]; rfl
          have f0 := c5.frozen 0
          have f1 := c5.frozen 1
          have f2 := c5.frozen 2
          have f3 := c5.frozen 3
          have y1 := c5.lt
          obtain ⟨q1, q3⟩ := set4_spec c5 (.int .i64 0) (.int .i64 0) (.int .i64 0) (.slice none 0 0)
          have q2 := hid (B5.out.trans (q3.below B5.out.size (fun k hk => by omega)))
          have q5 := hid q1
          have q3 := hid q3
          clear q1
          go_wp2
          show bodyPost _ _ _ _ _ (set4 w5 w.heap.size (.int .i64 0) (.int .i64 0) (.int .i64 0) (.slice none 0 0))
          obtain ⟨w4, hw4⟩ : ∃ w4, w4 = set4 w5 w.heap.size (.int .i64 0) (.int .i64 0) (.int .i64 0) (.slice none 0 0) := ⟨_, rfl⟩
          rw [← hw4] at q2 q3 q5 ⊢
          clear hw4
          have m0 : w4.cell? ⟨w.heap.size, 0, none⟩ = some (.int .i64 0) := by rw [q5.out.cell]; rfl
          have m1 : w4.cell? ⟨w.heap.size, 1, none⟩ = some (.int .i64 0) := by rw [q5.out.cell]; rfl
          have m2 : w4.cell? ⟨w.heap.size, 2, none⟩ = some (.int .i64 0) := by rw [q5.out.cell]; rfl
          have m3 : w4.cell? ⟨w.heap.size, 3, none⟩ = some (.slice none 0 0) := by rw [q5.out.cell]; rfl
          exact bodyPost_ret (v := .tuple #[.agg #[.int .i64 0, .int .i64 0, .int .i64 0, .slice none 0 0], .int .i64 30]) (by simp [results, Tryz.results9, go_sem, m0, m1, m2, m3]) rfl (FM.out _ _ w4 rfl (OwnE.nil _ _) q2.out))
      · rw [if_neg hp0] at FM
        have e1 : (p == 0) = false := by simpa using hp0
        clear hp0
        rcases G with g1 | ⟨g1, g2⟩
        all_goals (
          go_wp2_with (go_at_call 28; refine (IN.out _).mono ?_; rintro e w3 ⟨rfl, rfl⟩)
          refine (PRX.out _ B2.out).mono ?_
          rintro e w3 ⟨rfl, hb3⟩
          have B3 := hid (B2.out.trans (hb3.mono B2.out.size))
          have C3 := hid (C2.out.below hb3 C2.out.lt)
          clear hb3
          go_wp2_with fail
          refine (CLX.out _ B3.out).mono ?_
          rintro e w5 ⟨⟨vf, rfl, hr5⟩, hb5⟩
          obtain ⟨pf, cf, hvf, hh⟩ := hr5.form
          obtain ⟨nf, hnf⟩ : ∃ nf, nf = (clrF l p rule).f.length := ⟨_, rfl⟩
          rw [← hnf] at hvf
          subst hvf
          have HH := hid hh
          clear hnf hh
          have c5 := C3.out.below hb5 C3.out.lt
          have B5 := hid (B3.out.trans (hb5.mono B3.out.size))
          have R5 := hid hr5
          clear hr5 hb5 d0 d1 d2 d3 f0 f1 f2 f3 y1
          have d0 : w5.cell? ⟨w.heap.size, 0, none⟩ = some (.int .i64 0) := by rw [c5.cell]; rfl
          have d1 : w5.cell? ⟨w.heap.size, 1, none⟩ = some (.int .i64 0) := by rw [c5.cell]; rfl
          have d2 : w5.cell? ⟨w.heap.size, 2, none⟩ = some (.int .i64 0) := by rw [c5.cell]; rfl
          have d3 : w5.cell? ⟨w.heap.size, 3, none⟩ = some (.slice none 0 0) := by rw [c5.cell]; rfl
          have f0 := c5.frozen 0
          have f1 := c5.frozen 1
          have f2 := c5.frozen 2
          have f3 := c5.frozen 3
          have y1 := c5.lt
          obtain ⟨q1, q3⟩ := set4_spec c5 (.int .i64 (clrF l p rule).p) (.int .i64 (clrF l p rule).v) (.int .i64 (clrF l p rule).s) (.slice pf nf cf)
          have q2 := hid (B5.out.trans (q3.below B5.out.size (fun k hk => by omega)))
          have q5 := hid q1
          have q3 := hid q3
          clear q1
          go_wp2
          show bodyPost _ _ _ _ _ (set4 w5 w.heap.size (.int .i64 (clrF l p rule).p) (.int .i64 (clrF l p rule).v) (.int .i64 (clrF l p rule).s) (.slice pf nf cf))
          obtain ⟨w4, hw4⟩ : ∃ w4, w4 = set4 w5 w.heap.size (.int .i64 (clrF l p rule).p) (.int .i64 (clrF l p rule).v) (.int .i64 (clrF l p rule).s) (.slice pf nf cf) := ⟨_, rfl⟩
          rw [← hw4] at q2 q3 q5 ⊢
          clear hw4
          have m0 : w4.cell? ⟨w.heap.size, 0, none⟩ = some (.int .i64 (clrF l p rule).p) := by rw [q5.out.cell]; rfl
          have m1 : w4.cell? ⟨w.heap.size, 1, none⟩ = some (.int .i64 (clrF l p rule).v) := by rw [q5.out.cell]; rfl
          have m2 : w4.cell? ⟨w.heap.size, 2, none⟩ = some (.int .i64 (clrF l p rule).s) := by rw [q5.out.cell]; rfl
          have m3 : w4.cell? ⟨w.heap.size, 3, none⟩ = some (.slice pf nf cf) := by rw [q5.out.cell]; rfl
          exact bodyPost_ret (v := .tuple #[.agg #[.int .i64 (clrF l p rule).p, .int .i64 (clrF l p rule).v, .int .i64 (clrF l p rule).s, .slice pf nf cf], .int .i64 (clrF l p rule).e]) (by simp [results, Tryz.results9, go_sem, m0, m1, m2, m3]) rfl (FM.out (clrF l p rule) (.slice pf nf cf) w4 rfl ((R5.out.mono B3.out.size).kept q3.out (fun k hk e => by rcases HH.out with ⟨rfl, _⟩ | ⟨g, rfl, hg, _⟩ <;> cases hk; have e2 : g = w.heap.size := e; have := C3.out.lt; omega)) q2.out))
    · rw [if_neg hbr] at FM
      cases b with
      | true =>
        have g1 : (rule != 1) = true := by
          have : ¬ rule = 1 := fun h => hbr ⟨rfl, .inl h⟩
          simpa using this
        have g2 : (rule != 2) = true := by
          have : ¬ rule = 2 := fun h => hbr ⟨rfl, .inr h⟩
          simpa using this
        clear hbr c2
        go_upto_region 5 with (go_at_call 28; refine (IN.out _).mono ?_; rintro e w3 ⟨rfl, rfl⟩)
        obtain ⟨q1, q3⟩ := set4_spec C2.out (.int .i64 0) (.int .i64 0) (.int .i64 0) (.slice none 0 0)
        have q2 := hid (B2.out.trans (q3.below B2.out.size (fun k hk => by omega)))
        have q5 := hid q1
        have q3 := hid q3
        clear q1
        go_wp2
        show bodyPost _ _ _ _ _ (set4 w3 w.heap.size (.int .i64 0) (.int .i64 0) (.int .i64 0) (.slice none 0 0))
        obtain ⟨w4, hw4⟩ : ∃ w4, w4 = set4 w3 w.heap.size (.int .i64 0) (.int .i64 0) (.int .i64 0) (.slice none 0 0) := ⟨_, rfl⟩
        rw [← hw4] at q2 q3 q5 ⊢
        clear hw4
        have m0 : w4.cell? ⟨w.heap.size, 0, none⟩ = some (.int .i64 0) := by rw [q5.out.cell]; rfl
        have m1 : w4.cell? ⟨w.heap.size, 1, none⟩ = some (.int .i64 0) := by rw [q5.out.cell]; rfl
        have m2 : w4.cell? ⟨w.heap.size, 2, none⟩ = some (.int .i64 0) := by rw [q5.out.cell]; rfl
        have m3 : w4.cell? ⟨w.heap.size, 3, none⟩ = some (.slice none 0 0) := by rw [q5.out.cell]; rfl
        exact bodyPost_ret (v := .tuple #[.agg #[.int .i64 0, .int .i64 0, .int .i64 0, .slice none 0 0], .int .i64 1]) (by simp [results, Tryz.results9, go_sem, m0, m1, m2, m3]) rfl (FM.out _ _ w4 rfl (OwnE.nil _ _) q2.out)
      | false =>
        clear hbr c2
        go_upto_region 5 with (go_at_call 28; refine (IN.out _).mono ?_; rintro e w3 ⟨rfl, rfl⟩)
        obtain ⟨q1, q3⟩ := set4_spec C2.out (.int .i64 0) (.int .i64 0) (.int .i64 0) (.slice none 0 0)
        have q2 := hid (B2.out.trans (q3.below B2.out.size (fun k hk => by omega)))
        have q5 := hid q1
        have q3 := hid q3
        clear q1
        go_wp2
        show bodyPost _ _ _ _ _ (set4 w3 w.heap.size (.int .i64 0) (.int .i64 0) (.int .i64 0) (.slice none 0 0))
        obtain ⟨w4, hw4⟩ : ∃ w4, w4 = set4 w3 w.heap.size (.int .i64 0) (.int .i64 0) (.int .i64 0) (.slice none 0 0) := ⟨_, rfl⟩
        rw [← hw4] at q2 q3 q5 ⊢
        clear hw4
        have m0 : w4.cell? ⟨w.heap.size, 0, none⟩ = some (.int .i64 0) := by rw [q5.out.cell]; rfl
        have m1 : w4.cell? ⟨w.heap.size, 1, none⟩ = some (.int .i64 0) := by rw [q5.out.cell]; rfl
        have m2 : w4.cell? ⟨w.heap.size, 2, none⟩ = some (.int .i64 0) := by rw [q5.out.cell]; rfl
        have m3 : w4.cell? ⟨w.heap.size, 3, none⟩ = some (.slice none 0 0) := by rw [q5.out.cell]; rfl
        exact bodyPost_ret (v := .tuple #[.agg #[.int .i64 0, .int .i64 0, .int .i64 0, .slice none 0 0], .int .i64 1]) (by simp [results, Tryz.results9, go_sem, m0, m1, m2, m3]) rfl (FM.out _ _ w4 rfl (OwnE.nil _ _) q2.out)
  · rw [if_pos hc0] at FM
    have e1 : (c != 0) = true := by simpa using hc0
    have C2 := hid c2
    clear hc0 c2
    obtain ⟨q1, q3⟩ := set4_spec C2.out (.int .i64 0) (.int .i64 0) (.int .i64 0) (.slice none 0 0)
    have q2 := hid (B2.out.trans (q3.below B2.out.size (fun k hk => by omega)))
    have q5 := hid q1
    have q3 := hid q3
    clear q1
    go_wp2
    show bodyPost _ _ _ _ _ (set4 w2 w.heap.size (.int .i64 0) (.int .i64 0) (.int .i64 0) (.slice none 0 0))
    obtain ⟨w4, hw4⟩ : ∃ w4, w4 = set4 w2 w.heap.size (.int .i64 0) (.int .i64 0) (.int .i64 0) (.slice none 0 0) := ⟨_, rfl⟩
    rw [← hw4] at q2 q3 q5 ⊢
    clear hw4
    have m0 : w4.cell? ⟨w.heap.size, 0, none⟩ = some (.int .i64 0) := by rw [q5.out.cell]; rfl
    have m1 : w4.cell? ⟨w.heap.size, 1, none⟩ = some (.int .i64 0) := by rw [q5.out.cell]; rfl
    have m2 : w4.cell? ⟨w.heap.size, 2, none⟩ = some (.int .i64 0) := by rw [q5.out.cell]; rfl
    have m3 : w4.cell? ⟨w.heap.size, 3, none⟩ = some (.slice none 0 0) := by rw [q5.out.cell]; rfl
    exact bodyPost_ret (v := .tuple #[.agg #[.int .i64 0, .int .i64 0, .int .i64 0, .slice none 0 0], .int .i64 c]) (by simp [results, Tryz.results9, go_sem, m0, m1, m2, m3]) rfl (FM.out _ _ w4 rfl (OwnE.nil _ _) q2.out)

end Go.Proofs.YtepldjidkomclaaGreat.Ca
namespace Go.Proofs.YtepldjidkomclaaGreat.Ca
set_option linter.unusedSimpArgs false
set_option linter.unusedVariables false
open Go.RowKit Go.Shelf
attribute [local go_sem] Oper.semAt_some
attribute [local go_sem ↓] Go.wp_at_zero Go.wp_at_succ
def zn0 : Zn := ⟨0, 0, 0, 0⟩
/-- The zones of the greatest volume. -/
def bestZ (l : List Bd) : List Zn := keptF F1 (zonesL l)
/-- What Best answers. -/
def bsF (l : List Bd) : Int × Int × Int × Int := if chk l ≠ 0 then (0, 0, 0, chk l) else if ((bestZ l).getD 0 zn0).vol = 0 then (0, 0, 0, 30) else (((bestZ l).getD 0 zn0).f, ((bestZ l).getD ((bestZ l).length - 1) zn0).t, ((bestZ l).getD 0 zn0).vol, 0)

end Go.Proofs.YtepldjidkomclaaGreat.Ca
