/- What clearing gives, plain. call.cleared. -/
import Derived.Test.YtjhelinbjlahiaaJSv2
import Derived.Test.YtjhelinbjlahiaaJCl1
namespace Go.Proofs.Ytjhelinbjlahiaa
set_option linter.unusedSimpArgs false
set_option linter.unusedVariables false
open Go.RowKit
/-- A result and an error. -/
structure ResT where
  p : Int
  v : Int
  s : Int
  f : List Int
  e : Int
def stageF (l : List Bd) (x v rule : Int) : Nat → Nat → Int
  | 0 => fun _ => 0
  | 1 => servedF l 1 x v rule (fun _ => 0)
  | _ => servedF l 2 x v rule (servedF l 1 x v rule (fun _ => 0))
/-- The fill of a bid. -/
def fillOf (l : List Bd) (x v rule : Int) (i : Nat) : Int := if part 2 x (bAt l i) = true then fillF l 2 x v rule i else if part 1 x (bAt l i) = true then fillF l 1 x v rule i else 0
def fillsL (l : List Bd) (x v rule : Int) : List Int := (List.range l.length).map (fillOf l x v rule)
theorem stage_two (l : List Bd) (x v rule : Int) (i : Nat) : stageF l x v rule 2 i = fillOf l x v rule i := rfl
theorem fillsL_len (l : List Bd) (x v rule : Int) : (fillsL l x v rule).length = l.length := by simp [fillsL]
theorem fillsL_get (l : List Bd) (x v rule : Int) (i : Nat) (hi : i < (fillsL l x v rule).length) : (fillsL l x v rule)[i] = fillOf l x v rule i := by simp [fillsL]
/-- What clearing at a price gives. -/
def clrF (l : List Bd) (x rule : Int) : ResT := if min (dem l x) (sup l x) = 0 then ⟨0, 0, 0, [], 30⟩ else ⟨x, min (dem l x) (sup l x), dem l x - sup l x, fillsL l x (min (dem l x) (sup l x)) rule, 0⟩
/-- A result that is returned. -/
def ResP (B : Nat) (r : ResT) (e : Ending) (w' : World) : Prop := ∃ vf, e = .returned (.tuple #[.agg #[.int .i64 r.p, .int .i64 r.v, .int .i64 r.s, vf], .int .i64 r.e]) ∧ RowI B w' vf r.f
theorem part_two {x : Int} {b : Bd} (h : part 2 x b = true) : part 1 x b = false := by unfold part at *; simp at h ⊢; omega
theorem stage_zero {l : List Bd} {x v rule : Int} {i : Nat} (hp : part 2 x (bAt l i) = true) : stageF l x v rule 1 i = 0 := by
  show servedF l 1 x v rule (fun _ => 0) i = 0
  unfold servedF
  rw [if_neg (by rw [part_two hp]; decide)]
/-- Four cells written anew. -/
def set4 (w : World) (B : Nat) (v0 v1 v2 v3 : Value) : World := (((w.setCell ⟨B, 0, none⟩ v0).setCell ⟨B, 1, none⟩ v1).setCell ⟨B, 2, none⟩ v2).setCell ⟨B, 3, none⟩ v3
theorem set4_spec {w : World} {B : Nat} {a0 a1 a2 a3 : Value} {ty : TypeId} (h : Cells w B #[a0, a1, a2, a3] ty) (v0 v1 v2 v3 : Value) : Cells (set4 w B v0 v1 v2 v3) B #[v0, v1, v2, v3] ty ∧ Kept (fun k => k = B) w (set4 w B v0 v1 v2 v3) := by
  refine ⟨?_, (((set_kept w B 0 v0).trans (set_kept _ _ 1 v1) (fun _ _ e => e)).trans (set_kept _ _ 2 v2) (fun _ _ e => e)).trans (set_kept _ _ 3 v3) (fun _ _ e => e)⟩
  have := (((h.set 0 v0).set 1 v1).set 2 v2).set 3 v3
  exact this
/-- The sum of a side's quantities, by places. -/
theorem idsTo_sum {l : List Bd} {sd x : Int} {f : Bd → Bool} (hf : ∀ b ∈ l, part sd x b = f b) : ∀ n, n ≤ l.length → sumI (qs l (idsTo l sd x n)) = sumQ f (l.take n)
  | 0, _ => by simp [idsTo, qs, sumI, sumQ]
  | n + 1, h => by
    have hn : n < l.length := by omega
    rw [idsTo_succ, qs_app, sumI_app, idsTo_sum hf n (by omega), take_snoc hn, sumQ_snoc, bAt_get hn, hf _ (List.getElem_mem hn)]
    congr 1
    by_cases hp : f l[n] = true
    · rw [if_pos hp, if_pos hp]
      simp [qs, sumI, qI, bAt_get hn]
    · rw [if_neg hp, if_neg hp]; rfl
theorem part_buy {l : List Bd} {x : Int} : ∀ b ∈ l, part 1 x b = buyT x b := fun b _ => by
  unfold part buyT Bd.takes
  by_cases h : b.s = 1
  · simp [h]
  · simp [h]
theorem part_sell {l : List Bd} (hok : ∀ b ∈ l, b.ok) {x : Int} : ∀ b ∈ l, part 2 x b = selT x b := fun b hb => by
  have := (hok b hb).1
  unfold part selT Bd.takes
  by_cases h : b.s = 1
  · simp [h]
  · have : b.s = 2 := by omega
    simp [this]
theorem ids_buy (l : List Bd) (x : Int) : sumI (qs l (ids l 1 x)) = dem l x := by
  unfold ids dem
  rw [idsTo_sum part_buy l.length (Nat.le_refl _), List.take_length]
theorem ids_sell {l : List Bd} (hok : ∀ b ∈ l, b.ok) (x : Int) : sumI (qs l (ids l 2 x)) = sup l x := by
  unfold ids sup
  rw [idsTo_sum (part_sell hok) l.length (Nat.le_refl _), List.take_length]
theorem ids_some {l : List Bd} (hok : ∀ b ∈ l, b.ok) {x : Int} (h : min (dem l x) (sup l x) ≠ 0) : ids l 1 x ≠ [] ∧ ids l 2 x ≠ [] := by
  have h1 := sumQ_bound (buyT x) hok
  have h2 := sumQ_bound (selT x) hok
  have e1 := ids_buy l x
  have e2 := ids_sell hok x
  unfold dem at *
  unfold sup at *
  constructor
  · intro h0
    rw [h0] at e1
    simp [qs, sumI] at e1
    omega
  · intro h0
    rw [h0] at e2
    simp [qs, sumI] at e2
    omega
end Go.Proofs.Ytjhelinbjlahiaa
namespace Go.Proofs.Ytjhelinbjlahiaa
set_option linter.unusedSimpArgs false
set_option linter.unusedVariables false
open Go.RowKit
attribute [local go_sem] Oper.semAt_some
attribute [local go_sem ↓] Go.wp_at_zero Go.wp_at_succ
def resCells (p v s : Int) (vf : Value) : Array Value := #[.int .i64 p, .int .i64 v, .int .i64 s, vf]
/-- What stands while cleared runs. -/
structure ClS (w : World) (x vol sur : Int) (n r gf : Nat) (h : Nat → Int) (wr : World) : Prop where
  out : Cells wr w.heap.size #[.int .i64 0, .int .i64 0, .int .i64 0, .slice none 0 0] 26
  res : Cells wr r #[.int .i64 x, .int .i64 vol, .int .i64 sur, .slice (some ⟨gf, 0, none⟩) n n] 26
  arr : Cells wr (r + 1) #[.int .i64 1, .int .i64 2] 3
  fills : RowL wr gf n h
  below : Below w.heap.size w wr
  low : w.heap.size < gf
  low2 : gf < r

set_option maxRecDepth 100000 in
set_option maxHeartbeats 8000000 in
theorem cleared_calls {w : World} {v : Value} {l : List Bd} (hv : ReadsE encBd 3 w v l) (hl : l.length ≤ 4096) (hok : ∀ b ∈ l, b.ok) (x rule : Int) :
    Calls Try.prog 42 #[v, .int .i64 x, .int .i64 rule] w fun e w' => ResP w.heap.size (clrF l x rule) e w' ∧ Below w.heap.size w w' := by
  obtain ⟨R, hR⟩ : ∃ R : Ending → World → Prop, R = fun e w' => ResP w.heap.size (clrF l x rule) e w' ∧ Below w.heap.size w w' := ⟨_, rfl⟩
  rw [← hR]
  have HR := hid hR
  have HV := hid hv
  obtain ⟨hm, p, cap, bb, off, rfl, hp, hc⟩ := hv
  obtain ⟨n, hn⟩ : ∃ n, n = l.length := ⟨_, rfl⟩
  rw [← hn] at hl HV ⊢
  have HN := hid hn
  have HOK := hid hok
  have hd := sumQ_bound (buyT x) hok
  have hs := sumQ_bound (selT x) hok
  rw [← hn] at hd hs
  have SM := hid (fun wx (hb : Below w.heap.size w wx) => sums_calls (HV.out.below hb) (by rw [← HN.out]; exact hl) HOK.out x)
  have SOME := hid (fun (h : min (dem l x) (sup l x) ≠ 0) => ids_some hok h)
  have CF := hid (show clrF l x rule = if min (dem l x) (sup l x) = 0 then ⟨0, 0, 0, [], 30⟩ else ⟨x, min (dem l x) (sup l x), dem l x - sup l x, fillsL l x (min (dem l x) (sup l x)) rule, 0⟩ from rfl)
  obtain ⟨D, hD⟩ : ∃ D, D = dem l x := ⟨_, rfl⟩
  obtain ⟨S, hS⟩ : ∃ S, S = sup l x := ⟨_, rfl⟩
  rw [show sumQ (buyT x) l = D by rw [hD]; rfl] at hd
  rw [show sumQ (selT x) l = S by rw [hS]; rfl] at hs
  rw [← hD, ← hS] at SM SOME CF
  have hdb : 0 ≤ D ∧ D ≤ 4096000000000 := by omega
  have hsb : 0 ≤ S ∧ S ≤ 4096000000000 := by omega
  have ew : IntKind.i64.wrap (D - S) = D - S := IntWalk.i64_in _ (by omega)
  have b1 := hid ((Below.refl w.heap.size w).alloc (Nat.le_refl _) (.cells #[.int .i64 0, .int .i64 0, .int .i64 0, .slice none 0 0] 26))
  clear hR hok hn hc hp hd hs hD hS hm
  go_enter Try.func42, Try.ntmps42
  go_upto_region 1 with fail
  go_wp2_with fail
  refine (SM.out _ b1.out).mono ?_
  rintro e w2 ⟨rfl, hb2⟩
  have B2 := hid (b1.out.trans (hb2.mono b1.out.size))
  have c2 : Cells w2 w.heap.size #[.int .i64 0, .int .i64 0, .int .i64 0, .slice none 0 0] 26 := (Cells.new w _ _).below hb2 (by rw [World.size_alloc]; omega)
  have C2 := hid c2
  have l2 := c2.lt
  have hmk := mk_i64 w2 n (by omega)
  clear hb2 SM c2
  obtain ⟨vol, hvol⟩ : ∃ vol, vol = min D S := ⟨_, rfl⟩
  rw [← hvol] at SOME CF
  have hvb : 0 ≤ vol ∧ vol ≤ 5000000000000 := by omega
  have HVO := hid hvol
  clear hvol
  have NB := hid (fun (h : vol ≠ 0) => SOME.out h)
  go_upto_region 3 with fail
  rw [← HVO.out]
  obtain ⟨w3, hw3⟩ : ∃ w3, w3 = ((w2.alloc (.cells (madeCells #[.int .i64 0] n) 2)).alloc (.cells #[.int .i64 x, .int .i64 vol, .int .i64 (D - S), .slice (some ⟨w2.heap.size, 0, none⟩) n n] 26)) := ⟨_, rfl⟩
  rw [← hw3]
  have z1 : Cells w3 w.heap.size #[.int .i64 0, .int .i64 0, .int .i64 0, .slice none 0 0] 26 := by rw [hw3]; exact (C2.out.alloc _).alloc _
  have z2 : Cells w3 (w2.heap.size + 1) #[.int .i64 x, .int .i64 vol, .int .i64 (D - S), .slice (some ⟨w2.heap.size, 0, none⟩) n n] 26 := by
    rw [hw3]
    have := Cells.new (w2.alloc (.cells (madeCells #[.int .i64 0] n) 2)) #[.int .i64 x, .int .i64 vol, .int .i64 (D - S), .slice (some ⟨w2.heap.size, 0, none⟩) n n] 26
    rwa [World.size_alloc] at this
  have z3 : RowL w3 w2.heap.size n (fun _ => 0) := by
    rw [hw3]; exact (RowL.made w2 n).kept ((Kept.refl (fun _ => False) _).alloc _) id
  have z4 : Below w.heap.size w w3 := by rw [hw3]; exact (B2.out.alloc B2.out.size _).alloc (by have := B2.out.size; simp; omega) _
  have z5 : w3.heap.size = w2.heap.size + 2 := by rw [hw3]; simp
  obtain ⟨gf, hgf⟩ : ∃ gf, gf = w2.heap.size := ⟨_, rfl⟩
  rw [← hgf] at z2 z3 z5 l2 ⊢
  clear hw3 hgf hmk
  have e0 : w3.cell? ⟨gf + 1, 0, none⟩ = some (.int .i64 x) := by rw [z2.cell]; rfl
  have e1 : w3.cell? ⟨gf + 1, 1, none⟩ = some (.int .i64 vol) := by rw [z2.cell]; rfl
  have e2 : w3.cell? ⟨gf + 1, 2, none⟩ = some (.int .i64 (D - S)) := by rw [z2.cell]; rfl
  have e3 : w3.cell? ⟨gf + 1, 3, none⟩ = some (.slice (some ⟨gf, 0, none⟩) n n) := by rw [z2.cell]; rfl
  have d0 : w3.cell? ⟨w.heap.size, 0, none⟩ = some (.int .i64 0) := by rw [z1.cell]; rfl
  have d1 : w3.cell? ⟨w.heap.size, 1, none⟩ = some (.int .i64 0) := by rw [z1.cell]; rfl
  have d2 : w3.cell? ⟨w.heap.size, 2, none⟩ = some (.int .i64 0) := by rw [z1.cell]; rfl
  have d3 : w3.cell? ⟨w.heap.size, 3, none⟩ = some (.slice none 0 0) := by rw [z1.cell]; rfl
  have f0 := z1.frozen 0
  have f1 := z1.frozen 1
  have f2 := z1.frozen 2
  have f3 := z1.frozen 3
  have y1 := z1.lt
  have y2 := z2.lt
  by_cases hv0 : vol = 0
  · have g1 : (vol == 0) = true := by simpa using hv0
    have CF0 := hid (show clrF l x rule = ⟨0, 0, 0, [], 30⟩ by rw [CF.out, if_pos hv0])
    clear hv0
    go_wp2
    obtain ⟨q1, q3⟩ := set4_spec z1 (.int .i64 0) (.int .i64 0) (.int .i64 0) (.slice none 0 0)
    have q2 := z4.trans (q3.below z4.size (fun k hk => by omega))
    show bodyPost _ _ _ _ _ (set4 w3 w.heap.size (.int .i64 0) (.int .i64 0) (.int .i64 0) (.slice none 0 0))
    obtain ⟨w4, hw4⟩ : ∃ w4, w4 = set4 w3 w.heap.size (.int .i64 0) (.int .i64 0) (.int .i64 0) (.slice none 0 0) := ⟨_, rfl⟩
    rw [← hw4] at q1 q2 ⊢
    clear hw4 q3
    have m0 : w4.cell? ⟨w.heap.size, 0, none⟩ = some (.int .i64 0) := by rw [q1.cell]; rfl
    have m1 : w4.cell? ⟨w.heap.size, 1, none⟩ = some (.int .i64 0) := by rw [q1.cell]; rfl
    have m2 : w4.cell? ⟨w.heap.size, 2, none⟩ = some (.int .i64 0) := by rw [q1.cell]; rfl
    have m3 : w4.cell? ⟨w.heap.size, 3, none⟩ = some (.slice none 0 0) := by rw [q1.cell]; rfl
    refine bodyPost_ret (v := .tuple #[.agg #[.int .i64 0, .int .i64 0, .int .i64 0, .slice none 0 0], .int .i64 30]) (by simp [results, Try.results42, go_sem, m0, m1, m2, m3]) rfl ?_
    rw [HR.out, CF0.out]
    exact ⟨⟨_, rfl, OwnE.nil _ _⟩, q2⟩
  · have g1 : (vol == 0) = false := by simpa using hv0
    obtain ⟨nb1, nb2⟩ := NB.out hv0
    have S0 := hid (show ClS w x vol (D - S) n (gf + 1) gf (stageF l x vol rule 0) (w3.alloc (.cells #[.int .i64 1, .int .i64 2] 3)) by
      have z6 := Cells.new w3 #[.int .i64 1, .int .i64 2] 3
      rw [z5] at z6
      exact ⟨z1.alloc _, z2.alloc _, z6, z3.kept ((Kept.refl (fun _ => False) _).alloc _) id, z4.alloc z4.size _, l2, by omega⟩)
    have CFN := hid (show clrF l x rule = ⟨x, vol, D - S, fillsL l x vol rule, 0⟩ by rw [CF.out, if_neg hv0])
    have HV2 := hid hv0
    clear hv0 CF SOME
    go_upto_region 6 with fail
    clear e0 e1 e2 e3 d0 d1 d2 d3 f0 f1 f2 f3 z1 z2 z3 z4
    go_loopg [36] 2 (fun k s36 wx => ∃ i : Nat, i + k = 2 ∧ s36 = .int .i64 i ∧ ClS w x vol (D - S) n (gf + 1) gf (stageF l x vol rule i) wx)
    case atStart => exact ⟨0, rfl, rfl, S0.out⟩
    case round =>
      obtain ⟨i, hik, rfl, ss⟩ := hrel
      have HIK := hid hik
      have SS := hid ss
      clear hik ss S0
      have e1 : wr.cell? ⟨gf + 1, 1, none⟩ = some (.int .i64 vol) := by rw [SS.out.res.cell]; rfl
      have e3 : wr.cell? ⟨gf + 1, 3, none⟩ = some (.slice (some ⟨gf, 0, none⟩) n n) := by rw [SS.out.res.cell]; rfl
      have a0 : wr.cell? ⟨gf + 1 + 1, 0, none⟩ = some (.int .i64 1) := by rw [SS.out.arr.cell]; rfl
      have a1 : wr.cell? ⟨gf + 1 + 1, 1, none⟩ = some (.int .i64 2) := by rw [SS.out.arr.cell]; rfl
      have lr := SS.out.res.lt
      have la := SS.out.arr.lt
      have NX := hid (show ∀ j w', Kept (fun k => k = gf) wr w' → RowL w' gf n (stageF l x vol rule j) → ClS w x vol (D - S) n (gf + 1) gf (stageF l x vol rule j) w' from fun j w' hk hr => by
        have q1 := SS.out.low
        have q2 := SS.out.low2
        exact ⟨SS.out.out.kept hk (by omega), SS.out.res.kept hk (by omega), SS.out.arr.kept hk (by omega), hr, SS.out.below.trans (hk.below SS.out.below.size (fun k hk => by omega)), q1, q2⟩)
      rcases (show i = 0 ∨ i = 1 ∨ i = 2 by have := HIK.out; omega) with rfl | rfl | rfl
      · have SV := hid (serve_calls (w0 := w) (w := wr) (x := x) (vol := vol) (rule := rule) (sd := 1) (h0 := stageF l x vol rule 0) HV.out SS.out.below (by rw [← HN.out]; exact hl) HOK.out hvb (by rw [← HN.out]; exact SS.out.fills) (Nat.le_of_lt SS.out.low) nb1 (fun _ _ _ => rfl))
        rw [← HN.out] at SV
        go_wp2_with fail
        refine SV.out.mono ?_
        rintro e w5 ⟨rfl, hr5, hk5⟩
        have N5 := hid (NX.out 1 w5 hk5 hr5)
        clear hr5 hk5 SV
        go_wp2
        go_roundg 1
        · exact ⟨1, rfl, by go_num, N5.out⟩
        · have := HIK.out; omega
      · have SV := hid (serve_calls (w0 := w) (w := wr) (x := x) (vol := vol) (rule := rule) (sd := 2) (h0 := stageF l x vol rule 1) HV.out SS.out.below (by rw [← HN.out]; exact hl) HOK.out hvb (by rw [← HN.out]; exact SS.out.fills) (Nat.le_of_lt SS.out.low) nb2 (fun _ _ hp => stage_zero hp))
        rw [← HN.out] at SV
        go_wp2_with fail
        refine SV.out.mono ?_
        rintro e w5 ⟨rfl, hr5, hk5⟩
        have N5 := hid (NX.out 2 w5 hk5 hr5)
        clear hr5 hk5 SV
        go_wp2
        go_roundg 0
        · exact ⟨2, rfl, by go_num, N5.out⟩
        · have := HIK.out; omega
      · have e0 : wr.cell? ⟨gf + 1, 0, none⟩ = some (.int .i64 x) := by rw [SS.out.res.cell]; rfl
        have e2 : wr.cell? ⟨gf + 1, 2, none⟩ = some (.int .i64 (D - S)) := by rw [SS.out.res.cell]; rfl
        have d0 : wr.cell? ⟨w.heap.size, 0, none⟩ = some (.int .i64 0) := by rw [SS.out.out.cell]; rfl
        have d1 : wr.cell? ⟨w.heap.size, 1, none⟩ = some (.int .i64 0) := by rw [SS.out.out.cell]; rfl
        have d2 : wr.cell? ⟨w.heap.size, 2, none⟩ = some (.int .i64 0) := by rw [SS.out.out.cell]; rfl
        have d3 : wr.cell? ⟨w.heap.size, 3, none⟩ = some (.slice none 0 0) := by rw [SS.out.out.cell]; rfl
        have f0 := SS.out.out.frozen 0
        have f1 := SS.out.out.frozen 1
        have f2 := SS.out.out.frozen 2
        have f3 := SS.out.out.frozen 3
        have y1 := SS.out.out.lt
        have CFX := hid (show ∀ w4, RowL w4 gf n (stageF l x vol rule 2) → Below w.heap.size w w4 → R (.returned (.tuple #[.agg #[.int .i64 x, .int .i64 vol, .int .i64 (D - S), .slice (some ⟨gf, 0, none⟩) n n], .int .i64 0])) w4 from fun w4 hr hb => by
          rw [HR.out, CFN.out]
          refine ⟨⟨_, rfl, hr.own (by rw [fillsL_len]; exact HN.out.symm) (fun k hk => by rw [fillsL_get]; rfl) (Nat.le_of_lt SS.out.low) (by unfold maxLen; omega)⟩, hb⟩)
        obtain ⟨q1, q3⟩ := set4_spec SS.out.out (.int .i64 x) (.int .i64 vol) (.int .i64 (D - S)) (.slice (some ⟨gf, 0, none⟩) n n)
        have q2 := hid (SS.out.below.trans (q3.below SS.out.below.size (fun k hk => by omega)))
        have q4 := hid (SS.out.fills.kept q3 (by have := SS.out.low; omega))
        have q5 := hid q1
        clear q1 q3
        go_wp2
        show bodyPost _ _ _ _ _ (set4 wr w.heap.size (.int .i64 x) (.int .i64 vol) (.int .i64 (D - S)) (.slice (some ⟨gf, 0, none⟩) n n))
        obtain ⟨w4, hw4⟩ : ∃ w4, w4 = set4 wr w.heap.size (.int .i64 x) (.int .i64 vol) (.int .i64 (D - S)) (.slice (some ⟨gf, 0, none⟩) n n) := ⟨_, rfl⟩
        rw [← hw4] at q2 q4 q5 ⊢
        clear hw4
        have m0 : w4.cell? ⟨w.heap.size, 0, none⟩ = some (.int .i64 x) := by rw [q5.out.cell]; rfl
        have m1 : w4.cell? ⟨w.heap.size, 1, none⟩ = some (.int .i64 vol) := by rw [q5.out.cell]; rfl
        have m2 : w4.cell? ⟨w.heap.size, 2, none⟩ = some (.int .i64 (D - S)) := by rw [q5.out.cell]; rfl
        have m3 : w4.cell? ⟨w.heap.size, 3, none⟩ = some (.slice (some ⟨gf, 0, none⟩) n n) := by rw [q5.out.cell]; rfl
        exact bodyPost_ret (v := .tuple #[.agg #[.int .i64 x, .int .i64 vol, .int .i64 (D - S), .slice (some ⟨gf, 0, none⟩) n n], .int .i64 0]) (by simp [results, Try.results42, go_sem, m0, m1, m2, m3]) rfl (CFX.out w4 q4.out q2.out)
end Go.Proofs.Ytjhelinbjlahiaa
