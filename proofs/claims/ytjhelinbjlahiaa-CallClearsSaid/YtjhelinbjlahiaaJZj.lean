/- slices.Clone at zones; the closure of kept. call.kept. The closures of call.price and call.Best. -/
import Derived.Test.YtjhelinbjlahiaaJZf
import Derived.Test.YtjhelinbjlahiaaJZn1
namespace Go.Proofs.Ytjhelinbjlahiaa
set_option linter.unusedSimpArgs false
set_option linter.unusedVariables false
open Go.RowKit Go.Shelf
attribute [local go_sem] Oper.semAt_some
attribute [local go_sem ↓] Go.wp_at_zero Go.wp_at_succ
theorem cell_set_other {w : World} {g j b o : Nat} {v u : Value} (hne : g ≠ b) (h : w.cell? ⟨g, j, none⟩ = some v) : (w.setCell ⟨b, o, none⟩ u).cell? ⟨g, j, none⟩ = some v := by
  rw [← h]
  simp only [World.cell?, World.cells?, Below.heap_setCell w ⟨b, o, none⟩ u g hne]
theorem cell_set_self {w : World} {b o : Nat} {v u : Value} (h : w.cell? ⟨b, o, none⟩ = some v) : (w.setCell ⟨b, o, none⟩ u).cell? ⟨b, o, none⟩ = some u := World.cell?_setCell_same' _ _ _ (by rw [h]; rfl)
theorem kept_cell {X : Nat → Prop} {w w' : World} (h : Kept X w w') {g : Nat} (hg : g < w.heap.size) (hx : ¬ X g) (j : Nat) : w'.cell? ⟨g, j, none⟩ = w.cell? ⟨g, j, none⟩ := by
  simp only [World.cell?, World.cells?, h.block g hg hx]

theorem clone_calls {B : Nat} {w : World} {g n cap : Nat} {Z : List Zn} (h : RowZ B w (.slice (some ⟨g, 0, none⟩) n cap) Z) (hn : Z.length ≤ 5000) :
    Calls Try.prog 68 #[.slice (some ⟨g, 0, none⟩) n cap] w fun e w' => ∃ v', e = .returned v' ∧ RowZ w.heap.size w' v' Z ∧ v' ≠ .slice none 0 0 ∧ Below w.heap.size w w' := by
  obtain ⟨i, h1, h2, h3, h4⟩ := info_of infoZn
  obtain ⟨hnl, hg, _, hcell⟩ := OwnE.cellsAt encZn_len h
  subst hnl
  refine (AnyE.slices_Clone Try.cloneA i _ 4 32 h1 h2 h3 h4 rfl (by omega) (fun w => by kernel_rfl) g 0 Z.length cap (flatE encZn Z) w (flatE_length encZn_len Z) (by unfold maxLen; omega) (by omega) (fun j u hj => ?_) (fun u hu => by obtain ⟨a, _, ha⟩ := List.mem_flatMap.1 hu; exact encZn_one a u ha)).mono ?_
  · have hj' : j < Z.length * 4 := by rw [← flatE_length encZn_len Z]; exact (List.getElem?_eq_some_iff.1 hj).1
    have h5 := flatE_get encZn_len Z (j / 4) (by omega) (j % 4) (by omega)
    have h6 := hcell (j / 4) (by omega) (j % 4) (by omega)
    rw [show j / 4 * 4 + j % 4 = j by omega] at h5 h6
    rw [Nat.zero_add, h6, ← h5]
    exact hj
  · rintro e w' ⟨v', rfl, h5, h6, h7⟩
    exact ⟨v', rfl, h5, h6, h7⟩

set_option maxRecDepth 100000 in
set_option maxHeartbeats 4000000 in
theorem keptc_calls {w : World} {A L : Nat} {fid : Nat} {cb : Array Value} {F : Zn → Int} {X Y : Nat → Prop} {I : World → Prop} {dom : Zn → Prop} (hf : FnC (Value.int .i64) fid cb F X Y I dom) {m : Int} (hA : Cells w A #[.func (.func fid) #[] cb] 87) (hL : Cells w L #[.int .i64 m] 2) (hI : I w) (hYA : Y A) (hYL : Y L) (hYw : Y w.heap.size) (z : Zn) (hz : dom z) :
    Calls Try.prog 69 #[.agg #[.int .i64 z.f, .int .i64 z.t, .int .i64 z.d, .int .i64 z.s], .pointer (some ⟨A, 0, none⟩), .pointer (some ⟨L, 0, none⟩)] w fun e w' => e = .returned (.bool (decide (F z ≠ m))) ∧ (I w' ∧ Cells w' A #[.func (.func fid) #[] cb] 87 ∧ Cells w' L #[.int .i64 m] 2) ∧ Kept X w w' := by
  obtain ⟨R, hR⟩ : ∃ R : Ending → World → Prop, R = fun e w' => e = .returned (.bool (decide (F z ≠ m))) ∧ (I w' ∧ Cells w' A #[.func (.func fid) #[] cb] 87 ∧ Cells w' L #[.int .i64 m] 2) ∧ Kept X w w' := ⟨_, rfl⟩
  rw [← hR]
  have HR := hid hR
  have hxA : ¬ X A := fun hx => hf.apart _ hx hYA
  have hxL : ¬ X L := fun hx => hf.apart _ hx hYL
  have hxZ : ¬ X w.heap.size := fun hx => hf.apart _ hx hYw
  obtain ⟨wb, hwb⟩ : ∃ wb, wb = w.alloc (.cells #[.int .i64 z.f, .int .i64 z.t, .int .i64 z.d, .int .i64 z.s] 85) := ⟨_, rfl⟩
  have kb : Kept X w wb := by rw [hwb]; exact (Kept.refl _ _).alloc _
  have ib : I wb := by rw [hwb]; exact hf.stay _ _ hI ((Kept.refl _ _).alloc _)
  have cbz : Cells wb w.heap.size #[.int .i64 z.f, .int .i64 z.t, .int .i64 z.d, .int .i64 z.s] 85 := by rw [hwb]; exact Cells.new w _ _
  have clb : Cells wb L #[.int .i64 m] 2 := by rw [hwb]; exact hL.alloc _
  have cfb : Cells wb A #[.func (.func fid) #[] cb] 87 := by rw [hwb]; exact hA.alloc _
  have k0 : wb.cell? ⟨w.heap.size, 0, none⟩ = some (.int .i64 z.f) := by rw [cbz.cell]; rfl
  have k1 : wb.cell? ⟨w.heap.size, 1, none⟩ = some (.int .i64 z.t) := by rw [cbz.cell]; rfl
  have k2 : wb.cell? ⟨w.heap.size, 2, none⟩ = some (.int .i64 z.d) := by rw [cbz.cell]; rfl
  have k3 : wb.cell? ⟨w.heap.size, 3, none⟩ = some (.int .i64 z.s) := by rw [cbz.cell]; rfl
  have kL : wb.cell? ⟨L, 0, none⟩ = some (.int .i64 m) := by rw [clb.cell]; rfl
  have kF : wb.cell? ⟨A, 0, none⟩ = some (.func (.func fid) #[] cb) := by rw [cfb.cell]; rfl
  have lZ := cbz.lt
  have lL := clb.lt
  have lF := cfb.lt
  have CL := hid (hf.call wb.drew z (hf.stay _ _ ib (Kept.refl _ _).drew) hz)
  have CC := hid (show ∀ w', Kept X wb.drew w' → w'.cell? ⟨w.heap.size, 0, none⟩ = some (.int .i64 z.f) ∧ w'.cell? ⟨w.heap.size, 1, none⟩ = some (.int .i64 z.t) ∧ w'.cell? ⟨w.heap.size, 2, none⟩ = some (.int .i64 z.d) ∧ w'.cell? ⟨w.heap.size, 3, none⟩ = some (.int .i64 z.s) ∧ w'.cell? ⟨L, 0, none⟩ = some (.int .i64 m) ∧ w'.cell? ⟨A, 0, none⟩ = some (.func (.func fid) #[] cb) from fun w' hk =>
    ⟨(kept_cell hk lZ hxZ 0).trans k0, (kept_cell hk lZ hxZ 1).trans k1, (kept_cell hk lZ hxZ 2).trans k2, (kept_cell hk lZ hxZ 3).trans k3, (kept_cell hk lL hxL 0).trans kL, (kept_cell hk lF hxA 0).trans kF⟩)
  have FIN := hid (show ∀ b w5, b = decide (F z ≠ m) → I w5 → Kept X wb.drew w5 → R (.returned (.bool b)) w5 from fun b w5 hb hi hk => by
    rw [HR.out, hb]
    exact ⟨rfl, ⟨hi, cfb.drew.kept hk hxA, clb.drew.kept hk hxL⟩, kb.drew.trans hk (fun _ _ e => e)⟩)
  have eg := hf.eg
  have HWB := hid hwb
  clear hR hf hA hL hI hYA hYL hYw hz kb ib cbz clb cfb hwb
  go_enter Try.func69, Try.ntmps69
  go_upto_region 1 with fail
  rw [← HWB.out]
  go_region_held3 (fun wh => wh.cell? ⟨w.heap.size, 0, none⟩ = some (.int .i64 z.f) ∧ wh.cell? ⟨w.heap.size, 1, none⟩ = some (.int .i64 z.t) ∧ wh.cell? ⟨w.heap.size, 2, none⟩ = some (.int .i64 z.d) ∧ wh.cell? ⟨w.heap.size, 3, none⟩ = some (.int .i64 z.s) ∧ wh.cell? ⟨L, 0, none⟩ = some (.int .i64 m) ∧ wh.cell? ⟨A, 0, none⟩ = some (.func (.func fid) #[] cb))
    (exact ⟨k0, k1, k2, k3, kL, kF⟩)
    (first | ((with_reducible refine CL.out.mono ?_); rintro e w5 ⟨rfl, hi5, hk5⟩; obtain ⟨k0, k1, k2, k3, kL, kF⟩ := CC.out _ hk5))
  all_goals (
    have FN := hid (FIN.out (F z != m) _ (by by_cases h : F z = m <;> simp [h]) hi5 hk5)
    clear hi5 hk5
    go_wp2
    first | exact FN.out | (go_ret; exact FN.out))
end Go.Proofs.Ytjhelinbjlahiaa
namespace Go.Proofs.Ytjhelinbjlahiaa
set_option linter.unusedSimpArgs false
set_option linter.unusedVariables false
open Go.RowKit Go.Shelf
attribute [local go_sem] Oper.semAt_some
attribute [local go_sem ↓] Go.wp_at_zero Go.wp_at_succ
def minTo (F : Zn → Int) (Z : List Zn) (a : Int) : Int := Z.foldl (fun a z => min a (F z)) a
def leastF (F : Zn → Int) (Z : List Zn) : Int := minTo F Z (F (Z.getD 0 ⟨0, 0, 0, 0⟩))
/-- The zones for which F is least. -/
def keptF (F : Zn → Int) (Z : List Zn) : List Zn := Z.filter fun z => decide (F z = leastF F Z)
def KpP (F : Zn → Int) (Z : List Zn) (X : Nat → Prop) (I : World → Prop) (w : World) (e : Ending) (w' : World) : Prop :=
  ∃ v', e = .returned v' ∧ RowZ w.heap.size w' v' (keptF F Z) ∧ I w' ∧ Kept X w w'

/-- The state at a round's head. -/
structure KpS (g A L : Nat) (fv : Value) (Z : List Zn) (F : Zn → Int) (X : Nat → Prop) (I : World → Prop) (w0 : World) (i : Nat) (w : World) : Prop where
  least : Cells w L #[.int .i64 (minTo F (Z.take i) (F (Z.getD 0 ⟨0, 0, 0, 0⟩)))] 2
  box : Cells w A #[fv] 87
  inv : I w
  kept : Kept X w0 w
theorem minTo_snoc (F : Zn → Int) (l : List Zn) (z : Zn) (a : Int) : minTo F (l ++ [z]) a = min (minTo F l a) (F z) := by unfold minTo; rw [List.foldl_append]; rfl

set_option maxRecDepth 100000 in
set_option maxHeartbeats 8000000 in
theorem kept_calls {B : Nat} {w : World} {v : Value} {Z : List Zn} (h : RowZ B w v Z) (hn : Z.length ≤ 5000) (hne : Z ≠ []) {fid : Nat} {cb : Array Value} {F : Zn → Int} {X Y : Nat → Prop} {I0 I : World → Prop} {dom : Zn → Prop} (hf : FnC (Value.int .i64) fid cb F X Y I dom) (h1st : ∀ w z, I0 w → dom z → Calls Try.prog fid (#[.agg #[.int .i64 z.f, .int .i64 z.t, .int .i64 z.d, .int .i64 z.s]] ++ cb) w fun e w' => e = .returned (.int .i64 (F z)) ∧ I w' ∧ Kept X w w') (hst0 : ∀ w w', I0 w → Kept Y w w' → I0 w') (hI : I0 w) (hd : ∀ z ∈ Z, dom z) (hY : ∀ k, w.heap.size ≤ k → Y k) (hx : ∀ g, v.ownBlock = some g → ¬ X g) :
    Calls Try.prog 48 #[v, .func (.func fid) #[] cb] w (KpP F Z X I w) := by
  obtain ⟨R, hR⟩ : ∃ R, R = KpP F Z X I w := ⟨_, rfl⟩
  rw [← hR]
  have HR := hid hR
  obtain ⟨p, cap, hv, hh⟩ := OwnE.form h
  obtain ⟨n, hn2⟩ : ∃ n, n = Z.length := ⟨_, rfl⟩
  have HN := hid hn2
  rw [← hn2] at hv hn
  rcases hh with ⟨_, h0⟩ | ⟨g, rfl, hBg, hgl⟩
  · exact absurd h0 hne
  subst hv
  have h0n : 0 < n := by rw [hn2]; exact List.length_pos_iff.2 hne
  have hxg : ¬ X g := hx g rfl
  have H := hid h
  have HF := hid hf
  have H1 := hid h1st
  have HS0 := hid hst0
  have HD := hid hd
  have HY := hid hY
  have HI := hid hI
  have eg := hf.eg
  clear hR h hf hd hY hI hn2 hx h1st hst0
  go_enter Try.func48, Try.ntmps48
  go_upto_region 1 with fail
  obtain ⟨w1, hw1⟩ : ∃ w1, w1 = w.alloc (.cells #[.func (.func fid) #[] cb] 87) := ⟨_, rfl⟩
  rw [← hw1]
  have k1 : Kept X w w1 := by rw [hw1]; exact (Kept.refl _ _).alloc _
  have cb1 : Cells w1 w.heap.size #[.func (.func fid) #[] cb] 87 := by rw [hw1]; exact Cells.new w _ _
  have sz1 : w1.heap.size = w.heap.size + 1 := by rw [hw1]; simp
  have r1 : RowZ B w1 (.slice (some ⟨g, 0, none⟩) n cap) Z := by rw [hw1]; exact OwnE.alloc H.out _
  have i1 : I0 w1 := HS0.out _ _ HI.out (by rw [hw1]; exact (Kept.refl _ _).alloc _)
  obtain ⟨hnq, _, _, hcell⟩ := OwnE.cellsAt encZn_len r1
  obtain ⟨z, hz⟩ : ∃ z, z = Z.getD 0 ⟨0, 0, 0, 0⟩ := ⟨_, rfl⟩
  have hz0 : z = Z[0]'(by omega) := by rw [hz]; simp [show 0 < Z.length by omega]
  have c0 := hcell 0 (by omega) 0 (by omega)
  have c1 := hcell 0 (by omega) 1 (by omega)
  have c2 := hcell 0 (by omega) 2 (by omega)
  have c3 := hcell 0 (by omega) 3 (by omega)
  simp [encZn] at c0 c1 c2 c3
  rw [← hz0] at c0 c1 c2 c3
  have CL := hid (H1.out w1.drew z (HS0.out _ _ i1 (Kept.refl _ _).drew) (by rw [hz0]; exact HD.out _ (List.getElem_mem _)))
  have CL2 := hid (H1.out (w1.alloc (.cells #[.int .i64 0] 2)).drew z (HS0.out _ _ i1 ((Kept.refl _ _).alloc _).drew) (by rw [hz0]; exact HD.out _ (List.getElem_mem _)))
  have CBX := hid cb1
  have kf : w1.cell? ⟨w.heap.size, 0, none⟩ = some (.func (.func fid) #[] cb) := by rw [cb1.cell]; rfl
  have lf := cb1.lt
  have lg : g < w1.heap.size := by omega
  have hgL : g ≠ w.heap.size + 1 := by omega
  have hbL : w.heap.size ≠ w.heap.size + 1 := by omega
  have hxb : ¬ X w.heap.size := fun hx => HF.out.apart _ hx (HY.out _ (Nat.le_refl _))
  have K1 := hid k1
  have I1 := hid i1
  have R1 := hid r1
  have p00 : (0 : Int) < (n : Int) := by omega
  have CC := hid (show ∀ w', Kept X w1.drew w' → w'.cell? ⟨g, 0, none⟩ = some (.int .i64 z.f) ∧ w'.cell? ⟨g, 1, none⟩ = some (.int .i64 z.t) ∧ w'.cell? ⟨g, 2, none⟩ = some (.int .i64 z.d) ∧ w'.cell? ⟨g, 3, none⟩ = some (.int .i64 z.s) ∧ w'.cell? ⟨w.heap.size, 0, none⟩ = some (.func (.func fid) #[] cb) from fun w' hk =>
    ⟨(kept_cell hk lg hxg 0).trans c0, (kept_cell hk lg hxg 1).trans c1, (kept_cell hk lg hxg 2).trans c2, (kept_cell hk lg hxg 3).trans c3, (kept_cell hk lf hxb 0).trans kf⟩)
  have CC2 := hid (show ∀ w', Kept X (w1.alloc (.cells #[.int .i64 0] 2)).drew w' → w'.cell? ⟨g, 0, none⟩ = some (.int .i64 z.f) ∧ w'.cell? ⟨g, 1, none⟩ = some (.int .i64 z.t) ∧ w'.cell? ⟨g, 2, none⟩ = some (.int .i64 z.d) ∧ w'.cell? ⟨g, 3, none⟩ = some (.int .i64 z.s) ∧ w'.cell? ⟨w.heap.size, 0, none⟩ = some (.func (.func fid) #[] cb) from fun w' hk =>
    by
      have h := (((Kept.refl X w1).alloc (.cells #[.int .i64 0] 2)).drew).trans hk (fun _ _ e => e)
      exact CC.out w' ⟨h.os, h.tape, h.output, h.size, h.block⟩)
  have CB2 := hid (show ∀ w', Kept X (w1.alloc (.cells #[.int .i64 0] 2)).drew w' → Cells w' (w.heap.size + 1) #[.int .i64 0] 2 from fun w' hk => by
      have h1 := Cells.new w1 #[.int .i64 0] 2
      rw [sz1] at h1
      exact (h1.drew).kept hk (fun hx => HF.out.apart _ hx (HY.out _ (by omega))))
  clear hw1 k1 cb1 r1 i1 hnq hcell hz0
  have HZ0 := hid hz
  clear hz
  go_cut [5] (fun s5 wx => ∃ L, s5 = .pointer (some ⟨L, 0, none⟩) ∧ Cells wx L #[.int .i64 (F z)] 2 ∧ w.heap.size < L ∧ Cells wx w.heap.size #[.func (.func fid) #[] cb] 87 ∧ I wx ∧ Kept X w wx)
  case first =>
    go_region_held3 (fun wh => wh.cell? ⟨g, 0, none⟩ = some (.int .i64 z.f) ∧ wh.cell? ⟨g, 1, none⟩ = some (.int .i64 z.t) ∧ wh.cell? ⟨g, 2, none⟩ = some (.int .i64 z.d) ∧ wh.cell? ⟨g, 3, none⟩ = some (.int .i64 z.s) ∧ wh.cell? ⟨w.heap.size, 0, none⟩ = some (.func (.func fid) #[] cb))
      (first | exact ⟨c0, c1, c2, c3, kf⟩ | exact ⟨Lib.cell?_alloc_some _ c0, Lib.cell?_alloc_some _ c1, Lib.cell?_alloc_some _ c2, Lib.cell?_alloc_some _ c3, Lib.cell?_alloc_some _ kf⟩ | exact ⟨cell_set_other hgL c0, cell_set_other hgL c1, cell_set_other hgL c2, cell_set_other hgL c3, cell_set_other hbL kf⟩)
      (first | ((with_reducible refine CL.out.mono ?_); rintro e w5 ⟨rfl, hi5, hk5⟩; obtain ⟨c0, c1, c2, c3, kf⟩ := CC.out _ hk5) | ((with_reducible refine CL2.out.mono ?_); rintro e w5 ⟨rfl, hi5, hk5⟩; obtain ⟨c0, c1, c2, c3, kf⟩ := CC2.out _ hk5; have cL := CB2.out _ hk5; have lL := cL.lt; have fL := cL.frozen 0; have mL : w5.cell? ⟨w.heap.size + 1, 0, none⟩ = some (.int .i64 0) := (cL.cell 0).trans rfl; have CLL := hid cL; clear cL))
    · have fin := hid (show Kept X w (w5.alloc (.cells #[.int .i64 (F z)] 2)) from ((K1.out.drew).trans hk5 (fun _ _ e => e)).alloc _)
      have sz5 : w.heap.size < w5.heap.size := by have := hk5.size; have h : w1.drew.heap.size = w1.heap.size := rfl; omega
      have cx := hid ((CBX.out.drew.kept hk5 hxb).alloc (.cells #[.int .i64 (F z)] 2))
      have ix := hid (HF.out.stay _ _ hi5 ((Kept.refl Y w5).alloc (.cells #[.int .i64 (F z)] 2)))
      clear hi5 hk5
      go_wp2
      go_meet
      exact ⟨_, rfl, Cells.new w5 _ _, sz5, cx.out, ix.out, fin.out⟩
    · have ks : Kept (fun k => k = w.heap.size + 1) w5 (w5.setCell ⟨w.heap.size + 1, 0, none⟩ (.int .i64 (F z))) := (Kept.refl (fun k => k = w.heap.size + 1) w5).set (C := w.heap.size + 1) rfl _ _
      have kk := K1.out.trans (((Kept.refl X w1).alloc (.cells #[.int .i64 0] 2)).drew.trans hk5 (fun _ _ e => e)) (fun _ _ e => e)
      have fin := hid (show Kept X w (w5.setCell ⟨w.heap.size + 1, 0, none⟩ (.int .i64 (F z))) from kk.trans ks (fun k hk e => by omega))
      have cx := hid ((((CBX.out.alloc (.cells #[.int .i64 0] 2)).drew).kept hk5 hxb).kept ks (by omega))
      have ix := hid (HF.out.stay _ _ hi5 (ks.mono (fun k hk => by rw [hk]; exact HY.out _ (by omega))))
      have cl := hid (CLL.out.set 0 (.int .i64 (F z)))
      clear hi5 hk5 ks kk
      go_wp2
      go_meet
      exact ⟨_, rfl, cl.out, by omega, cx.out, ix.out, fin.out⟩
  case rest =>
    obtain ⟨L, rfl, hcl, hwL, hcb, hi, hk⟩ := hcut
    have KC := hid hk
    have S0 := hid (show KpS g w.heap.size L (.func (.func fid) #[] cb) Z F X I w 0 wc from ⟨by unfold minTo; simp only [List.take_zero, List.foldl_nil]; rw [← HZ0.out]; exact hcl, hcb, hi, hk⟩)
    clear hcl hcb hi hk CC CC2 CB2 CBX K1 I1 R1 CL CL2 c0 c1 c2 c3 kf
    go_upto_region 3 with fail
    go_loopg [15] n (fun k s15 wr => ∃ i : Nat, i + k = n ∧ s15 = .int .i64 i ∧ KpS g w.heap.size L (.func (.func fid) #[] cb) Z F X I w i wr)
    case atStart => exact ⟨0, by omega, rfl, S0.out⟩
    case round =>
      obtain ⟨i, hik, rfl, ss⟩ := hrel
      have HIK := hid hik
      have SS := hid ss
      clear hik ss S0
      by_cases hin : i < n
      · have hil : i < Z.length := by rw [← HN.out]; exact hin
        have rg : RowZ B wr (.slice (some ⟨g, 0, none⟩) n cap) Z := OwnE.kept H.out SS.out.kept (fun b hb hx => hxg (by injection hb with hb; have h : g = b := hb; subst h; exact hx))
        obtain ⟨hnq, lgr, _, hcell⟩ := OwnE.cellsAt encZn_len rg
        clear hnq
        obtain ⟨y, hy⟩ : ∃ y, y = Z[i] := ⟨_, rfl⟩
        have c0 := hcell i hil 0 (by omega)
        have c1 := hcell i hil 1 (by omega)
        have c2 := hcell i hil 2 (by omega)
        have c3 := hcell i hil 3 (by omega)
        simp [encZn] at c0 c1 c2 c3
        rw [← hy] at c0 c1 c2 c3
        have gi : (i : Int) < (n : Int) := by omega
        have gi0 : (0 : Int) ≤ (i : Int) := by omega
        obtain ⟨a, ha⟩ : ∃ a, a = minTo F (Z.take i) (F (Z.getD 0 ⟨0, 0, 0, 0⟩)) := ⟨_, rfl⟩
        have MN := hid (show minTo F (Z.take (i + 1)) (F (Z.getD 0 ⟨0, 0, 0, 0⟩)) = min a (F y) by rw [take_snoc hil, minTo_snoc, ← ha, ← hy])
        have cl := SS.out.least
        rw [← ha] at cl
        have hLr := cl.lt
        have hAr := SS.out.box.lt
        obtain ⟨wb, hwb⟩ : ∃ wb, wb = wr.alloc (.cells #[.int .i64 y.f, .int .i64 y.t, .int .i64 y.d, .int .i64 y.s] 85) := ⟨_, rfl⟩
        have kb : Kept X wr wb := by rw [hwb]; exact (Kept.refl _ _).alloc _
        have szb : wb.heap.size = wr.heap.size + 1 := by rw [hwb]; simp
        have ib : I wb := by rw [hwb]; exact HF.out.stay _ _ SS.out.inv ((Kept.refl _ _).alloc _)
        have cbz : Cells wb wr.heap.size #[.int .i64 y.f, .int .i64 y.t, .int .i64 y.d, .int .i64 y.s] 85 := by rw [hwb]; exact Cells.new wr _ _
        have clb : Cells wb L #[.int .i64 a] 2 := by rw [hwb]; exact cl.alloc _
        have cfb : Cells wb w.heap.size #[.func (.func fid) #[] cb] 87 := by rw [hwb]; exact SS.out.box.alloc _
        have hxL : ¬ X L := fun hx => HF.out.apart _ hx (HY.out _ (by omega))
        have hxB : ¬ X w.heap.size := fun hx => HF.out.apart _ hx (HY.out _ (by omega))
        have hsz := SS.out.kept.size
        have hxZ : ¬ X wr.heap.size := fun hx => HF.out.apart _ hx (HY.out _ hsz)
        have k0 : wb.cell? ⟨wr.heap.size, 0, none⟩ = some (.int .i64 y.f) := by rw [cbz.cell]; rfl
        have k1 : wb.cell? ⟨wr.heap.size, 1, none⟩ = some (.int .i64 y.t) := by rw [cbz.cell]; rfl
        have k2 : wb.cell? ⟨wr.heap.size, 2, none⟩ = some (.int .i64 y.d) := by rw [cbz.cell]; rfl
        have k3 : wb.cell? ⟨wr.heap.size, 3, none⟩ = some (.int .i64 y.s) := by rw [cbz.cell]; rfl
        have kL : wb.cell? ⟨L, 0, none⟩ = some (.int .i64 a) := by rw [clb.cell]; rfl
        have kF : wb.cell? ⟨w.heap.size, 0, none⟩ = some (.func (.func fid) #[] cb) := by rw [cfb.cell]; rfl
        have lZ := cbz.lt
        have lL := clb.lt
        have lF := cfb.lt
        have CL := hid (HF.out.call wb.drew y (HF.out.stay _ _ ib (Kept.refl _ _).drew) (by rw [hy]; exact HD.out _ (List.getElem_mem _)))
        have CC := hid (show ∀ w', Kept X wb.drew w' → (w'.cell? ⟨wr.heap.size, 0, none⟩ = some (.int .i64 y.f) ∧ w'.cell? ⟨wr.heap.size, 1, none⟩ = some (.int .i64 y.t) ∧ w'.cell? ⟨wr.heap.size, 2, none⟩ = some (.int .i64 y.d) ∧ w'.cell? ⟨wr.heap.size, 3, none⟩ = some (.int .i64 y.s) ∧ w'.cell? ⟨L, 0, none⟩ = some (.int .i64 a) ∧ w'.cell? ⟨w.heap.size, 0, none⟩ = some (.func (.func fid) #[] cb)) ∧ w'.frozen? ⟨L, 0, none⟩ = false ∧ L < w'.heap.size from fun w' hk =>
          ⟨⟨(kept_cell hk lZ hxZ 0).trans k0, (kept_cell hk lZ hxZ 1).trans k1, (kept_cell hk lZ hxZ 2).trans k2, (kept_cell hk lZ hxZ 3).trans k3, (kept_cell hk lL hxL 0).trans kL, (kept_cell hk lF hxB 0).trans kF⟩, (clb.drew.kept hk hxL).frozen 0, (clb.drew.kept hk hxL).lt⟩)
        have NX := hid (show ∀ w5, I w5 → Kept X wb.drew w5 → KpS g w.heap.size L (.func (.func fid) #[] cb) Z F X I w (i + 1) (w5.setCell ⟨L, 0, none⟩ (.int .i64 (min a (F y)))) from fun w5 hi5 hk5 => by
          have ks : Kept (fun k => k = L) w5 (w5.setCell ⟨L, 0, none⟩ (.int .i64 (min a (F y)))) := (Kept.refl (fun k => k = L) w5).set (C := L) rfl _ _
          refine ⟨?_, ((cfb.drew.kept hk5 hxB).kept ks (by omega)), HF.out.stay _ _ hi5 (ks.mono (fun k hk => by rw [hk]; exact HY.out _ (by omega))), ((SS.out.kept.trans (kb.drew.trans hk5 (fun _ _ e => e)) (fun _ _ e => e))).trans ks (fun k hk e => by omega)⟩
          rw [MN.out]
          exact (clb.drew.kept hk5 hxL).set 0 _)
        have HWB := hid hwb
        have hZL : wr.heap.size ≠ L := by omega
        have hFL : w.heap.size ≠ L := by omega
        clear hy ha hwb kb ib cbz clb cfb cl rg hcell
        go_upto_region 5 with fail
        rw [← HWB.out]
        go_region_with (first | ((with_reducible refine CL.out.mono ?_); rintro e w5 ⟨rfl, hi5, hk5⟩; obtain ⟨⟨k0, k1, k2, k3, kL, kF⟩, fL, lL⟩ := CC.out _ hk5))
        all_goals (
          have NS := hid (NX.out _ hi5 hk5)
          clear hi5 hk5
          go_wp2
          go_roundg (n - (i + 1))
          · exact ⟨i + 1, by omega, by go_num, NS.out⟩
          · have := HIK.out; omega)
      · have hin' : i = n := by have := HIK.out; omega
        subst hin'
        have g1 : decide ((i : Int) < (i : Int)) = false := by simp
        have hl2 : Z.take i = Z := by rw [HN.out]; exact List.take_length
        have r7 : RowZ B wr (.slice (some ⟨g, 0, none⟩) i cap) Z := OwnE.kept H.out SS.out.kept (fun b hb hx => hxg (by injection hb with hb; have h : g = b := hb; subst h; exact hx))
        have cl7 := SS.out.least
        rw [hl2] at cl7
        have hsz := SS.out.kept.size
        have CLN := hid (clone_calls r7 (by rw [← HN.out]; exact hn))
        have CL7 := hid cl7
        have lL7 := cl7.lt
        have lA7 := SS.out.box.lt
        clear r7 cl7 hl2 g1
        go_wp2_with fail
        refine CLN.out.mono ?_
        rintro e w3 ⟨v3, rfl, r3, hne3, hb3⟩
        obtain ⟨p3, cap3, rfl, hh3⟩ := r3.form
        rcases hh3 with ⟨rfl, h0⟩ | ⟨g3, rfl, hg3, hgl3⟩
        · exact absurd h0 hne
        have s3 := hb3.size
        have YS := hid (show ∀ k, (k = g3 ∨ w3.heap.size ≤ k) → Y k from fun k hk => HY.out k (by omega))
        have PF : FnC Value.bool 69 #[.pointer (some ⟨w.heap.size, 0, none⟩), .pointer (some ⟨L, 0, none⟩)] (fun z => decide (F z ≠ leastF F Z)) X (fun k => k = g3 ∨ w3.heap.size ≤ k) (fun w' => w3.heap.size ≤ w'.heap.size ∧ I w' ∧ Cells w' w.heap.size #[.func (.func fid) #[] cb] 87 ∧ Cells w' L #[.int .i64 (leastF F Z)] 2) dom := {
          eg := enters_of Try.func69 (by kernel_rfl) rfl
          call := fun w' z ⟨h1, h2, h3, h4⟩ hz => (keptc_calls HF.out h3 h4 h2 (HY.out _ (Nat.le_refl _)) (HY.out _ (by omega)) (HY.out _ (by omega)) z hz).mono (by
            rintro e w9 ⟨rfl, ⟨q1, q2, q3⟩, q4⟩
            exact ⟨rfl, ⟨Nat.le_trans h1 q4.size, q1, q2, q3⟩, q4⟩)
          stay := fun w' w9 ⟨h1, h2, h3, h4⟩ hk => ⟨Nat.le_trans h1 hk.size, HF.out.stay _ _ h2 (hk.mono YS.out), h3.kept hk (by omega), h4.kept hk (by omega)⟩
          apart := fun k hx hy => HF.out.apart k hx (YS.out k hy) }
        have DC := hid (del_calls (r3.mono hsz) (by rw [← HN.out]; exact hn) PF ⟨Nat.le_refl _, HF.out.stay _ _ SS.out.inv (Kept.of_below hb3), SS.out.box.below hb3 lA7, CL7.out.below hb3 lL7⟩ HD.out (.inl rfl) (fun k hk => .inr hk))
        have K3 := hid (SS.out.kept.trans (Kept.of_below (X := X) hb3) (fun _ _ e => e))
        clear PF r3 hne3 hb3 CLN
        go_wp2_with fail
        refine DC.out.mono ?_
        rintro e w5 ⟨v5, rfl, r5, ho5, ⟨_, i5, _, _⟩, hk5⟩
        have FIN := hid (show R (.returned v5) w5 by
          rw [HR.out]
          refine ⟨v5, rfl, ?_, i5, K3.out.trans hk5 (fun k hk hx => hx.resolve_right (by omega))⟩
          have e1 : Z.filter (fun z => !decide (F z ≠ leastF F Z)) = keptF F Z := by
            unfold keptF
            refine List.filter_congr fun z _ => ?_
            by_cases h : F z = leastF F Z <;> simp [h]
          rw [e1] at r5
          exact r5)
        clear r5 ho5 i5 hk5 DC
        go_wp2
        first | exact FIN.out | (go_ret; exact FIN.out)
end Go.Proofs.Ytjhelinbjlahiaa
namespace Go.Proofs.Ytjhelinbjlahiaa
set_option linter.unusedSimpArgs false
set_option linter.unusedVariables false
open Go.RowKit Go.Shelf
attribute [local go_sem] Oper.semAt_some
attribute [local go_sem ↓] Go.wp_at_zero Go.wp_at_succ
theorem Zn.ok.vol {z : Zn} (h : z.ok) : 0 ≤ z.vol ∧ z.vol ≤ 5000000000000 := by
  obtain ⟨h1, h2, h3, h4, h5, h6, h7⟩ := h
  unfold Zn.vol; omega
theorem Zn.ok.sur {z : Zn} (h : z.ok) : -5000000000000 ≤ z.sur ∧ z.sur ≤ 5000000000000 := by
  obtain ⟨h1, h2, h3, h4, h5, h6, h7⟩ := h
  unfold Zn.sur; omega
def F1 (z : Zn) : Int := -z.vol
def F2 (z : Zn) : Int := siz z.sur
def F3 (way ref : Int) (z : Zn) : Int := if way = 0 then siz (z.pk 0 ref - ref) else -way * z.t

theorem best1_calls (z : Zn) (hz : z.ok) (w : World) : Calls Try.prog 50 #[.agg #[.int .i64 z.f, .int .i64 z.t, .int .i64 z.d, .int .i64 z.s]] w fun e w' => e = .returned (.int .i64 (F1 z)) ∧ Below w.heap.size w w' := by
  have VC := hid (fun wx => volume_calls z wx)
  unfold Zn.val at VC
  unfold F1
  have hv := hz.vol
  obtain ⟨x, hx⟩ : ∃ x, x = z.vol := ⟨_, rfl⟩
  rw [← hx] at VC hv ⊢
  have e1 : IntKind.i64.wrap (-x) = -x := IntWalk.i64_in _ (by omega)
  have B0 := hid (show Below w.heap.size w (w.alloc (.cells #[.int .i64 z.f, .int .i64 z.t, .int .i64 z.d, .int .i64 z.s] 85)) from (Below.refl _ _).alloc (Nat.le_refl _) _)
  clear hx hz
  go_enter Try.func50, Try.ntmps50
  go_wp2_with fail
  refine (VC.out _).mono ?_
  rintro e w2 ⟨rfl, hb2⟩
  have B2 := hid (B0.out.trans (hb2.mono B0.out.size))
  clear hb2
  go_wp2
  go_ret
  exact ⟨rfl, B2.out⟩
theorem price1_calls (z : Zn) (hz : z.ok) (w : World) : Calls Try.prog 53 #[.agg #[.int .i64 z.f, .int .i64 z.t, .int .i64 z.d, .int .i64 z.s]] w fun e w' => e = .returned (.int .i64 (F1 z)) ∧ Below w.heap.size w w' := by
  have VC := hid (fun wx => volume_calls z wx)
  unfold Zn.val at VC
  unfold F1
  have hv := hz.vol
  obtain ⟨x, hx⟩ : ∃ x, x = z.vol := ⟨_, rfl⟩
  rw [← hx] at VC hv ⊢
  have e1 : IntKind.i64.wrap (-x) = -x := IntWalk.i64_in _ (by omega)
  have B0 := hid (show Below w.heap.size w (w.alloc (.cells #[.int .i64 z.f, .int .i64 z.t, .int .i64 z.d, .int .i64 z.s] 85)) from (Below.refl _ _).alloc (Nat.le_refl _) _)
  clear hx hz
  go_enter Try.func53, Try.ntmps53
  go_wp2_with fail
  refine (VC.out _).mono ?_
  rintro e w2 ⟨rfl, hb2⟩
  have B2 := hid (B0.out.trans (hb2.mono B0.out.size))
  clear hb2
  go_wp2
  go_ret
  exact ⟨rfl, B2.out⟩
theorem price2_calls (z : Zn) (hz : z.ok) (w : World) : Calls Try.prog 54 #[.agg #[.int .i64 z.f, .int .i64 z.t, .int .i64 z.d, .int .i64 z.s]] w fun e w' => e = .returned (.int .i64 (F2 z)) ∧ Below w.heap.size w w' := by
  have VC := hid (fun wx => surplus_calls z hz wx)
  unfold Zn.val at VC
  unfold F2
  have hv := hz.sur
  obtain ⟨x, hx⟩ : ∃ x, x = z.sur := ⟨_, rfl⟩
  rw [← hx] at VC hv ⊢
  have SC := hid (fun wx => sized_calls x (by omega) wx)
  have B0 := hid (show Below w.heap.size w (w.alloc (.cells #[.int .i64 z.f, .int .i64 z.t, .int .i64 z.d, .int .i64 z.s] 85)) from (Below.refl _ _).alloc (Nat.le_refl _) _)
  clear hx hz hv
  go_enter Try.func54, Try.ntmps54
  go_wp2_with fail
  refine (VC.out _).mono ?_
  rintro e w2 ⟨rfl, hb2⟩
  have B2 := hid (B0.out.trans (hb2.mono B0.out.size))
  clear hb2
  go_wp2_with fail
  refine (SC.out _).mono ?_
  rintro e w3 ⟨rfl, rfl⟩
  go_wp2
  go_ret
  exact ⟨rfl, B2.out⟩
theorem fnc_best : FnC (Value.int .i64) 50 #[] F1 (fun _ => False) (fun _ => True) (fun _ => True) Zn.ok := {
  eg := enters_of Try.func50 (by kernel_rfl) rfl
  call := fun w z _ hz => (best1_calls z hz w).mono (by rintro e w' ⟨rfl, hb⟩; exact ⟨rfl, trivial, Kept.of_below hb⟩)
  stay := fun _ _ _ _ => trivial
  apart := fun _ h _ => h }
theorem fnc_price1 (I : World → Prop) (Y : Nat → Prop) (hst : ∀ w w', I w → Kept Y w w' → I w') : FnC (Value.int .i64) 53 #[] F1 (fun _ => False) Y I Zn.ok := {
  eg := enters_of Try.func53 (by kernel_rfl) rfl
  call := fun w z hi hz => (price1_calls z hz w).mono (by rintro e w' ⟨rfl, hb⟩; exact ⟨rfl, hst _ _ hi (Kept.of_below hb), Kept.of_below hb⟩)
  stay := hst
  apart := fun _ h _ => h }
theorem fnc_price2 (I : World → Prop) (Y : Nat → Prop) (hst : ∀ w w', I w → Kept Y w w' → I w') : FnC (Value.int .i64) 54 #[] F2 (fun _ => False) Y I Zn.ok := {
  eg := enters_of Try.func54 (by kernel_rfl) rfl
  call := fun w z hi hz => (price2_calls z hz w).mono (by rintro e w' ⟨rfl, hb⟩; exact ⟨rfl, hst _ _ hi (Kept.of_below hb), Kept.of_below hb⟩)
  stay := hst
  apart := fun _ h _ => h }
end Go.Proofs.Ytjhelinbjlahiaa
