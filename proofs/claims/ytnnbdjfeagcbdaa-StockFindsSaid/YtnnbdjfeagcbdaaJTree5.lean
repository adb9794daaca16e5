/- appended: a tree with a piece after all others. -/
import Derived.Test.YtnnbdjfeagcbdaaJTree0
namespace Go.Proofs.Ytnnbdjfeagcbdaa
set_option linter.unusedSimpArgs false
set_option linter.unusedVariables false
open Go.RowKit
attribute [local go_sem ↓] Go.wp_at_zero Go.wp_at_succ
theorem tree_nil (w : World) : TreeAt w none .nil := rfl
theorem nil_ge : 0 ≤ T.nil.tall := Int.le_refl 0
theorem nil_le : T.nil.tall ≤ 1000000000 := by decide
theorem one_ok {pc : Pc} : (T.node .nil .nil pc (max T.nil.tall T.nil.tall + 1)).Ok := ⟨trivial, trivial, rfl⟩

set_option maxRecDepth 100000 in
set_option maxHeartbeats 4000000 in
theorem appended_n (pc : Pc) (p : Option Addr) (w : World) (hl : TreeAt w p T.nil) (okl : T.nil.Ok) (hb : T.nil.toList.length ≤ 90000000)  :
    Calls Try.prog 112 #[.pointer p, pc.val] w (GlueMade (appP T.nil.toList pc) w) := by
  obtain rfl : p = none := hl
  clear okl hb
  go_enter Try.func112, Try.ntmps112
  go_wp2_with (refine (node_calls .nil .nil none none pc _ (tree_nil _) (tree_nil _) nil_ge nil_le nil_ge nil_le).mono ?_; rintro e w1 ⟨b1, rfl, ht1, hw1, hs1⟩)
  go_ret
  exact ⟨_, _, rfl, ht1, ⟨trivial, trivial, rfl⟩, by simp [T.toList, appP], Below.trans (by repeat (first | exact Below.refl _ _ | assumption | refine Below.drew ?_ | refine below_drewN ?_ _ | refine Below.alloc ?_ (by first | (simp; done) | omega | (simp; omega)) _)) (hw1.mono (by simp))⟩

set_option maxRecDepth 100000 in
set_option maxHeartbeats 4000000 in
theorem appended_m (xl : T) (xp : Pc) (xh : Int) (pc : Pc) (p : Option Addr) (w : World) (hl : TreeAt w p (T.node xl .nil xp xh)) (okl : (T.node xl .nil xp xh).Ok) (hb : (T.node xl .nil xp xh).toList.length ≤ 90000000) (ht : 0 ≤ xp.to ∧ xp.to ≤ 1000000000) (hc : xp.cell = pc.cell) (ha : xp.to + 1 = pc.from_) :
    Calls Try.prog 112 #[.pointer p, pc.val] w (GlueMade (appP (T.node xl .nil xp xh).toList pc) w) := by
  obtain ⟨bx, pxl, pxr, rfl, hkx, hxl, hxr⟩ := hl
  obtain ⟨ltx, cx0, cx1, cx2, cx3, cx4, cx5, cx6, cx7, cx8⟩ := node_cells hkx
  have HXL := hid hxl
  have HXR := hid hxr
  obtain ⟨okxl, okxr, okx⟩ := okl
  have HOK := hid (And.intro okxl okxr)
  have ltx' : bx < w.heap.size + 1 := by omega
  have g0 := okxl.tall_ge
  have k0 := okxl.tall_le
  have HB := hid hb
  simp only [T.toList, List.length_append, List.length_cons] at hb
  obtain rfl : pxr = none := hxr
  have he : ∀ w, (Op.equalIn 10000 116 (.agg #[.int .i64 xp.cell.state, .int .i64 xp.cell.lot, .int .i64 xp.cell.owner, .int .i64 xp.cell.holder]) (.agg #[.int .i64 pc.cell.state, .int .i64 pc.cell.lot, .int .i64 pc.cell.owner, .int .i64 pc.cell.holder])).run Try.prog w = .ok true w := fun w => (run_eqCell xp.cell pc.cell w).trans (by simp [hc])
  have HC := hid hc
  have HA := hid ha
  have ha' : ((xp.to + 1 : Int) == pc.from_) = true := by simp [ha]
  clear ha
  have hbs : xl.toList.length + (T.node .nil .nil pc (max T.nil.tall T.nil.tall + 1)).toList.length ≤ 100000000 := by simp [T.toList]; omega
  clear hkx hxl okxl okxr okx hc
  go_enter Try.func112, Try.ntmps112
  go_wp2
  go_quiet (fail)
  go_wp2
  go_region_held3 (fun w' => w'.cell? ⟨bx, 0, none⟩ = some (Value.pointer pxl) ∧ w'.cell? ⟨bx, 1, none⟩ = some (Value.pointer none) ∧ w'.cell? ⟨bx, 2, none⟩ = some (Value.int .i64 xp.from_) ∧ w'.cell? ⟨bx, 3, none⟩ = some (Value.int .i64 xp.to) ∧ w'.cell? ⟨bx, 4, none⟩ = some (Value.int .i64 xp.cell.state) ∧ w'.cell? ⟨bx, 5, none⟩ = some (Value.int .i64 xp.cell.lot) ∧ w'.cell? ⟨bx, 6, none⟩ = some (Value.int .i64 xp.cell.owner) ∧ w'.cell? ⟨bx, 7, none⟩ = some (Value.int .i64 xp.cell.holder) ∧ w'.cell? ⟨bx, 8, none⟩ = some (Value.int .i64 xh) ∧ w'.cell? ⟨w.heap.size, 0, none⟩ = some (Value.int .i64 pc.from_) ∧ w'.cell? ⟨w.heap.size, 1, none⟩ = some (Value.int .i64 pc.to) ∧ w'.cell? ⟨w.heap.size, 2, none⟩ = some (Value.int .i64 pc.cell.state) ∧ w'.cell? ⟨w.heap.size, 3, none⟩ = some (Value.int .i64 pc.cell.lot) ∧ w'.cell? ⟨w.heap.size, 4, none⟩ = some (Value.int .i64 pc.cell.owner) ∧ w'.cell? ⟨w.heap.size, 5, none⟩ = some (Value.int .i64 pc.cell.holder)) (go_keep) (first | ((with_reducible refine (node_calls xl .nil pxl none ⟨xp.from_, pc.to, pc.cell⟩ _ (HXL.out.below (by repeat (first | exact Below.refl _ _ | assumption | refine Below.drew ?_ | refine below_drewN ?_ _ | refine Below.alloc ?_ (by first | (simp; done) | omega | (simp; omega)) _))) (tree_nil _) g0 (by omega) nil_ge nil_le).mono ?_); rintro e w1 ⟨b1, rfl, ht1, hw1, hs1⟩; obtain ⟨hc1, hf1⟩ := bcell hw1; have lx1 : bx < w1.heap.size := (by have := hw1.size; (try simp at this); omega); have lo1 : w.heap.size < w1.heap.size := (by have := hw1.size; (try simp at this); omega)))
  go_wp2
  go_ret
  exact ⟨_, _, rfl, ht1, ⟨HOK.out.1, trivial, rfl⟩, by simp only [T.toList]; rw [appP_append _ _ _ (by simp), appP_one, if_pos ⟨HC.out, HA.out⟩, HC.out], Below.trans (by repeat (first | exact Below.refl _ _ | assumption | refine Below.drew ?_ | refine below_drewN ?_ _ | refine Below.alloc ?_ (by first | (simp; done) | omega | (simp; omega)) _)) (hw1.mono (by simp))⟩

set_option maxRecDepth 100000 in
set_option maxHeartbeats 4000000 in
theorem appended_s1 (xl : T) (xp : Pc) (xh : Int) (pc : Pc) (p : Option Addr) (w : World) (hl : TreeAt w p (T.node xl .nil xp xh)) (okl : (T.node xl .nil xp xh).Ok) (hb : (T.node xl .nil xp xh).toList.length ≤ 90000000) (ht : 0 ≤ xp.to ∧ xp.to ≤ 1000000000) (hc : xp.cell ≠ pc.cell) :
    Calls Try.prog 112 #[.pointer p, pc.val] w (GlueMade (appP (T.node xl .nil xp xh).toList pc) w) := by
  obtain ⟨bx, pxl, pxr, rfl, hkx, hxl, hxr⟩ := hl
  obtain ⟨ltx, cx0, cx1, cx2, cx3, cx4, cx5, cx6, cx7, cx8⟩ := node_cells hkx
  have HXL := hid hxl
  have HXR := hid hxr
  obtain ⟨okxl, okxr, okx⟩ := okl
  have HOK := hid (And.intro okxl okxr)
  have ltx' : bx < w.heap.size + 1 := by omega
  have g0 := okxl.tall_ge
  have k0 := okxl.tall_le
  have HB := hid hb
  simp only [T.toList, List.length_append, List.length_cons] at hb
  obtain rfl : pxr = none := hxr
  have he : ∀ w, (Op.equalIn 10000 116 (.agg #[.int .i64 xp.cell.state, .int .i64 xp.cell.lot, .int .i64 xp.cell.owner, .int .i64 xp.cell.holder]) (.agg #[.int .i64 pc.cell.state, .int .i64 pc.cell.lot, .int .i64 pc.cell.owner, .int .i64 pc.cell.holder])).run Try.prog w = .ok false w := fun w => (run_eqCell xp.cell pc.cell w).trans (by simp [hc])
  have HC := hid hc
  have hbs : xl.toList.length + (T.node .nil .nil pc (max T.nil.tall T.nil.tall + 1)).toList.length ≤ 100000000 := by simp [T.toList]; omega
  clear hkx hxl okxl okxr okx hc
  go_enter Try.func112, Try.ntmps112
  go_wp2
  go_quiet (fail)
  go_wp2
  go_region_held3 (fun w' => w'.cell? ⟨bx, 0, none⟩ = some (Value.pointer pxl) ∧ w'.cell? ⟨bx, 1, none⟩ = some (Value.pointer none) ∧ w'.cell? ⟨bx, 2, none⟩ = some (Value.int .i64 xp.from_) ∧ w'.cell? ⟨bx, 3, none⟩ = some (Value.int .i64 xp.to) ∧ w'.cell? ⟨bx, 4, none⟩ = some (Value.int .i64 xp.cell.state) ∧ w'.cell? ⟨bx, 5, none⟩ = some (Value.int .i64 xp.cell.lot) ∧ w'.cell? ⟨bx, 6, none⟩ = some (Value.int .i64 xp.cell.owner) ∧ w'.cell? ⟨bx, 7, none⟩ = some (Value.int .i64 xp.cell.holder) ∧ w'.cell? ⟨bx, 8, none⟩ = some (Value.int .i64 xh) ∧ w'.cell? ⟨w.heap.size, 0, none⟩ = some (Value.int .i64 pc.from_) ∧ w'.cell? ⟨w.heap.size, 1, none⟩ = some (Value.int .i64 pc.to) ∧ w'.cell? ⟨w.heap.size, 2, none⟩ = some (Value.int .i64 pc.cell.state) ∧ w'.cell? ⟨w.heap.size, 3, none⟩ = some (Value.int .i64 pc.cell.lot) ∧ w'.cell? ⟨w.heap.size, 4, none⟩ = some (Value.int .i64 pc.cell.owner) ∧ w'.cell? ⟨w.heap.size, 5, none⟩ = some (Value.int .i64 pc.cell.holder)) (go_keep) (first | ((with_reducible refine (node_calls .nil .nil none none pc _ (tree_nil _) (tree_nil _) nil_ge nil_le nil_ge nil_le).mono ?_); rintro e w1 ⟨b1, rfl, ht1, hw1, hs1⟩; obtain ⟨hc1, hf1⟩ := bcell hw1; have lx1 : bx < w1.heap.size := (by have := hw1.size; (try simp at this); omega); have lo1 : w.heap.size < w1.heap.size := (by have := hw1.size; (try simp at this); omega); have up1 : Below w.heap.size w w1 := Below.trans (by repeat (first | exact Below.refl _ _ | assumption | refine Below.drew ?_ | refine below_drewN ?_ _ | refine Below.alloc ?_ (by first | (simp; done) | omega | (simp; omega)) _)) (hw1.mono (by simp))) | ((with_reducible refine (linked_calls xl (T.node .nil .nil pc _) xp pxl (some ⟨b1, 0, none⟩) _ (HXL.out.below (by repeat (first | exact Below.refl _ _ | assumption | refine Below.drew ?_ | refine below_drewN ?_ _ | refine Below.alloc ?_ (by first | (simp; done) | omega | (simp; omega)) _))) ht1 HOK.out.1 one_ok hbs).mono ?_); rintro e w2 ⟨q2, t2, rfl, ht2, ok2, el2, hw2⟩; have HE2 := hid el2; have HO2 := hid ok2; clear el2 ok2; obtain ⟨hc2, hf2⟩ := bcell hw2))
  go_wp2
  go_ret
  exact ⟨_, _, rfl, ht2, HO2.out, by rw [HE2.out]; simp only [T.toList]; rw [appP_append _ _ _ (by simp), appP_one, if_neg (fun h => HC.out h.1)]; simp, up1.trans (hw2.mono up1.size)⟩

set_option maxRecDepth 100000 in
set_option maxHeartbeats 4000000 in
theorem appended_s2 (xl : T) (xp : Pc) (xh : Int) (pc : Pc) (p : Option Addr) (w : World) (hl : TreeAt w p (T.node xl .nil xp xh)) (okl : (T.node xl .nil xp xh).Ok) (hb : (T.node xl .nil xp xh).toList.length ≤ 90000000) (ht : 0 ≤ xp.to ∧ xp.to ≤ 1000000000) (hc : xp.cell = pc.cell) (ha : xp.to + 1 ≠ pc.from_) :
    Calls Try.prog 112 #[.pointer p, pc.val] w (GlueMade (appP (T.node xl .nil xp xh).toList pc) w) := by
  obtain ⟨bx, pxl, pxr, rfl, hkx, hxl, hxr⟩ := hl
  obtain ⟨ltx, cx0, cx1, cx2, cx3, cx4, cx5, cx6, cx7, cx8⟩ := node_cells hkx
  have HXL := hid hxl
  have HXR := hid hxr
  obtain ⟨okxl, okxr, okx⟩ := okl
  have HOK := hid (And.intro okxl okxr)
  have ltx' : bx < w.heap.size + 1 := by omega
  have g0 := okxl.tall_ge
  have k0 := okxl.tall_le
  have HB := hid hb
  simp only [T.toList, List.length_append, List.length_cons] at hb
  obtain rfl : pxr = none := hxr
  have he : ∀ w, (Op.equalIn 10000 116 (.agg #[.int .i64 xp.cell.state, .int .i64 xp.cell.lot, .int .i64 xp.cell.owner, .int .i64 xp.cell.holder]) (.agg #[.int .i64 pc.cell.state, .int .i64 pc.cell.lot, .int .i64 pc.cell.owner, .int .i64 pc.cell.holder])).run Try.prog w = .ok true w := fun w => (run_eqCell xp.cell pc.cell w).trans (by simp [hc])
  have HC := hid hc
  have HA := hid ha
  have ha' : ((xp.to + 1 : Int) == pc.from_) = false := by simp [ha]
  clear ha
  have hbs : xl.toList.length + (T.node .nil .nil pc (max T.nil.tall T.nil.tall + 1)).toList.length ≤ 100000000 := by simp [T.toList]; omega
  clear hkx hxl okxl okxr okx hc
  go_enter Try.func112, Try.ntmps112
  go_wp2
  go_quiet (fail)
  go_wp2
  go_region_held3 (fun w' => w'.cell? ⟨bx, 0, none⟩ = some (Value.pointer pxl) ∧ w'.cell? ⟨bx, 1, none⟩ = some (Value.pointer none) ∧ w'.cell? ⟨bx, 2, none⟩ = some (Value.int .i64 xp.from_) ∧ w'.cell? ⟨bx, 3, none⟩ = some (Value.int .i64 xp.to) ∧ w'.cell? ⟨bx, 4, none⟩ = some (Value.int .i64 xp.cell.state) ∧ w'.cell? ⟨bx, 5, none⟩ = some (Value.int .i64 xp.cell.lot) ∧ w'.cell? ⟨bx, 6, none⟩ = some (Value.int .i64 xp.cell.owner) ∧ w'.cell? ⟨bx, 7, none⟩ = some (Value.int .i64 xp.cell.holder) ∧ w'.cell? ⟨bx, 8, none⟩ = some (Value.int .i64 xh) ∧ w'.cell? ⟨w.heap.size, 0, none⟩ = some (Value.int .i64 pc.from_) ∧ w'.cell? ⟨w.heap.size, 1, none⟩ = some (Value.int .i64 pc.to) ∧ w'.cell? ⟨w.heap.size, 2, none⟩ = some (Value.int .i64 pc.cell.state) ∧ w'.cell? ⟨w.heap.size, 3, none⟩ = some (Value.int .i64 pc.cell.lot) ∧ w'.cell? ⟨w.heap.size, 4, none⟩ = some (Value.int .i64 pc.cell.owner) ∧ w'.cell? ⟨w.heap.size, 5, none⟩ = some (Value.int .i64 pc.cell.holder)) (go_keep) (first | ((with_reducible refine (node_calls .nil .nil none none pc _ (tree_nil _) (tree_nil _) nil_ge nil_le nil_ge nil_le).mono ?_); rintro e w1 ⟨b1, rfl, ht1, hw1, hs1⟩; obtain ⟨hc1, hf1⟩ := bcell hw1; have lx1 : bx < w1.heap.size := (by have := hw1.size; (try simp at this); omega); have lo1 : w.heap.size < w1.heap.size := (by have := hw1.size; (try simp at this); omega); have up1 : Below w.heap.size w w1 := Below.trans (by repeat (first | exact Below.refl _ _ | assumption | refine Below.drew ?_ | refine below_drewN ?_ _ | refine Below.alloc ?_ (by first | (simp; done) | omega | (simp; omega)) _)) (hw1.mono (by simp))) | ((with_reducible refine (linked_calls xl (T.node .nil .nil pc _) xp pxl (some ⟨b1, 0, none⟩) _ (HXL.out.below (by repeat (first | exact Below.refl _ _ | assumption | refine Below.drew ?_ | refine below_drewN ?_ _ | refine Below.alloc ?_ (by first | (simp; done) | omega | (simp; omega)) _))) ht1 HOK.out.1 one_ok hbs).mono ?_); rintro e w2 ⟨q2, t2, rfl, ht2, ok2, el2, hw2⟩; have HE2 := hid el2; have HO2 := hid ok2; clear el2 ok2; obtain ⟨hc2, hf2⟩ := bcell hw2))
  go_wp2
  go_ret
  exact ⟨_, _, rfl, ht2, HO2.out, by rw [HE2.out]; simp only [T.toList]; rw [appP_append _ _ _ (by simp), appP_one, if_neg (fun h => HA.out h.2)]; simp, up1.trans (hw2.mono up1.size)⟩

set_option maxRecDepth 100000 in
set_option maxHeartbeats 4000000 in
theorem appended_h (xl yl yr : T) (xp yp : Pc) (xh yh : Int) (pc : Pc) (p : Option Addr) (w : World) (hl : TreeAt w p (T.node xl (T.node yl yr yp yh) xp xh)) (okl : (T.node xl (T.node yl yr yp yh) xp xh).Ok) (hb : (T.node xl (T.node yl yr yp yh) xp xh).toList.length ≤ 90000000) (ih : ∀ (p : Option Addr) (w : World), TreeAt w p (T.node yl yr yp yh) → Calls Try.prog 112 #[.pointer p, pc.val] w (GlueMade (appP (T.node yl yr yp yh).toList pc) w)) :
    Calls Try.prog 112 #[.pointer p, pc.val] w (GlueMade (appP (T.node xl (T.node yl yr yp yh) xp xh).toList pc) w) := by
  obtain ⟨bx, pxl, pxr, rfl, hkx, hxl, hxr⟩ := hl
  obtain ⟨ltx, cx0, cx1, cx2, cx3, cx4, cx5, cx6, cx7, cx8⟩ := node_cells hkx
  have HXL := hid hxl
  have HXR := hid hxr
  obtain ⟨okxl, okxr, okx⟩ := okl
  have HOK := hid (And.intro okxl okxr)
  have ltx' : bx < w.heap.size + 1 := by omega
  have g0 := okxl.tall_ge
  have k0 := okxl.tall_le
  have HB := hid hb
  simp only [T.toList, List.length_append, List.length_cons] at hb
  obtain ⟨bY, pYl, pYr, hpy, hky, _, _⟩ := hxr
  subst hpy
  have HI := hid ih
  clear ih hkx hky hxl okxl okxr okx
  go_enter Try.func112, Try.ntmps112
  go_wp2
  go_region_held3 (fun w' => w'.cell? ⟨bx, 0, none⟩ = some (Value.pointer pxl) ∧ w'.cell? ⟨bx, 1, none⟩ = some (Value.pointer (some ⟨bY, 0, none⟩)) ∧ w'.cell? ⟨bx, 2, none⟩ = some (Value.int .i64 xp.from_) ∧ w'.cell? ⟨bx, 3, none⟩ = some (Value.int .i64 xp.to) ∧ w'.cell? ⟨bx, 4, none⟩ = some (Value.int .i64 xp.cell.state) ∧ w'.cell? ⟨bx, 5, none⟩ = some (Value.int .i64 xp.cell.lot) ∧ w'.cell? ⟨bx, 6, none⟩ = some (Value.int .i64 xp.cell.owner) ∧ w'.cell? ⟨bx, 7, none⟩ = some (Value.int .i64 xp.cell.holder) ∧ w'.cell? ⟨bx, 8, none⟩ = some (Value.int .i64 xh) ∧ w'.cell? ⟨w.heap.size, 0, none⟩ = some (Value.int .i64 pc.from_) ∧ w'.cell? ⟨w.heap.size, 1, none⟩ = some (Value.int .i64 pc.to) ∧ w'.cell? ⟨w.heap.size, 2, none⟩ = some (Value.int .i64 pc.cell.state) ∧ w'.cell? ⟨w.heap.size, 3, none⟩ = some (Value.int .i64 pc.cell.lot) ∧ w'.cell? ⟨w.heap.size, 4, none⟩ = some (Value.int .i64 pc.cell.owner) ∧ w'.cell? ⟨w.heap.size, 5, none⟩ = some (Value.int .i64 pc.cell.holder)) (go_keep) (first | ((with_reducible refine (HI.out _ _ (HXR.out.below (by repeat (first | exact Below.refl _ _ | assumption | refine Below.drew ?_ | refine below_drewN ?_ _ | refine Below.alloc ?_ (by first | (simp; done) | omega | (simp; omega)) _)))).mono ?_); rintro e w1 ⟨q1, t1, rfl, ht1, ok1, el1, hw1⟩; have hb1 : xl.toList.length + t1.toList.length ≤ 100000000 := (by rw [el1]; have := appP_length (T.node yl yr yp yh).toList pc; simp only [T.toList, List.length_append, List.length_cons] at this hb ⊢; omega); have HE1 := hid el1; have HO1 := hid ok1; clear el1 ok1; obtain ⟨hc1, hf1⟩ := bcell hw1; have lx1 : bx < w1.heap.size := (by have := hw1.size; (try simp at this); omega); have lo1 : w.heap.size < w1.heap.size := (by have := hw1.size; (try simp at this); omega); have up1 : Below w.heap.size w w1 := Below.trans (by repeat (first | exact Below.refl _ _ | assumption | refine Below.drew ?_ | refine below_drewN ?_ _ | refine Below.alloc ?_ (by first | (simp; done) | omega | (simp; omega)) _)) (hw1.mono (by simp))) | ((with_reducible refine (linked_calls xl t1 xp pxl q1 _ (HXL.out.below (by repeat (first | exact Below.refl _ _ | assumption | refine Below.drew ?_ | refine below_drewN ?_ _ | refine Below.alloc ?_ (by first | (simp; done) | omega | (simp; omega)) _))) ht1 HOK.out.1 HO1.out hb1).mono ?_); rintro e w2 ⟨q2, t2, rfl, ht2, ok2, el2, hw2⟩; have HE2 := hid el2; have HO2 := hid ok2; clear el2 ok2; obtain ⟨hc2, hf2⟩ := bcell hw2))
  go_wp2
  go_ret
  exact ⟨_, _, rfl, ht2, HO2.out, by rw [HE2.out, HE1.out]; simp only [T.toList]; rw [appP_append xl.toList (xp :: (yl.toList ++ yp :: yr.toList)) pc (by simp), appP_cons xp _ _ (by simp)], up1.trans (hw2.mono up1.size)⟩

/-- **appended**. -/
theorem appended_calls : ∀ (t : T) (pc : Pc) (p : Option Addr) (w : World), TreeAt w p t → t.Ok → t.toList.length ≤ 90000000 → (∀ q ∈ t.toList, 0 ≤ q.to ∧ q.to ≤ 1000000000) →
    Calls Try.prog 112 #[.pointer p, pc.val] w (GlueMade (appP t.toList pc) w)
  | .nil, pc, p, w, hl, ok, hb, _ => appended_n pc p w hl ok hb
  | .node xl .nil xp xh, pc, p, w, hl, ok, hb, hq => by
    have hx := hq xp (by simp [T.toList])
    by_cases hc : xp.cell = pc.cell
    · by_cases ha : xp.to + 1 = pc.from_
      · exact appended_m xl xp xh pc p w hl ok hb hx hc ha
      · exact appended_s2 xl xp xh pc p w hl ok hb hx hc ha
    · exact appended_s1 xl xp xh pc p w hl ok hb hx hc
  | .node xl (.node yl yr yp yh) xp xh, pc, p, w, hl, ok, hb, hq => appended_h xl yl yr xp yp xh yh pc p w hl ok hb
      (fun p' w' h' => appended_calls (.node yl yr yp yh) pc p' w' h' ok.2.1 (by simp only [T.toList, List.length_append, List.length_cons] at hb ⊢; omega) (fun q hq' => hq q (by simp only [T.toList, List.mem_append, List.mem_cons] at hq' ⊢; rcases hq' with h | h | h <;> simp [h])))
end Go.Proofs.Ytnnbdjfeagcbdaa
