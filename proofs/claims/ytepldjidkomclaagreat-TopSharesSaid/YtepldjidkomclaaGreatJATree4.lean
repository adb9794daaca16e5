/- first: the first piece, and the tree without it; glued. Pieces as lists; equality of cells, run. appended: a tree with a piece after all others. joined: two trees, one after the other; split: the pockets below a number, and those from it on. -/
import Derived.Test.YtepldjidkomclaaGreatJATree0
namespace Go.Proofs.YtepldjidkomclaaGreat.St
set_option linter.unusedSimpArgs false
set_option linter.unusedVariables false
open Go.RowKit
attribute [local go_sem ↓] Go.wp_at_zero Go.wp_at_succ
def FirstMade (t : T) (w : World) (e : Ending) (w' : World) : Prop :=
  ∃ (p : Pc) (q : Option Addr) (r : T), e = .returned (.tuple #[p.val, .pointer q]) ∧ TreeAt w' q r ∧ r.Ok ∧ t.toList = p :: r.toList ∧ Below w.heap.size w w'
def GlueMade (xs : List Pc) (w : World) (e : Ending) (w' : World) : Prop :=
  ∃ (q : Option Addr) (r : T), e = .returned (.pointer q) ∧ TreeAt w' q r ∧ r.Ok ∧ r.toList = xs ∧ Below w.heap.size w w'
set_option maxRecDepth 100000 in
set_option maxHeartbeats 2000000 in
theorem first_a (xr : T) (xp : Pc) (xh : Int) (p : Option Addr) (w : World) (hl : TreeAt w p (T.node .nil xr xp xh)) (okl : (T.node .nil xr xp xh).Ok) :
    Calls Tryz.prog 116 #[.pointer p] w (FirstMade (T.node .nil xr xp xh) w) := by
  obtain ⟨bx, pxl, pxr, rfl, hkx, hxl, hxr⟩ := hl
  obtain ⟨ltx, cx0, cx1, cx2, cx3, cx4, cx5, cx6, cx7, cx8⟩ := node_cells hkx
  have HXL := hid hxl
  have HXR := hid hxr
  obtain ⟨okxl, okxr, okx⟩ := okl
  have HOK := hid (And.intro okxl okxr)
  have ltx' : bx < w.heap.size + 1 := by omega
  obtain rfl : pxl = none := hxl
  clear hkx hxr okxl okxr okx
  go_enter Tryz.func116, Tryz.ntmps116
  go_wp2
  go_region_held3 (fun w' => w'.cell? ⟨bx, 0, none⟩ = some (Value.pointer none) ∧ w'.cell? ⟨bx, 1, none⟩ = some (Value.pointer pxr) ∧ w'.cell? ⟨bx, 2, none⟩ = some (Value.int .i64 xp.from_) ∧ w'.cell? ⟨bx, 3, none⟩ = some (Value.int .i64 xp.to) ∧ w'.cell? ⟨bx, 4, none⟩ = some (Value.int .i64 xp.cell.state) ∧ w'.cell? ⟨bx, 5, none⟩ = some (Value.int .i64 xp.cell.lot) ∧ w'.cell? ⟨bx, 6, none⟩ = some (Value.int .i64 xp.cell.owner) ∧ w'.cell? ⟨bx, 7, none⟩ = some (Value.int .i64 xp.cell.holder) ∧ w'.cell? ⟨bx, 8, none⟩ = some (Value.int .i64 xh)) (go_keep) (first | fail)
  go_wp2
  exact bodyPost_ret (v := .tuple #[xp.val, .pointer pxr]) (by simp [results, Tryz.results116, go_sem]) rfl ⟨xp, pxr, xr, rfl, HXR.out.below (by repeat (first | exact Below.refl _ _ | assumption | refine Below.drew ?_ | refine below_drewN ?_ _ | refine Below.alloc ?_ (by first | (simp; done) | omega | (simp; omega)) _)), HOK.out.2, rfl, (by repeat (first | exact Below.refl _ _ | assumption | refine Below.drew ?_ | refine below_drewN ?_ _ | refine Below.alloc ?_ (by first | (simp; done) | omega | (simp; omega)) _))⟩
set_option maxRecDepth 100000 in
set_option maxHeartbeats 4000000 in
theorem first_b (yl yr xr : T) (yp xp : Pc) (yh xh : Int) (p : Option Addr) (w : World) (hl : TreeAt w p (T.node (T.node yl yr yp yh) xr xp xh)) (okl : (T.node (T.node yl yr yp yh) xr xp xh).Ok)
    (hb : (T.node (T.node yl yr yp yh) xr xp xh).toList.length ≤ 100000000)
    (ih : ∀ (p : Option Addr) (w : World), TreeAt w p (T.node yl yr yp yh) → Calls Tryz.prog 116 #[.pointer p] w (FirstMade (T.node yl yr yp yh) w)) :
    Calls Tryz.prog 116 #[.pointer p] w (FirstMade (T.node (T.node yl yr yp yh) xr xp xh) w) := by
  obtain ⟨bx, pxl, pxr, rfl, hkx, hxl, hxr⟩ := hl
  obtain ⟨ltx, cx0, cx1, cx2, cx3, cx4, cx5, cx6, cx7, cx8⟩ := node_cells hkx
  have HXL := hid hxl
  have HXR := hid hxr
  obtain ⟨okxl, okxr, okx⟩ := okl
  have HOK := hid (And.intro okxl okxr)
  have ltx' : bx < w.heap.size + 1 := by omega
  have HI := hid ih
  obtain ⟨bY, pYl, pYr, hpy, hky, _, _⟩ := hxl
  subst hpy
  have HB := hid hb
  clear ih hkx hky hxr okxl okxr okx
  go_enter Tryz.func116, Tryz.ntmps116
  go_wp2_with fail
  refine (HI.out _ _ (HXL.out.below (by repeat (first | exact Below.refl _ _ | assumption | refine Below.drew ?_ | refine below_drewN ?_ _ | refine Below.alloc ?_ (by first | (simp; done) | omega | (simp; omega)) _)))).mono ?_
  rintro e w1 ⟨p1, q1, r1, rfl, ht1, ok1, el1, hw1⟩
  have up1 : Below w.heap.size w w1 := Below.trans (by repeat (first | exact Below.refl _ _ | assumption | refine Below.drew ?_ | refine below_drewN ?_ _ | refine Below.alloc ?_ (by first | (simp; done) | omega | (simp; omega)) _)) (hw1.mono (by simp))
  obtain ⟨hc1, hf1⟩ := bcell hw1
  have lx1 : bx < w1.heap.size := by have := up1.size; omega
  have lo1 : w.heap.size < w1.heap.size := by have := hw1.size; simp at this; omega
  have bd1 : r1.toList.length + xr.toList.length ≤ 100000000 := by
    have := congrArg List.length el1
    simp only [T.toList, List.length_append, List.length_cons] at this hb; omega
  have HO1 := hid ok1
  have HE1 := hid el1
  have HT1 := hid ht1
  clear ok1 el1 ht1
  have UP1 := hid up1
  have nx : bx ≠ w.heap.size := by omega
  have n1 : w1.heap.size ≠ w.heap.size := by omega
  have lx1' : bx < w1.heap.size + 1 := by omega
  have lo1' : w.heap.size < w1.heap.size + 1 := by omega
  go_wp2_with fail
  go_region_held3 (fun w' => w'.cell? ⟨bx, 0, none⟩ = some (Value.pointer (some ⟨bY, 0, none⟩)) ∧ w'.cell? ⟨bx, 1, none⟩ = some (Value.pointer pxr) ∧ w'.cell? ⟨bx, 2, none⟩ = some (Value.int .i64 xp.from_) ∧ w'.cell? ⟨bx, 3, none⟩ = some (Value.int .i64 xp.to) ∧ w'.cell? ⟨bx, 4, none⟩ = some (Value.int .i64 xp.cell.state) ∧ w'.cell? ⟨bx, 5, none⟩ = some (Value.int .i64 xp.cell.lot) ∧ w'.cell? ⟨bx, 6, none⟩ = some (Value.int .i64 xp.cell.owner) ∧ w'.cell? ⟨bx, 7, none⟩ = some (Value.int .i64 xp.cell.holder) ∧ w'.cell? ⟨bx, 8, none⟩ = some (Value.int .i64 xh) ∧ w'.cell? ⟨w1.heap.size, 0, none⟩ = some (Value.int .i64 p1.from_) ∧ w'.cell? ⟨w1.heap.size, 1, none⟩ = some (Value.int .i64 p1.to) ∧ w'.cell? ⟨w1.heap.size, 2, none⟩ = some (Value.int .i64 p1.cell.state) ∧ w'.cell? ⟨w1.heap.size, 3, none⟩ = some (Value.int .i64 p1.cell.lot) ∧ w'.cell? ⟨w1.heap.size, 4, none⟩ = some (Value.int .i64 p1.cell.owner) ∧ w'.cell? ⟨w1.heap.size, 5, none⟩ = some (Value.int .i64 p1.cell.holder)) (first | go_keep | (simp only [setCell_far _ _ _ _ _ _ nx, setCell_far _ _ _ _ _ _ n1]; go_keep))
    (first | ((with_reducible refine (linked_calls r1 xr xp q1 pxr _ (HT1.out.below (by repeat (first | exact Below.refl _ _ | assumption | refine Below.drew ?_ | refine below_drewN ?_ _ | refine Below.alloc ?_ (by first | (simp; done) | omega | (simp; omega)) _))) (HXR.out.below (Below.trans up1 (Below.mono (by repeat (first | exact Below.refl _ _ | assumption | refine Below.drew ?_ | refine below_drewN ?_ _ | refine Below.alloc ?_ (by first | (simp; done) | omega | (simp; omega)) _)) up1.size))) HO1.out HOK.out.2 bd1).mono ?_); rintro e w2 ⟨q2, t2, rfl, ht2, ok2, el2, hw2⟩; have HE2 := hid el2; have HO2 := hid ok2; clear el2 ok2; obtain ⟨hc2, hf2⟩ := bcell hw2))
  go_wp2
  have hB2 : Cells w2 w.heap.size #[.int .i64 0, .int .i64 0, .int .i64 0, .int .i64 0, .int .i64 0, .int .i64 0] 97 := by
    have h0 := Cells.new w #[.int .i64 0, .int .i64 0, .int .i64 0, .int .i64 0, .int .i64 0, .int .i64 0] 97
    exact ((h0.below hw1 (by simp)).alloc _).drew.below hw2 (by simp; omega)
  have hB3 := put6_cells hB2 p1
  obtain ⟨k0, k1, k2, k3, k4, k5⟩ := pc_facts hB3
  have up2 : Below w.heap.size w w2 := up1.trans (Below.trans (by repeat (first | exact Below.refl _ _ | assumption | refine Below.drew ?_ | refine below_drewN ?_ _ | refine Below.alloc ?_ (by first | (simp; done) | omega | (simp; omega)) _)) (hw2.mono (by simp; have := up1.size; omega)))
  refine bodyPost_ret (v := .tuple #[p1.val, .pointer q2]) (by simp [results, Tryz.results116, go_sem, k0, k1, k2, k3, k4, k5]) rfl ⟨p1, q2, t2, rfl, put6_tree hB2 p1 ht2, HO2.out, ?_, put6_below p1 up2 (Nat.le_refl _)⟩
  rw [HE2.out]
  have := HE1.out
  simp only [T.toList] at this ⊢
  rw [this]
  rfl
theorem first_calls : ∀ (t : T) (p : Option Addr) (w : World), t ≠ .nil → TreeAt w p t → t.Ok → t.toList.length ≤ 100000000 → Calls Tryz.prog 116 #[.pointer p] w (FirstMade t w)
  | .nil, _, _, h, _, _, _ => absurd rfl h
  | .node .nil xr xp xh, p, w, _, hl, ok, _ => first_a xr xp xh p w hl ok
  | .node (.node yl yr yp yh) xr xp xh, p, w, _, hl, ok, hb => first_b yl yr xr yp xp yh xh p w hl ok hb
      (fun p' w' h' => first_calls (.node yl yr yp yh) p' w' (by simp) h' ok.1 (by simp only [T.toList, List.length_append, List.length_cons] at hb ⊢; omega))
set_option maxRecDepth 100000 in
set_option maxHeartbeats 2000000 in
theorem glued_calls (l r : T) (pl pr : Option Addr) (w : World) (hl : TreeAt w pl l) (hr : TreeAt w pr r) (okl : l.Ok) (okr : r.Ok)
    (hb : l.toList.length + r.toList.length ≤ 100000000) :
    Calls Tryz.prog 117 #[.pointer pl, .pointer pr] w (GlueMade (l.toList ++ r.toList) w) := by
  by_cases hn : r = .nil
  · subst hn
    obtain rfl : pr = none := hr
    have HL := hid hl
    clear hl
    go_enter Tryz.func117, Tryz.ntmps117
    go_wp2
    go_ret
    exact ⟨pl, l, rfl, HL.out, okl, by simp [T.toList], Below.refl _ _⟩
  · obtain ⟨b, hpr⟩ : ∃ b, pr = some ⟨b, 0, none⟩ := by
      cases r with
      | nil => exact absurd rfl hn
      | node a c d e => obtain ⟨b, _, _, h, _⟩ := hr; exact ⟨b, h⟩
    subst hpr
    have HL := hid hl
    have HR := hid hr
    have HO := hid (And.intro okl okr)
    have HN := hid hn
    clear hl hr okl okr hn
    go_enter Tryz.func117, Tryz.ntmps117
    go_wp2_with fail
    refine (first_calls r _ _ HN.out (HR.out.below (by repeat (first | exact Below.refl _ _ | assumption | refine Below.drew ?_ | refine below_drewN ?_ _ | refine Below.alloc ?_ (by first | (simp; done) | omega | (simp; omega)) _))) HO.out.2 (by omega)).mono ?_
    rintro e w1 ⟨p1, q1, r1, rfl, ht1, ok1, el1, hw1⟩
    have up1 : Below w.heap.size w w1 := Below.trans (by repeat (first | exact Below.refl _ _ | assumption | refine Below.drew ?_ | refine below_drewN ?_ _ | refine Below.alloc ?_ (by first | (simp; done) | omega | (simp; omega)) _)) (hw1.mono (by simp))
    have bd1 : l.toList.length + r1.toList.length ≤ 100000000 := by rw [el1] at hb; simp at hb; omega
    have HO1 := hid ok1
    have HE1 := hid el1
    have HT1 := hid ht1
    have UP1 := hid up1
    clear ok1 el1 ht1 up1
    go_wp2_with fail
    refine (linked_calls l r1 p1 pl q1 _ (HL.out.below (Below.trans UP1.out (Below.mono (by repeat (first | exact Below.refl _ _ | assumption | refine Below.drew ?_ | refine below_drewN ?_ _ | refine Below.alloc ?_ (by first | (simp; done) | omega | (simp; omega)) _)) UP1.out.size))) (HT1.out.below (by repeat (first | exact Below.refl _ _ | assumption | refine Below.drew ?_ | refine below_drewN ?_ _ | refine Below.alloc ?_ (by first | (simp; done) | omega | (simp; omega)) _))) HO.out.1 HO1.out bd1).mono ?_
    rintro e w2 ⟨q2, t2, rfl, ht2, ok2, el2, hw2⟩
    have HE2 := hid el2
    clear el2
    go_wp2
    go_ret
    exact ⟨q2, t2, rfl, ht2, ok2, by rw [HE2.out, HE1.out], UP1.out.trans (Below.trans (Below.mono (by repeat (first | exact Below.refl _ _ | assumption | refine Below.drew ?_ | refine below_drewN ?_ _ | refine Below.alloc ?_ (by first | (simp; done) | omega | (simp; omega)) _)) UP1.out.size) (hw2.mono (by simp; have := UP1.out.size; omega)))⟩
end Go.Proofs.YtepldjidkomclaaGreat.St
namespace Go.Proofs.YtepldjidkomclaaGreat.St
set_option linter.unusedSimpArgs false
set_option linter.unusedVariables false
open Go.RowKit
def appP : List Pc → Pc → List Pc
  | [], p => [p]
  | q :: qs, p => match qs with
    | [] => if q.cell = p.cell ∧ q.to + 1 = p.from_ then [⟨q.from_, p.to, q.cell⟩] else [q, p]
    | q' :: qs' => q :: appP (q' :: qs') p
theorem appP_one (q p : Pc) : appP [q] p = if q.cell = p.cell ∧ q.to + 1 = p.from_ then [⟨q.from_, p.to, q.cell⟩] else [q, p] := by simp [appP]
theorem appP_cons (q : Pc) (qs : List Pc) (p : Pc) (h : qs ≠ []) : appP (q :: qs) p = q :: appP qs p := by
  cases qs with
  | nil => exact absurd rfl h
  | cons a b => simp [appP]
theorem appP_append (xs ys : List Pc) (p : Pc) (h : ys ≠ []) : appP (xs ++ ys) p = xs ++ appP ys p := by
  induction xs with
  | nil => rfl
  | cons a xs ih => rw [List.cons_append, appP_cons _ _ _ (by simp [h]), ih]; rfl
theorem appP_length (xs : List Pc) (p : Pc) : (appP xs p).length ≤ xs.length + 1 := by
  induction xs with
  | nil => simp [appP]
  | cons a xs ih =>
    cases xs with
    | nil => rw [appP_one]; split <;> simp
    | cons b c => rw [appP_cons _ _ _ (by simp)]; simp at ih ⊢; exact ih
theorem run_eqCell (x y : Cl) (w : World) : (Op.equalIn 10000 95 x.val y.val).run Tryz.prog w = .ok (decide (x = y)) w := by
  obtain ⟨a, b, c, d⟩ := x
  obtain ⟨a', b', c', d'⟩ := y
  by_cases h1 : a = a' <;> by_cases h2 : b = b' <;> by_cases h3 : c = c' <;> by_cases h4 : d = d' <;> simp [go_sem, h1, h2, h3, h4]
end Go.Proofs.YtepldjidkomclaaGreat.St
namespace Go.Proofs.YtepldjidkomclaaGreat.St
set_option linter.unusedSimpArgs false
set_option linter.unusedVariables false
open Go.RowKit
attribute [local go_sem ↓] Go.wp_at_zero Go.wp_at_succ
theorem tree_nil (w : World) : TreeAt w none .nil := rfl
theorem nil_ge : 0 ≤ T.nil.tall := Int.le_refl 0
theorem nil_le : T.nil.tall ≤ 1000000000 := by decide
theorem one_ok {pc : Pc} : (T.node .nil .nil pc (max T.nil.tall T.nil.tall + 1)).Ok := ⟨trivial, trivial, rfl⟩
set_option maxRecDepth 100000 in
set_option maxHeartbeats 4000000 in
theorem appended_n (pc : Pc) (p : Option Addr) (w : World) (hl : TreeAt w p T.nil) (okl : T.nil.Ok) (hb : T.nil.toList.length ≤ 90000000)  :
    Calls Tryz.prog 106 #[.pointer p, pc.val] w (GlueMade (appP T.nil.toList pc) w) := by
  obtain rfl : p = none := hl
  clear okl hb
  go_enter Tryz.func106, Tryz.ntmps106
  go_wp2_with (refine (node_calls .nil .nil none none pc _ (tree_nil _) (tree_nil _) nil_ge nil_le nil_ge nil_le).mono ?_; rintro e w1 ⟨b1, rfl, ht1, hw1, hs1⟩)
  go_ret
  exact ⟨_, _, rfl, ht1, ⟨trivial, trivial, rfl⟩, by simp [T.toList, appP], Below.trans (by repeat (first | exact Below.refl _ _ | assumption | refine Below.drew ?_ | refine below_drewN ?_ _ | refine Below.alloc ?_ (by first | (simp; done) | omega | (simp; omega)) _)) (hw1.mono (by simp))⟩
set_option maxRecDepth 100000 in
set_option maxHeartbeats 4000000 in
theorem appended_m (xl : T) (xp : Pc) (xh : Int) (pc : Pc) (p : Option Addr) (w : World) (hl : TreeAt w p (T.node xl .nil xp xh)) (okl : (T.node xl .nil xp xh).Ok) (hb : (T.node xl .nil xp xh).toList.length ≤ 90000000) (ht : 0 ≤ xp.to ∧ xp.to ≤ 1000000000) (hc : xp.cell = pc.cell) (ha : xp.to + 1 = pc.from_) :
    Calls Tryz.prog 106 #[.pointer p, pc.val] w (GlueMade (appP (T.node xl .nil xp xh).toList pc) w) := by
  obtain ⟨bx, pxl, pxr, rfl, hkx, hxl, hxr⟩ := hl
  obtain ⟨ltx, cx0, cx1, cx2, cx3, cx4, cx5, cx6, cx7, cx8⟩ := node_cells hkx
  have HXL := hid hxl
  have HXR := hid hxr
  obtain ⟨okxl, okxr, okx⟩ := okl
  have HOK := hid (And.intro okxl okxr)
  have ltx' : bx < w.heap.size + 1 := by omega
  have g0 := okxl.tall_ge
  have k0 := okxl.tall_le
  have HB := hid hb
  simp only [T.toList, List.length_append, List.length_cons] at hb
  obtain rfl : pxr = none := hxr
  have he : ∀ w, (Op.equalIn 10000 95 (.agg #[.int .i64 xp.cell.state, .int .i64 xp.cell.lot, .int .i64 xp.cell.owner, .int .i64 xp.cell.holder]) (.agg #[.int .i64 pc.cell.state, .int .i64 pc.cell.lot, .int .i64 pc.cell.owner, .int .i64 pc.cell.holder])).run Tryz.prog w = .ok true w := fun w => (run_eqCell xp.cell pc.cell w).trans (by simp [hc])
  have HC := hid hc
  have HA := hid ha
  have ha' : ((xp.to + 1 : Int) == pc.from_) = true := by simp [ha]
  clear ha
  have hbs : xl.toList.length + (T.node .nil .nil pc (max T.nil.tall T.nil.tall + 1)).toList.length ≤ 100000000 := by simp [T.toList]; omega
  clear hkx hxl okxl okxr okx hc
  go_enter Tryz.func106, Tryz.ntmps106
  go_wp2
  go_quiet (fail)
  go_wp2
  go_region_held3 (fun w' => w'.cell? ⟨bx, 0, none⟩ = some (Value.pointer pxl) ∧ w'.cell? ⟨bx, 1, none⟩ = some (Value.pointer none) ∧ w'.cell? ⟨bx, 2, none⟩ = some (Value.int .i64 xp.from_) ∧ w'.cell? ⟨bx, 3, none⟩ = some (Value.int .i64 xp.to) ∧ w'.cell? ⟨bx, 4, none⟩ = some (Value.int .i64 xp.cell.state) ∧ w'.cell? ⟨bx, 5, none⟩ = some (Value.int .i64 xp.cell.lot) ∧ w'.cell? ⟨bx, 6, none⟩ = some (Value.int .i64 xp.cell.owner) ∧ w'.cell? ⟨bx, 7, none⟩ = some (Value.int .i64 xp.cell.holder) ∧ w'.cell? ⟨bx, 8, none⟩ = some (Value.int .i64 xh) ∧ w'.cell? ⟨w.heap.size, 0, none⟩ = some (Value.int .i64 pc.from_) ∧ w'.cell? ⟨w.heap.size, 1, none⟩ = some (Value.int .i64 pc.to) ∧ w'.cell? ⟨w.heap.size, 2, none⟩ = some (Value.int .i64 pc.cell.state) ∧ w'.cell? ⟨w.heap.size, 3, none⟩ = some (Value.int .i64 pc.cell.lot) ∧ w'.cell? ⟨w.heap.size, 4, none⟩ = some (Value.int .i64 pc.cell.owner) ∧ w'.cell? ⟨w.heap.size, 5, none⟩ = some (Value.int .i64 pc.cell.holder)) (go_keep) (first | ((with_reducible refine (node_calls xl .nil pxl none ⟨xp.from_, pc.to, pc.cell⟩ _ (HXL.out.below (by repeat (first | exact Below.refl _ _ | assumption | refine Below.drew ?_ | refine below_drewN ?_ _ | refine Below.alloc ?_ (by first | (simp; done) | omega | (simp; omega)) _))) (tree_nil _) g0 (by omega) nil_ge nil_le).mono ?_); rintro e w1 ⟨b1, rfl, ht1, hw1, hs1⟩; obtain ⟨hc1, hf1⟩ := bcell hw1; have lx1 : bx < w1.heap.size := (by have := hw1.size; (try simp at this); omega); have lo1 : w.heap.size < w1.heap.size := (by have := hw1.size; (try simp at this); omega)))
  go_wp2
  go_ret
  exact ⟨_, _, rfl, ht1, ⟨HOK.out.1, trivial, rfl⟩, by simp only [T.toList]; rw [appP_append _ _ _ (by simp), appP_one, if_pos ⟨HC.out, HA.out⟩, HC.out], Below.trans (by repeat (first | exact Below.refl _ _ | assumption | refine Below.drew ?_ | refine below_drewN ?_ _ | refine Below.alloc ?_ (by first | (simp; done) | omega | (simp; omega)) _)) (hw1.mono (by simp))⟩
set_option maxRecDepth 100000 in
set_option maxHeartbeats 4000000 in
theorem appended_s1 (xl : T) (xp : Pc) (xh : Int) (pc : Pc) (p : Option Addr) (w : World) (hl : TreeAt w p (T.node xl .nil xp xh)) (okl : (T.node xl .nil xp xh).Ok) (hb : (T.node xl .nil xp xh).toList.length ≤ 90000000) (ht : 0 ≤ xp.to ∧ xp.to ≤ 1000000000) (hc : xp.cell ≠ pc.cell) :
    Calls Tryz.prog 106 #[.pointer p, pc.val] w (GlueMade (appP (T.node xl .nil xp xh).toList pc) w) := by
  obtain ⟨bx, pxl, pxr, rfl, hkx, hxl, hxr⟩ := hl
  obtain ⟨ltx, cx0, cx1, cx2, cx3, cx4, cx5, cx6, cx7, cx8⟩ := node_cells hkx
  have HXL := hid hxl
  have HXR := hid hxr
  obtain ⟨okxl, okxr, okx⟩ := okl
  have HOK := hid (And.intro okxl okxr)
  have ltx' : bx < w.heap.size + 1 := by omega
  have g0 := okxl.tall_ge
  have k0 := okxl.tall_le
  have HB := hid hb
  simp only [T.toList, List.length_append, List.length_cons] at hb
  obtain rfl : pxr = none := hxr
  have he : ∀ w, (Op.equalIn 10000 95 (.agg #[.int .i64 xp.cell.state, .int .i64 xp.cell.lot, .int .i64 xp.cell.owner, .int .i64 xp.cell.holder]) (.agg #[.int .i64 pc.cell.state, .int .i64 pc.cell.lot, .int .i64 pc.cell.owner, .int .i64 pc.cell.holder])).run Tryz.prog w = .ok false w := fun w => (run_eqCell xp.cell pc.cell w).trans (by simp [hc])
  have HC := hid hc
  have hbs : xl.toList.length + (T.node .nil .nil pc (max T.nil.tall T.nil.tall + 1)).toList.length ≤ 100000000 := by simp [T.toList]; omega
  clear hkx hxl okxl okxr okx hc
  go_enter Tryz.func106, Tryz.ntmps106
  go_wp2
  go_quiet (fail)
  go_wp2
  go_region_held3 (fun w' => w'.cell? ⟨bx, 0, none⟩ = some (Value.pointer pxl) ∧ w'.cell? ⟨bx, 1, none⟩ = some (Value.pointer none) ∧ w'.cell? ⟨bx, 2, none⟩ = some (Value.int .i64 xp.from_) ∧ w'.cell? ⟨bx, 3, none⟩ = some (Value.int .i64 xp.to) ∧ w'.cell? ⟨bx, 4, none⟩ = some (Value.int .i64 xp.cell.state) ∧ w'.cell? ⟨bx, 5, none⟩ = some (Value.int .i64 xp.cell.lot) ∧ w'.cell? ⟨bx, 6, none⟩ = some (Value.int .i64 xp.cell.owner) ∧ w'.cell? ⟨bx, 7, none⟩ = some (Value.int .i64 xp.cell.holder) ∧ w'.cell? ⟨bx, 8, none⟩ = some (Value.int .i64 xh) ∧ w'.cell? ⟨w.heap.size, 0, none⟩ = some (Value.int .i64 pc.from_) ∧ w'.cell? ⟨w.heap.size, 1, none⟩ = some (Value.int .i64 pc.to) ∧ w'.cell? ⟨w.heap.size, 2, none⟩ = some (Value.int .i64 pc.cell.state) ∧ w'.cell? ⟨w.heap.size, 3, none⟩ = some (Value.int .i64 pc.cell.lot) ∧ w'.cell? ⟨w.heap.size, 4, none⟩ = some (Value.int .i64 pc.cell.owner) ∧ w'.cell? ⟨w.heap.size, 5, none⟩ = some (Value.int .i64 pc.cell.holder)) (go_keep) (first | ((with_reducible refine (node_calls .nil .nil none none pc _ (tree_nil _) (tree_nil _) nil_ge nil_le nil_ge nil_le).mono ?_); rintro e w1 ⟨b1, rfl, ht1, hw1, hs1⟩; obtain ⟨hc1, hf1⟩ := bcell hw1; have lx1 : bx < w1.heap.size := (by have := hw1.size; (try simp at this); omega); have lo1 : w.heap.size < w1.heap.size := (by have := hw1.size; (try simp at this); omega); have up1 : Below w.heap.size w w1 := Below.trans (by repeat (first | exact Below.refl _ _ | assumption | refine Below.drew ?_ | refine below_drewN ?_ _ | refine Below.alloc ?_ (by first | (simp; done) | omega | (simp; omega)) _)) (hw1.mono (by simp))) | ((with_reducible refine (linked_calls xl (T.node .nil .nil pc _) xp pxl (some ⟨b1, 0, none⟩) _ (HXL.out.below (by repeat (first | exact Below.refl _ _ | assumption | refine Below.drew ?_ | refine below_drewN ?_ _ | refine Below.alloc ?_ (by first | (simp; done) | omega | (simp; omega)) _))) ht1 HOK.out.1 one_ok hbs).mono ?_); rintro e w2 ⟨q2, t2, rfl, ht2, ok2, el2, hw2⟩; have HE2 := hid el2; have HO2 := hid ok2; clear el2 ok2; obtain ⟨hc2, hf2⟩ := bcell hw2))
  go_wp2
  go_ret
  exact ⟨_, _, rfl, ht2, HO2.out, by rw [HE2.out]; simp only [T.toList]; rw [appP_append _ _ _ (by simp), appP_one, if_neg (fun h => HC.out h.1)]; simp, up1.trans (hw2.mono up1.size)⟩
set_option maxRecDepth 100000 in
set_option maxHeartbeats 4000000 in
theorem appended_s2 (xl : T) (xp : Pc) (xh : Int) (pc : Pc) (p : Option Addr) (w : World) (hl : TreeAt w p (T.node xl .nil xp xh)) (okl : (T.node xl .nil xp xh).Ok) (hb : (T.node xl .nil xp xh).toList.length ≤ 90000000) (ht : 0 ≤ xp.to ∧ xp.to ≤ 1000000000) (hc : xp.cell = pc.cell) (ha : xp.to + 1 ≠ pc.from_) :
    Calls Tryz.prog 106 #[.pointer p, pc.val] w (GlueMade (appP (T.node xl .nil xp xh).toList pc) w) := by
  obtain ⟨bx, pxl, pxr, rfl, hkx, hxl, hxr⟩ := hl
  obtain ⟨ltx, cx0, cx1, cx2, cx3, cx4, cx5, cx6, cx7, cx8⟩ := node_cells hkx
  have HXL := hid hxl
  have HXR := hid hxr
  obtain ⟨okxl, okxr, okx⟩ := okl
  have HOK := hid (And.intro okxl okxr)
  have ltx' : bx < w.heap.size + 1 := by omega
  have g0 := okxl.tall_ge
  have k0 := okxl.tall_le
  have HB := hid hb
  simp only [T.toList, List.length_append, List.length_cons] at hb
  obtain rfl : pxr = none := hxr
  have he : ∀ w, (Op.equalIn 10000 95 (.agg #[.int .i64 xp.cell.state, .int .i64 xp.cell.lot, .int .i64 xp.cell.owner, .int .i64 xp.cell.holder]) (.agg #[.int .i64 pc.cell.state, .int .i64 pc.cell.lot, .int .i64 pc.cell.owner, .int .i64 pc.cell.holder])).run Tryz.prog w = .ok true w := fun w => (run_eqCell xp.cell pc.cell w).trans (by simp [hc])
  have HC := hid hc
  have HA := hid ha
  have ha' : ((xp.to + 1 : Int) == pc.from_) = false := by simp [ha]
  clear ha
  have hbs : xl.toList.length + (T.node .nil .nil pc (max T.nil.tall T.nil.tall + 1)).toList.length ≤ 100000000 := by simp [T.toList]; omega
  clear hkx hxl okxl okxr okx hc
  go_enter Tryz.func106, Tryz.ntmps106
  go_wp2
  go_quiet (fail)
  go_wp2
  go_region_held3 (fun w' => w'.cell? ⟨bx, 0, none⟩ = some (Value.pointer pxl) ∧ w'.cell? ⟨bx, 1, none⟩ = some (Value.pointer none) ∧ w'.cell? ⟨bx, 2, none⟩ = some (Value.int .i64 xp.from_) ∧ w'.cell? ⟨bx, 3, none⟩ = some (Value.int .i64 xp.to) ∧ w'.cell? ⟨bx, 4, none⟩ = some (Value.int .i64 xp.cell.state) ∧ w'.cell? ⟨bx, 5, none⟩ = some (Value.int .i64 xp.cell.lot) ∧ w'.cell? ⟨bx, 6, none⟩ = some (Value.int .i64 xp.cell.owner) ∧ w'.cell? ⟨bx, 7, none⟩ = some (Value.int .i64 xp.cell.holder) ∧ w'.cell? ⟨bx, 8, none⟩ = some (Value.int .i64 xh) ∧ w'.cell? ⟨w.heap.size, 0, none⟩ = some (Value.int .i64 pc.from_) ∧ w'.cell? ⟨w.heap.size, 1, none⟩ = some (Value.int .i64 pc.to) ∧ w'.cell? ⟨w.heap.size, 2, none⟩ = some (Value.int .i64 pc.cell.state) ∧ w'.cell? ⟨w.heap.size, 3, none⟩ = some (Value.int .i64 pc.cell.lot) ∧ w'.cell? ⟨w.heap.size, 4, none⟩ = some (Value.int .i64 pc.cell.owner) ∧ w'.cell? ⟨w.heap.size, 5, none⟩ = some (Value.int .i64 pc.cell.holder)) (go_keep) (first | ((with_reducible refine (node_calls .nil .nil none none pc _ (tree_nil _) (tree_nil _) nil_ge nil_le nil_ge nil_le).mono ?_); rintro e w1 ⟨b1, rfl, ht1, hw1, hs1⟩; obtain ⟨hc1, hf1⟩ := bcell hw1; have lx1 : bx < w1.heap.size := (by have := hw1.size; (try simp at this); omega); have lo1 : w.heap.size < w1.heap.size := (by have := hw1.size; (try simp at this); omega); have up1 : Below w.heap.size w w1 := Below.trans (by repeat (first | exact Below.refl _ _ | assumption | refine Below.drew ?_ | refine below_drewN ?_ _ | refine Below.alloc ?_ (by first | (simp; done) | omega | (simp; omega)) _)) (hw1.mono (by simp))) | ((with_reducible refine (linked_calls xl (T.node .nil .nil pc _) xp pxl (some ⟨b1, 0, none⟩) _ (HXL.out.below (by repeat (first | exact Below.refl _ _ | assumption | refine Below.drew ?_ | refine below_drewN ?_ _ | refine Below.alloc ?_ (by first | (simp; done) | omega | (simp; omega)) _))) ht1 HOK.out.1 one_ok hbs).mono ?_); rintro e w2 ⟨q2, t2, rfl, ht2, ok2, el2, hw2⟩; have HE2 := hid el2; have HO2 := hid ok2; clear el2 ok2; obtain ⟨hc2, hf2⟩ := bcell hw2))
  go_wp2
  go_ret
  exact ⟨_, _, rfl, ht2, HO2.out, by rw [HE2.out]; simp only [T.toList]; rw [appP_append _ _ _ (by simp), appP_one, if_neg (fun h => HA.out h.2)]; simp, up1.trans (hw2.mono up1.size)⟩
set_option maxRecDepth 100000 in
set_option maxHeartbeats 4000000 in
theorem appended_h (xl yl yr : T) (xp yp : Pc) (xh yh : Int) (pc : Pc) (p : Option Addr) (w : World) (hl : TreeAt w p (T.node xl (T.node yl yr yp yh) xp xh)) (okl : (T.node xl (T.node yl yr yp yh) xp xh).Ok) (hb : (T.node xl (T.node yl yr yp yh) xp xh).toList.length ≤ 90000000) (ih : ∀ (p : Option Addr) (w : World), TreeAt w p (T.node yl yr yp yh) → Calls Tryz.prog 106 #[.pointer p, pc.val] w (GlueMade (appP (T.node yl yr yp yh).toList pc) w)) :
    Calls Tryz.prog 106 #[.pointer p, pc.val] w (GlueMade (appP (T.node xl (T.node yl yr yp yh) xp xh).toList pc) w) := by
  obtain ⟨bx, pxl, pxr, rfl, hkx, hxl, hxr⟩ := hl
  obtain ⟨ltx, cx0, cx1, cx2, cx3, cx4, cx5, cx6, cx7, cx8⟩ := node_cells hkx
  have HXL := hid hxl
  have HXR := hid hxr
  obtain ⟨okxl, okxr, okx⟩ := okl
  have HOK := hid (And.intro okxl okxr)
  have ltx' : bx < w.heap.size + 1 := by omega
  have g0 := okxl.tall_ge
  have k0 := okxl.tall_le
  have HB := hid hb
  simp only [T.toList, List.length_append, List.length_cons] at hb
  obtain ⟨bY, pYl, pYr, hpy, hky, _, _⟩ := hxr
  subst hpy
  have HI := hid ih
  clear ih hkx hky hxl okxl okxr okx
  go_enter Tryz.func106, Tryz.ntmps106
  go_wp2
  go_region_held3 (fun w' => w'.cell? ⟨bx, 0, none⟩ = some (Value.pointer pxl) ∧ w'.cell? ⟨bx, 1, none⟩ = some (Value.pointer (some ⟨bY, 0, none⟩)) ∧ w'.cell? ⟨bx, 2, none⟩ = some (Value.int .i64 xp.from_) ∧ w'.cell? ⟨bx, 3, none⟩ = some (Value.int .i64 xp.to) ∧ w'.cell? ⟨bx, 4, none⟩ = some (Value.int .i64 xp.cell.state) ∧ w'.cell? ⟨bx, 5, none⟩ = some (Value.int .i64 xp.cell.lot) ∧ w'.cell? ⟨bx, 6, none⟩ = some (Value.int .i64 xp.cell.owner) ∧ w'.cell? ⟨bx, 7, none⟩ = some (Value.int .i64 xp.cell.holder) ∧ w'.cell? ⟨bx, 8, none⟩ = some (Value.int .i64 xh) ∧ w'.cell? ⟨w.heap.size, 0, none⟩ = some (Value.int .i64 pc.from_) ∧ w'.cell? ⟨w.heap.size, 1, none⟩ = some (Value.int .i64 pc.to) ∧ w'.cell? ⟨w.heap.size, 2, none⟩ = some (Value.int .i64 pc.cell.state) ∧ w'.cell? ⟨w.heap.size, 3, none⟩ = some (Value.int .i64 pc.cell.lot) ∧ w'.cell? ⟨w.heap.size, 4, none⟩ = some (Value.int .i64 pc.cell.owner) ∧ w'.cell? ⟨w.heap.size, 5, none⟩ = some (Value.int .i64 pc.cell.holder)) (go_keep) (first | ((with_reducible refine (HI.out _ _ (HXR.out.below (by repeat (first | exact Below.refl _ _ | assumption | refine Below.drew ?_ | refine below_drewN ?_ _ | refine Below.alloc ?_ (by first | (simp; done) | omega | (simp; omega)) _)))).mono ?_); rintro e w1 ⟨q1, t1, rfl, ht1, ok1, el1, hw1⟩; have hb1 : xl.toList.length + t1.toList.length ≤ 100000000 := (by rw [el1]; have := appP_length (T.node yl yr yp yh).toList pc; simp only [T.toList, List.length_append, List.length_cons] at this hb ⊢; omega); have HE1 := hid el1; have HO1 := hid ok1; clear el1 ok1; obtain ⟨hc1, hf1⟩ := bcell hw1; have lx1 : bx < w1.heap.size := (by have := hw1.size; (try simp at this); omega); have lo1 : w.heap.size < w1.heap.size := (by have := hw1.size; (try simp at this); omega); have up1 : Below w.heap.size w w1 := Below.trans (by repeat (first | exact Below.refl _ _ | assumption | refine Below.drew ?_ | refine below_drewN ?_ _ | refine Below.alloc ?_ (by first | (simp; done) | omega | (simp; omega)) _)) (hw1.mono (by simp))) | ((with_reducible refine (linked_calls xl t1 xp pxl q1 _ (HXL.out.below (by repeat (first | exact Below.refl _ _ | assumption | refine Below.drew ?_ | refine below_drewN ?_ _ | refine Below.alloc ?_ (by first | (simp; done) | omega | (simp; omega)) _))) ht1 HOK.out.1 HO1.out hb1).mono ?_); rintro e w2 ⟨q2, t2, rfl, ht2, ok2, el2, hw2⟩; have HE2 := hid el2; have HO2 := hid ok2; clear el2 ok2; obtain ⟨hc2, hf2⟩ := bcell hw2))
  go_wp2
  go_ret
  exact ⟨_, _, rfl, ht2, HO2.out, by rw [HE2.out, HE1.out]; simp only [T.toList]; rw [appP_append xl.toList (xp :: (yl.toList ++ yp :: yr.toList)) pc (by simp), appP_cons xp _ _ (by simp)], up1.trans (hw2.mono up1.size)⟩
theorem appended_calls : ∀ (t : T) (pc : Pc) (p : Option Addr) (w : World), TreeAt w p t → t.Ok → t.toList.length ≤ 90000000 → (∀ q ∈ t.toList, 0 ≤ q.to ∧ q.to ≤ 1000000000) →
    Calls Tryz.prog 106 #[.pointer p, pc.val] w (GlueMade (appP t.toList pc) w)
  | .nil, pc, p, w, hl, ok, hb, _ => appended_n pc p w hl ok hb
  | .node xl .nil xp xh, pc, p, w, hl, ok, hb, hq => by
    have hx := hq xp (by simp [T.toList])
    by_cases hc : xp.cell = pc.cell
    · by_cases ha : xp.to + 1 = pc.from_
      · exact appended_m xl xp xh pc p w hl ok hb hx hc ha
      · exact appended_s2 xl xp xh pc p w hl ok hb hx hc ha
    · exact appended_s1 xl xp xh pc p w hl ok hb hx hc
  | .node xl (.node yl yr yp yh) xp xh, pc, p, w, hl, ok, hb, hq => appended_h xl yl yr xp yp xh yh pc p w hl ok hb
      (fun p' w' h' => appended_calls (.node yl yr yp yh) pc p' w' h' ok.2.1 (by simp only [T.toList, List.length_append, List.length_cons] at hb ⊢; omega) (fun q hq' => hq q (by simp only [T.toList, List.mem_append, List.mem_cons] at hq' ⊢; rcases hq' with h | h | h <;> simp [h])))
end Go.Proofs.YtepldjidkomclaaGreat.St
namespace Go.Proofs.YtepldjidkomclaaGreat.St
set_option linter.unusedSimpArgs false
set_option linter.unusedVariables false
open Go.RowKit
attribute [local go_sem ↓] Go.wp_at_zero Go.wp_at_succ
theorem nil_ok : T.nil.Ok := trivial
def joinP (l : List Pc) : List Pc → List Pc
  | [] => l
  | p :: r => appP l p ++ r
theorem TreeAt.some {w : World} {t : T} {p : Option Addr} (h : TreeAt w p t) (hn : t ≠ .nil) : ∃ b, p = some ⟨b, 0, none⟩ := by
  cases t with
  | nil => exact absurd rfl hn
  | node a c d e => obtain ⟨b, _, _, h, _⟩ := h; exact ⟨b, h⟩
set_option maxRecDepth 100000 in
set_option maxHeartbeats 2000000 in
theorem joined_calls (l r : T) (pl pr : Option Addr) (w : World) (hl : TreeAt w pl l) (hr : TreeAt w pr r) (okl : l.Ok) (okr : r.Ok)
    (hb : l.toList.length + r.toList.length ≤ 80000000) (hq : ∀ q ∈ l.toList, 0 ≤ q.to ∧ q.to ≤ 1000000000) :
    Calls Tryz.prog 107 #[.pointer pl, .pointer pr] w (GlueMade (joinP l.toList r.toList) w) := by
  have HL := hid hl
  have HR := hid hr
  have HO := hid (And.intro okl okr)
  have HQ := hid hq
  by_cases hn : l = .nil
  · subst hn
    obtain rfl : pl = none := hl
    clear hr okl okr hq
    go_enter Tryz.func107, Tryz.ntmps107
    go_wp2
    go_ret
    exact ⟨pr, r, rfl, HR.out, HO.out.2, by cases r.toList <;> simp [T.toList, joinP, appP], Below.refl _ _⟩
  · obtain ⟨b, hpl⟩ := hl.some hn
    subst hpl
    by_cases hm : r = .nil
    · subst hm
      obtain rfl : pr = none := hr
      clear hl okl okr hq hn
      go_enter Tryz.func107, Tryz.ntmps107
      go_wp2
      go_ret
      exact ⟨_, l, rfl, HL.out, HO.out.1, by simp [T.toList, joinP], Below.refl _ _⟩
    · obtain ⟨c, hpr⟩ := hr.some hm
      subst hpr
      have HM := hid hm
      clear hl hr okl okr hq hn hm
      go_enter Tryz.func107, Tryz.ntmps107
      go_wp2_with fail
      refine (first_calls r _ _ HM.out HR.out HO.out.2 (by omega)).mono ?_
      rintro e w1 ⟨p1, q1, r1, rfl, ht1, ok1, el1, hw1⟩
      have bd1 : (appP l.toList p1).length + r1.toList.length ≤ 100000000 := by rw [el1] at hb; have := appP_length l.toList p1; simp at hb; omega
      have HO1 := hid ok1
      have HE1 := hid el1
      have HT1 := hid ht1
      clear ok1 el1 ht1
      go_wp2_with fail
      refine (appended_calls l p1 _ _ (HL.out.below (Below.trans hw1 (Below.mono (by repeat (first | exact Below.refl _ _ | assumption | refine Below.drew ?_ | refine below_drewN ?_ _ | refine Below.alloc ?_ (by first | (simp; done) | omega | (simp; omega)) _)) hw1.size))) HO.out.1 (by omega) HQ.out).mono ?_
      rintro e w2 ⟨q2, t2, rfl, ht2, ok2, el2, hw2⟩
      have up2 : Below w.heap.size w w2 := hw1.trans (Below.trans (Below.mono (by repeat (first | exact Below.refl _ _ | assumption | refine Below.drew ?_ | refine below_drewN ?_ _ | refine Below.alloc ?_ (by first | (simp; done) | omega | (simp; omega)) _)) hw1.size) (hw2.mono (by simp; have := hw1.size; omega)))
      have HU := hid up2
      have HE2 := hid el2
      have HT2 := hid ht2
      have HW2 := hid hw2
      clear el2 ht2 up2
      go_wp2_with fail
      refine (glued_calls t2 r1 q2 q1 _ HT2.out (HT1.out.below (Below.trans (Below.alloc (Below.refl _ _) (Nat.le_refl _) _) (HW2.out.mono (by simp)))) ok2 HO1.out (by rw [HE2.out]; exact bd1)).mono ?_
      rintro e w3 ⟨q3, t3, rfl, ht3, ok3, el3, hw3⟩
      have HE3 := hid el3
      clear el3
      go_wp2
      go_ret
      exact ⟨q3, t3, rfl, ht3, ok3, by rw [HE3.out, HE2.out, HE1.out]; rfl, HU.out.trans (hw3.mono HU.out.size)⟩
def splitT : T → Int → List Pc × List Pc
  | .nil, _ => ([], [])
  | .node l r p _, a => if a ≤ p.from_ then ((splitT l a).1, (splitT l a).2 ++ p :: r.toList)
      else if p.to < a then (l.toList ++ p :: (splitT r a).1, (splitT r a).2)
      else (l.toList ++ [⟨p.from_, a - 1, p.cell⟩], ⟨a, p.to, p.cell⟩ :: r.toList)
theorem splitT_length (t : T) (a : Int) : (splitT t a).1.length ≤ t.toList.length + 1 ∧ (splitT t a).2.length ≤ t.toList.length + 1 := by
  induction t with
  | nil => simp [splitT]
  | node l r p h ihl ihr =>
    unfold splitT
    split
    · simp [T.toList]; omega
    · split <;> simp [T.toList] <;> omega
def SplitMade (t : T) (a : Int) (w : World) (e : Ending) (w' : World) : Prop :=
  ∃ (q1 q2 : Option Addr) (t1 t2 : T), e = .returned (.tuple #[.pointer q1, .pointer q2]) ∧ TreeAt w' q1 t1 ∧ TreeAt w' q2 t2 ∧ t1.Ok ∧ t2.Ok ∧ t1.toList = (splitT t a).1 ∧ t2.toList = (splitT t a).2 ∧ Below w.heap.size w w'
set_option maxRecDepth 100000 in
theorem split_n (a : Int) (w : World) : Calls Tryz.prog 105 #[.pointer none, .int .i64 a] w (SplitMade .nil a w) := by
  go_enter Tryz.func105, Tryz.ntmps105
  go_wp2
  go_ret2
  exact ⟨none, none, .nil, .nil, rfl, rfl, rfl, trivial, trivial, rfl, rfl, Below.refl _ _⟩
set_option maxRecDepth 100000 in
set_option maxHeartbeats 4000000 in
theorem split_l (xl xr : T) (xp : Pc) (xh : Int) (a : Int) (p : Option Addr) (w : World) (hl : TreeAt w p (T.node xl xr xp xh)) (okl : (T.node xl xr xp xh).Ok) (hb : (T.node xl xr xp xh).toList.length ≤ 80000000) (ha : 0 ≤ a ∧ a ≤ 1000000000) (h1 : a ≤ xp.from_) (ih : ∀ (p : Option Addr) (w : World), TreeAt w p xl → Calls Tryz.prog 105 #[.pointer p, .int .i64 a] w (SplitMade xl a w)) :
    Calls Tryz.prog 105 #[.pointer p, .int .i64 a] w (SplitMade (T.node xl xr xp xh) a w) := by
  obtain ⟨bx, pxl, pxr, rfl, hkx, hxl, hxr⟩ := hl
  obtain ⟨ltx, cx0, cx1, cx2, cx3, cx4, cx5, cx6, cx7, cx8⟩ := node_cells hkx
  have HXL := hid hxl
  have HXR := hid hxr
  obtain ⟨okxl, okxr, okx⟩ := okl
  have HOK := hid (And.intro okxl okxr)
  have ltx' : bx < w.heap.size + 1 := by omega
  have HB := hid hb
  simp only [T.toList, List.length_append, List.length_cons] at hb
  have HI := hid ih
  clear ih hkx hxl hxr okxl okxr okx
  go_enter Tryz.func105, Tryz.ntmps105
  go_wp2_with fail
  refine (HI.out _ _ (HXL.out.below (by repeat (first | exact Below.refl _ _ | assumption | refine Below.drew ?_ | refine below_drewN ?_ _ | refine Below.alloc ?_ (by first | (simp; done) | omega | (simp; omega)) _)))).mono ?_
  rintro e w1 ⟨q1, q2, t1, t2, rfl, ht1, ht2, ok1, ok2, el1, el2, hw1⟩
  have bs := splitT_length xl a
  have bd1 : t2.toList.length + xr.toList.length ≤ 100000000 := by rw [el2]; omega
  have HE := hid (And.intro el1 el2)
  have HO1 := hid (And.intro ok1 ok2)
  have HT1 := hid ht1
  have HT2 := hid ht2
  have HS := hid bs
  obtain ⟨hc1, hf1⟩ := bcell hw1
  have HW := hid hw1
  clear el1 el2 ok1 ok2 ht1 ht2 bs hw1
  have lx1 : bx < w1.heap.size := by have := HW.out.size; omega
  go_wp2_with fail
  go_region_held3 (fun w' => w'.cell? ⟨bx, 0, none⟩ = some (Value.pointer pxl) ∧ w'.cell? ⟨bx, 1, none⟩ = some (Value.pointer pxr) ∧ w'.cell? ⟨bx, 2, none⟩ = some (Value.int .i64 xp.from_) ∧ w'.cell? ⟨bx, 3, none⟩ = some (Value.int .i64 xp.to) ∧ w'.cell? ⟨bx, 4, none⟩ = some (Value.int .i64 xp.cell.state) ∧ w'.cell? ⟨bx, 5, none⟩ = some (Value.int .i64 xp.cell.lot) ∧ w'.cell? ⟨bx, 6, none⟩ = some (Value.int .i64 xp.cell.owner) ∧ w'.cell? ⟨bx, 7, none⟩ = some (Value.int .i64 xp.cell.holder) ∧ w'.cell? ⟨bx, 8, none⟩ = some (Value.int .i64 xh)) (go_keep) (first | ((with_reducible refine (linked_calls t2 xr xp q2 pxr _ (HT2.out.below (by repeat (first | exact Below.refl _ _ | assumption | refine Below.drew ?_ | refine below_drewN ?_ _ | refine Below.alloc ?_ (by first | (simp; done) | omega | (simp; omega)) _))) (HXR.out.below (Below.trans HW.out (Below.mono (by repeat (first | exact Below.refl _ _ | assumption | refine Below.drew ?_ | refine below_drewN ?_ _ | refine Below.alloc ?_ (by first | (simp; done) | omega | (simp; omega)) _)) HW.out.size))) HO1.out.2 HOK.out.2 bd1).mono ?_); rintro e w2 ⟨q3, t3, rfl, ht3, ok3, el3, hw3⟩; have HE3 := hid el3; have HW3 := hid hw3; clear el3; have hw4 : Below w1.heap.size w1 w2 := undrew hw3; obtain ⟨hc2, hf2⟩ := bcell hw4))
  go_wp2
  go_ret2
  have e1 : splitT (T.node xl xr xp xh) a = ((splitT xl a).1, (splitT xl a).2 ++ xp :: xr.toList) := by rw [splitT, if_pos h1]
  exact ⟨q1, q3, t1, t3, rfl, HT1.out.below (Below.trans (by repeat (first | exact Below.refl _ _ | assumption | refine Below.drew ?_ | refine below_drewN ?_ _ | refine Below.alloc ?_ (by first | (simp; done) | omega | (simp; omega)) _)) (HW3.out.mono (Nat.le_refl _))), ht3, HO1.out.1, ok3, by rw [e1]; exact HE.out.1, by rw [e1, HE3.out, HE.out.2], HW.out.trans (Below.trans (Below.mono (by repeat (first | exact Below.refl _ _ | assumption | refine Below.drew ?_ | refine below_drewN ?_ _ | refine Below.alloc ?_ (by first | (simp; done) | omega | (simp; omega)) _)) HW.out.size) (HW3.out.mono HW.out.size))⟩
set_option maxRecDepth 100000 in
set_option maxHeartbeats 4000000 in
theorem split_r (xl xr : T) (xp : Pc) (xh : Int) (a : Int) (p : Option Addr) (w : World) (hl : TreeAt w p (T.node xl xr xp xh)) (okl : (T.node xl xr xp xh).Ok) (hb : (T.node xl xr xp xh).toList.length ≤ 80000000) (ha : 0 ≤ a ∧ a ≤ 1000000000) (h1 : xp.from_ < a) (h2 : xp.to < a) (ih : ∀ (p : Option Addr) (w : World), TreeAt w p xr → Calls Tryz.prog 105 #[.pointer p, .int .i64 a] w (SplitMade xr a w)) :
    Calls Tryz.prog 105 #[.pointer p, .int .i64 a] w (SplitMade (T.node xl xr xp xh) a w) := by
  obtain ⟨bx, pxl, pxr, rfl, hkx, hxl, hxr⟩ := hl
  obtain ⟨ltx, cx0, cx1, cx2, cx3, cx4, cx5, cx6, cx7, cx8⟩ := node_cells hkx
  have HXL := hid hxl
  have HXR := hid hxr
  obtain ⟨okxl, okxr, okx⟩ := okl
  have HOK := hid (And.intro okxl okxr)
  have ltx' : bx < w.heap.size + 1 := by omega
  have HB := hid hb
  simp only [T.toList, List.length_append, List.length_cons] at hb
  have HI := hid ih
  clear ih hkx hxl hxr okxl okxr okx
  go_enter Tryz.func105, Tryz.ntmps105
  go_wp2_with fail
  refine (HI.out _ _ (HXR.out.below (by repeat (first | exact Below.refl _ _ | assumption | refine Below.drew ?_ | refine below_drewN ?_ _ | refine Below.alloc ?_ (by first | (simp; done) | omega | (simp; omega)) _)))).mono ?_
  rintro e w1 ⟨q1, q2, t1, t2, rfl, ht1, ht2, ok1, ok2, el1, el2, hw1⟩
  have bs := splitT_length xr a
  have bd1 : xl.toList.length + t1.toList.length ≤ 100000000 := by rw [el1]; omega
  have HE := hid (And.intro el1 el2)
  have HO1 := hid (And.intro ok1 ok2)
  have HT1 := hid ht1
  have HT2 := hid ht2
  have HS := hid bs
  obtain ⟨hc1, hf1⟩ := bcell hw1
  have HW := hid hw1
  clear el1 el2 ok1 ok2 ht1 ht2 bs hw1
  have lx1 : bx < w1.heap.size := by have := HW.out.size; omega
  go_wp2_with fail
  go_region_held3 (fun w' => w'.cell? ⟨bx, 0, none⟩ = some (Value.pointer pxl) ∧ w'.cell? ⟨bx, 1, none⟩ = some (Value.pointer pxr) ∧ w'.cell? ⟨bx, 2, none⟩ = some (Value.int .i64 xp.from_) ∧ w'.cell? ⟨bx, 3, none⟩ = some (Value.int .i64 xp.to) ∧ w'.cell? ⟨bx, 4, none⟩ = some (Value.int .i64 xp.cell.state) ∧ w'.cell? ⟨bx, 5, none⟩ = some (Value.int .i64 xp.cell.lot) ∧ w'.cell? ⟨bx, 6, none⟩ = some (Value.int .i64 xp.cell.owner) ∧ w'.cell? ⟨bx, 7, none⟩ = some (Value.int .i64 xp.cell.holder) ∧ w'.cell? ⟨bx, 8, none⟩ = some (Value.int .i64 xh)) (go_keep) (first | ((with_reducible refine (linked_calls xl t1 xp pxl q1 _ (HXL.out.below (Below.trans HW.out (Below.mono (by repeat (first | exact Below.refl _ _ | assumption | refine Below.drew ?_ | refine below_drewN ?_ _ | refine Below.alloc ?_ (by first | (simp; done) | omega | (simp; omega)) _)) HW.out.size))) (HT1.out.below (by repeat (first | exact Below.refl _ _ | assumption | refine Below.drew ?_ | refine below_drewN ?_ _ | refine Below.alloc ?_ (by first | (simp; done) | omega | (simp; omega)) _))) HOK.out.1 HO1.out.1 bd1).mono ?_); rintro e w2 ⟨q3, t3, rfl, ht3, ok3, el3, hw3⟩; have HE3 := hid el3; have HW3 := hid hw3; clear el3; have hw4 : Below w1.heap.size w1 w2 := undrew hw3; obtain ⟨hc2, hf2⟩ := bcell hw4))
  go_wp2
  go_ret2
  have e1 : splitT (T.node xl xr xp xh) a = (xl.toList ++ xp :: (splitT xr a).1, (splitT xr a).2) := by rw [splitT, if_neg (by omega), if_pos h2]
  exact ⟨q3, q2, t3, t2, rfl, ht3, HT2.out.below (Below.trans (by repeat (first | exact Below.refl _ _ | assumption | refine Below.drew ?_ | refine below_drewN ?_ _ | refine Below.alloc ?_ (by first | (simp; done) | omega | (simp; omega)) _)) (HW3.out.mono (Nat.le_refl _))), ok3, HO1.out.2, by rw [e1, HE3.out, HE.out.1], by rw [e1]; exact HE.out.2, HW.out.trans (Below.trans (Below.mono (by repeat (first | exact Below.refl _ _ | assumption | refine Below.drew ?_ | refine below_drewN ?_ _ | refine Below.alloc ?_ (by first | (simp; done) | omega | (simp; omega)) _)) HW.out.size) (HW3.out.mono HW.out.size))⟩
set_option maxRecDepth 100000 in
set_option maxHeartbeats 4000000 in
theorem split_m (xl xr : T) (xp : Pc) (xh : Int) (a : Int) (p : Option Addr) (w : World) (hl : TreeAt w p (T.node xl xr xp xh)) (okl : (T.node xl xr xp xh).Ok) (hb : (T.node xl xr xp xh).toList.length ≤ 80000000) (ha : 0 ≤ a ∧ a ≤ 1000000000) (h1 : xp.from_ < a) (h2 : a ≤ xp.to) :
    Calls Tryz.prog 105 #[.pointer p, .int .i64 a] w (SplitMade (T.node xl xr xp xh) a w) := by
  obtain ⟨bx, pxl, pxr, rfl, hkx, hxl, hxr⟩ := hl
  obtain ⟨ltx, cx0, cx1, cx2, cx3, cx4, cx5, cx6, cx7, cx8⟩ := node_cells hkx
  have HXL := hid hxl
  have HXR := hid hxr
  obtain ⟨okxl, okxr, okx⟩ := okl
  have HOK := hid (And.intro okxl okxr)
  have ltx' : bx < w.heap.size + 1 := by omega
  have HB := hid hb
  simp only [T.toList, List.length_append, List.length_cons] at hb
  clear hkx hxl hxr okxl okxr okx
  go_enter Tryz.func105, Tryz.ntmps105
  have ltx2 : bx < w.heap.size + 1 + 1 := by omega
  have lw2 : w.heap.size < w.heap.size + 1 + 1 := by omega
  have hwa : IntKind.i64.wrap (a - 1) = a - 1 := IntWalk.i64_in _ (by omega)
  have b1 : xl.toList.length + T.nil.toList.length ≤ 100000000 := by simp [T.toList]; omega
  have b2 : T.nil.toList.length + xr.toList.length ≤ 100000000 := by simp [T.toList]; omega
  go_wp2
  go_region_held3 (fun w' => w'.cell? ⟨bx, 0, none⟩ = some (Value.pointer pxl) ∧ w'.cell? ⟨bx, 1, none⟩ = some (Value.pointer pxr) ∧ w'.cell? ⟨bx, 2, none⟩ = some (Value.int .i64 xp.from_) ∧ w'.cell? ⟨bx, 3, none⟩ = some (Value.int .i64 xp.to) ∧ w'.cell? ⟨bx, 4, none⟩ = some (Value.int .i64 xp.cell.state) ∧ w'.cell? ⟨bx, 5, none⟩ = some (Value.int .i64 xp.cell.lot) ∧ w'.cell? ⟨bx, 6, none⟩ = some (Value.int .i64 xp.cell.owner) ∧ w'.cell? ⟨bx, 7, none⟩ = some (Value.int .i64 xp.cell.holder) ∧ w'.cell? ⟨bx, 8, none⟩ = some (Value.int .i64 xh)) (go_keep) (first | fail)
  · go_wp2
    go_region_held3 (fun w' => w'.cell? ⟨bx, 0, none⟩ = some (Value.pointer pxl) ∧ w'.cell? ⟨bx, 1, none⟩ = some (Value.pointer pxr) ∧ w'.cell? ⟨bx, 2, none⟩ = some (Value.int .i64 xp.from_) ∧ w'.cell? ⟨bx, 3, none⟩ = some (Value.int .i64 xp.to) ∧ w'.cell? ⟨bx, 4, none⟩ = some (Value.int .i64 xp.cell.state) ∧ w'.cell? ⟨bx, 5, none⟩ = some (Value.int .i64 xp.cell.lot) ∧ w'.cell? ⟨bx, 6, none⟩ = some (Value.int .i64 xp.cell.owner) ∧ w'.cell? ⟨bx, 7, none⟩ = some (Value.int .i64 xp.cell.holder) ∧ w'.cell? ⟨bx, 8, none⟩ = some (Value.int .i64 xh) ∧ w'.cell? ⟨w.heap.size, 0, none⟩ = some (Value.int .i64 (xp.from_)) ∧ w'.cell? ⟨w.heap.size, 1, none⟩ = some (Value.int .i64 (a - 1)) ∧ w'.cell? ⟨w.heap.size, 2, none⟩ = some (Value.int .i64 xp.cell.state) ∧ w'.cell? ⟨w.heap.size, 3, none⟩ = some (Value.int .i64 xp.cell.lot) ∧ w'.cell? ⟨w.heap.size, 4, none⟩ = some (Value.int .i64 xp.cell.owner) ∧ w'.cell? ⟨w.heap.size, 5, none⟩ = some (Value.int .i64 xp.cell.holder) ∧ w'.cell? ⟨w.heap.size + 1, 0, none⟩ = some (Value.int .i64 (a)) ∧ w'.cell? ⟨w.heap.size + 1, 1, none⟩ = some (Value.int .i64 (xp.to)) ∧ w'.cell? ⟨w.heap.size + 1, 2, none⟩ = some (Value.int .i64 xp.cell.state) ∧ w'.cell? ⟨w.heap.size + 1, 3, none⟩ = some (Value.int .i64 xp.cell.lot) ∧ w'.cell? ⟨w.heap.size + 1, 4, none⟩ = some (Value.int .i64 xp.cell.owner) ∧ w'.cell? ⟨w.heap.size + 1, 5, none⟩ = some (Value.int .i64 xp.cell.holder)) (go_keep) (first | ((with_reducible refine (linked_calls xl .nil ⟨xp.from_, a - 1, xp.cell⟩ pxl none _ (HXL.out.below (by repeat (first | exact Below.refl _ _ | assumption | refine Below.drew ?_ | refine below_drewN ?_ _ | refine Below.alloc ?_ (by first | (simp; done) | omega | (simp; omega)) _))) (tree_nil _) HOK.out.1 nil_ok b1).mono ?_); rintro e w1 ⟨q1, t1, rfl, ht1, ok1, el1, hw1⟩; have HE1 := hid el1; have HW1 := hid hw1; clear el1; obtain ⟨hc1, hf1⟩ := bcell hw1; have lx1 : bx < w1.heap.size := (by have := hw1.size; (try simp at this); omega); have lo1 : w.heap.size + 1 < w1.heap.size := (by have := hw1.size; (try simp at this); omega); have lp1 : w.heap.size < w1.heap.size := (by omega); have up1 : Below w.heap.size w w1 := Below.trans (by repeat (first | exact Below.refl _ _ | assumption | refine Below.drew ?_ | refine below_drewN ?_ _ | refine Below.alloc ?_ (by first | (simp; done) | omega | (simp; omega)) _)) (hw1.mono (by simp; omega))) | ((with_reducible refine (linked_calls .nil xr ⟨a, xp.to, xp.cell⟩ none pxr _ (tree_nil _) (HXR.out.below (by repeat (first | exact Below.refl _ _ | assumption | refine Below.drew ?_ | refine below_drewN ?_ _ | refine Below.alloc ?_ (by first | (simp; done) | omega | (simp; omega)) _))) nil_ok HOK.out.2 b2).mono ?_); rintro e w2 ⟨q2, t2, rfl, ht2, ok2, el2, hw2⟩; have HE2 := hid el2; have HW2 := hid hw2; clear el2; obtain ⟨hc2, hf2⟩ := bcell hw2))
    go_wp2
    go_ret2
    have e1 : splitT (T.node xl xr xp xh) a = (xl.toList ++ [⟨xp.from_, a - 1, xp.cell⟩], ⟨a, xp.to, xp.cell⟩ :: xr.toList) := by rw [splitT, if_neg (by omega), if_neg (by omega)]
    exact ⟨q1, q2, t1, t2, rfl, ht1.below (HW2.out.mono (Nat.le_refl _)), ht2, ok1, ok2, by rw [e1, HE1.out]; rfl, by rw [e1, HE2.out]; rfl, up1.trans (HW2.out.mono up1.size)⟩
  · go_wp2
    go_region_held3 (fun w' => w'.cell? ⟨bx, 0, none⟩ = some (Value.pointer pxl) ∧ w'.cell? ⟨bx, 1, none⟩ = some (Value.pointer pxr) ∧ w'.cell? ⟨bx, 2, none⟩ = some (Value.int .i64 xp.from_) ∧ w'.cell? ⟨bx, 3, none⟩ = some (Value.int .i64 xp.to) ∧ w'.cell? ⟨bx, 4, none⟩ = some (Value.int .i64 xp.cell.state) ∧ w'.cell? ⟨bx, 5, none⟩ = some (Value.int .i64 xp.cell.lot) ∧ w'.cell? ⟨bx, 6, none⟩ = some (Value.int .i64 xp.cell.owner) ∧ w'.cell? ⟨bx, 7, none⟩ = some (Value.int .i64 xp.cell.holder) ∧ w'.cell? ⟨bx, 8, none⟩ = some (Value.int .i64 xh) ∧ w'.cell? ⟨w.heap.size + 1, 0, none⟩ = some (Value.int .i64 (xp.from_)) ∧ w'.cell? ⟨w.heap.size + 1, 1, none⟩ = some (Value.int .i64 (a - 1)) ∧ w'.cell? ⟨w.heap.size + 1, 2, none⟩ = some (Value.int .i64 xp.cell.state) ∧ w'.cell? ⟨w.heap.size + 1, 3, none⟩ = some (Value.int .i64 xp.cell.lot) ∧ w'.cell? ⟨w.heap.size + 1, 4, none⟩ = some (Value.int .i64 xp.cell.owner) ∧ w'.cell? ⟨w.heap.size + 1, 5, none⟩ = some (Value.int .i64 xp.cell.holder) ∧ w'.cell? ⟨w.heap.size, 0, none⟩ = some (Value.int .i64 (a)) ∧ w'.cell? ⟨w.heap.size, 1, none⟩ = some (Value.int .i64 (xp.to)) ∧ w'.cell? ⟨w.heap.size, 2, none⟩ = some (Value.int .i64 xp.cell.state) ∧ w'.cell? ⟨w.heap.size, 3, none⟩ = some (Value.int .i64 xp.cell.lot) ∧ w'.cell? ⟨w.heap.size, 4, none⟩ = some (Value.int .i64 xp.cell.owner) ∧ w'.cell? ⟨w.heap.size, 5, none⟩ = some (Value.int .i64 xp.cell.holder)) (go_keep) (first | ((with_reducible refine (linked_calls xl .nil ⟨xp.from_, a - 1, xp.cell⟩ pxl none _ (HXL.out.below (by repeat (first | exact Below.refl _ _ | assumption | refine Below.drew ?_ | refine below_drewN ?_ _ | refine Below.alloc ?_ (by first | (simp; done) | omega | (simp; omega)) _))) (tree_nil _) HOK.out.1 nil_ok b1).mono ?_); rintro e w1 ⟨q1, t1, rfl, ht1, ok1, el1, hw1⟩; have HE1 := hid el1; have HW1 := hid hw1; clear el1; obtain ⟨hc1, hf1⟩ := bcell hw1; have lx1 : bx < w1.heap.size := (by have := hw1.size; (try simp at this); omega); have lo1 : w.heap.size + 1 < w1.heap.size := (by have := hw1.size; (try simp at this); omega); have lp1 : w.heap.size < w1.heap.size := (by omega); have up1 : Below w.heap.size w w1 := Below.trans (by repeat (first | exact Below.refl _ _ | assumption | refine Below.drew ?_ | refine below_drewN ?_ _ | refine Below.alloc ?_ (by first | (simp; done) | omega | (simp; omega)) _)) (hw1.mono (by simp; omega))) | ((with_reducible refine (linked_calls .nil xr ⟨a, xp.to, xp.cell⟩ none pxr _ (tree_nil _) (HXR.out.below (by repeat (first | exact Below.refl _ _ | assumption | refine Below.drew ?_ | refine below_drewN ?_ _ | refine Below.alloc ?_ (by first | (simp; done) | omega | (simp; omega)) _))) nil_ok HOK.out.2 b2).mono ?_); rintro e w2 ⟨q2, t2, rfl, ht2, ok2, el2, hw2⟩; have HE2 := hid el2; have HW2 := hid hw2; clear el2; obtain ⟨hc2, hf2⟩ := bcell hw2))
    go_wp2
    go_ret2
    have e1 : splitT (T.node xl xr xp xh) a = (xl.toList ++ [⟨xp.from_, a - 1, xp.cell⟩], ⟨a, xp.to, xp.cell⟩ :: xr.toList) := by rw [splitT, if_neg (by omega), if_neg (by omega)]
    exact ⟨q1, q2, t1, t2, rfl, ht1.below (HW2.out.mono (Nat.le_refl _)), ht2, ok1, ok2, by rw [e1, HE1.out]; rfl, by rw [e1, HE2.out]; rfl, up1.trans (HW2.out.mono up1.size)⟩
theorem split_calls : ∀ (t : T) (a : Int) (p : Option Addr) (w : World), TreeAt w p t → t.Ok → t.toList.length ≤ 80000000 → 0 ≤ a ∧ a ≤ 1000000000 →
    Calls Tryz.prog 105 #[.pointer p, .int .i64 a] w (SplitMade t a w)
  | .nil, a, p, w, hl, _, _, _ => by obtain rfl : p = none := hl; exact split_n a w
  | .node xl xr xp xh, a, p, w, hl, ok, hb, ha => by
    have hb' := hb
    simp only [T.toList, List.length_append, List.length_cons] at hb'
    by_cases h1 : a ≤ xp.from_
    · exact split_l xl xr xp xh a p w hl ok hb ha h1 (fun p' w' h' => split_calls xl a p' w' h' ok.1 (by omega) ha)
    · by_cases h2 : xp.to < a
      · exact split_r xl xr xp xh a p w hl ok hb ha (by omega) h2 (fun p' w' h' => split_calls xr a p' w' h' ok.2.1 (by omega) ha)
      · exact split_m xl xr xp xh a p w hl ok hb ha (by omega) (by omega)
end Go.Proofs.YtepldjidkomclaaGreat.St
