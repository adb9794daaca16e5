/- first: the first piece, and the tree without it; glued. -/
import Derived.Test.YtnnbdjfeagcbdaaMem
namespace Go.Proofs.Ytnnbdjfeagcbdaa
set_option linter.unusedSimpArgs false
set_option linter.unusedVariables false
open Go.RowKit
attribute [local go_sem ↓] Go.wp_at_zero Go.wp_at_succ

def FirstMade (t : T) (w : World) (e : Ending) (w' : World) : Prop :=
  ∃ (p : Pc) (q : Option Addr) (r : T), e = .returned (.tuple #[p.val, .pointer q]) ∧ TreeAt w' q r ∧ r.Ok ∧ t.toList = p :: r.toList ∧ Below w.heap.size w w'
def GlueMade (xs : List Pc) (w : World) (e : Ending) (w' : World) : Prop :=
  ∃ (q : Option Addr) (r : T), e = .returned (.pointer q) ∧ TreeAt w' q r ∧ r.Ok ∧ r.toList = xs ∧ Below w.heap.size w w'

set_option maxRecDepth 100000 in
set_option maxHeartbeats 2000000 in
theorem first_a (xr : T) (xp : Pc) (xh : Int) (p : Option Addr) (w : World) (hl : TreeAt w p (T.node .nil xr xp xh)) (okl : (T.node .nil xr xp xh).Ok) :
    Calls Try.prog 118 #[.pointer p] w (FirstMade (T.node .nil xr xp xh) w) := by
  obtain ⟨bx, pxl, pxr, rfl, hkx, hxl, hxr⟩ := hl
  obtain ⟨ltx, cx0, cx1, cx2, cx3, cx4, cx5, cx6, cx7, cx8⟩ := node_cells hkx
  have HXL := hid hxl
  have HXR := hid hxr
  obtain ⟨okxl, okxr, okx⟩ := okl
  have HOK := hid (And.intro okxl okxr)
  have ltx' : bx < w.heap.size + 1 := by omega
  obtain rfl : pxl = none := hxl
  clear hkx hxr okxl okxr okx
  go_enter Try.func118, Try.ntmps118
  go_wp2
  go_region_held3 (fun w' => w'.cell? ⟨bx, 0, none⟩ = some (Value.pointer none) ∧ w'.cell? ⟨bx, 1, none⟩ = some (Value.pointer pxr) ∧ w'.cell? ⟨bx, 2, none⟩ = some (Value.int .i64 xp.from_) ∧ w'.cell? ⟨bx, 3, none⟩ = some (Value.int .i64 xp.to) ∧ w'.cell? ⟨bx, 4, none⟩ = some (Value.int .i64 xp.cell.state) ∧ w'.cell? ⟨bx, 5, none⟩ = some (Value.int .i64 xp.cell.lot) ∧ w'.cell? ⟨bx, 6, none⟩ = some (Value.int .i64 xp.cell.owner) ∧ w'.cell? ⟨bx, 7, none⟩ = some (Value.int .i64 xp.cell.holder) ∧ w'.cell? ⟨bx, 8, none⟩ = some (Value.int .i64 xh)) (go_keep) (first | fail)
  go_wp2
  exact bodyPost_ret (v := .tuple #[xp.val, .pointer pxr]) (by simp [results, Try.results118, go_sem]) rfl ⟨xp, pxr, xr, rfl, HXR.out.below (by repeat (first | exact Below.refl _ _ | assumption | refine Below.drew ?_ | refine below_drewN ?_ _ | refine Below.alloc ?_ (by first | (simp; done) | omega | (simp; omega)) _)), HOK.out.2, rfl, (by repeat (first | exact Below.refl _ _ | assumption | refine Below.drew ?_ | refine below_drewN ?_ _ | refine Below.alloc ?_ (by first | (simp; done) | omega | (simp; omega)) _))⟩

set_option maxRecDepth 100000 in
set_option maxHeartbeats 4000000 in
theorem first_b (yl yr xr : T) (yp xp : Pc) (yh xh : Int) (p : Option Addr) (w : World) (hl : TreeAt w p (T.node (T.node yl yr yp yh) xr xp xh)) (okl : (T.node (T.node yl yr yp yh) xr xp xh).Ok)
    (hb : (T.node (T.node yl yr yp yh) xr xp xh).toList.length ≤ 100000000)
    (ih : ∀ (p : Option Addr) (w : World), TreeAt w p (T.node yl yr yp yh) → Calls Try.prog 118 #[.pointer p] w (FirstMade (T.node yl yr yp yh) w)) :
    Calls Try.prog 118 #[.pointer p] w (FirstMade (T.node (T.node yl yr yp yh) xr xp xh) w) := by
  obtain ⟨bx, pxl, pxr, rfl, hkx, hxl, hxr⟩ := hl
  obtain ⟨ltx, cx0, cx1, cx2, cx3, cx4, cx5, cx6, cx7, cx8⟩ := node_cells hkx
  have HXL := hid hxl
  have HXR := hid hxr
  obtain ⟨okxl, okxr, okx⟩ := okl
  have HOK := hid (And.intro okxl okxr)
  have ltx' : bx < w.heap.size + 1 := by omega
  have HI := hid ih
  obtain ⟨bY, pYl, pYr, hpy, hky, _, _⟩ := hxl
  subst hpy
  have HB := hid hb
  clear ih hkx hky hxr okxl okxr okx
  go_enter Try.func118, Try.ntmps118
  go_wp2_with fail
  refine (HI.out _ _ (HXL.out.below (by repeat (first | exact Below.refl _ _ | assumption | refine Below.drew ?_ | refine below_drewN ?_ _ | refine Below.alloc ?_ (by first | (simp; done) | omega | (simp; omega)) _)))).mono ?_
  rintro e w1 ⟨p1, q1, r1, rfl, ht1, ok1, el1, hw1⟩
  have up1 : Below w.heap.size w w1 := Below.trans (by repeat (first | exact Below.refl _ _ | assumption | refine Below.drew ?_ | refine below_drewN ?_ _ | refine Below.alloc ?_ (by first | (simp; done) | omega | (simp; omega)) _)) (hw1.mono (by simp))
  obtain ⟨hc1, hf1⟩ := bcell hw1
  have lx1 : bx < w1.heap.size := by have := up1.size; omega
  have lo1 : w.heap.size < w1.heap.size := by have := hw1.size; simp at this; omega
  have bd1 : r1.toList.length + xr.toList.length ≤ 100000000 := by
    have := congrArg List.length el1
    simp only [T.toList, List.length_append, List.length_cons] at this hb; omega
  have HO1 := hid ok1
  have HE1 := hid el1
  have HT1 := hid ht1
  clear ok1 el1 ht1
  have UP1 := hid up1
  have nx : bx ≠ w.heap.size := by omega
  have n1 : w1.heap.size ≠ w.heap.size := by omega
  have lx1' : bx < w1.heap.size + 1 := by omega
  have lo1' : w.heap.size < w1.heap.size + 1 := by omega
  go_wp2_with fail
  go_region_held3 (fun w' => w'.cell? ⟨bx, 0, none⟩ = some (Value.pointer (some ⟨bY, 0, none⟩)) ∧ w'.cell? ⟨bx, 1, none⟩ = some (Value.pointer pxr) ∧ w'.cell? ⟨bx, 2, none⟩ = some (Value.int .i64 xp.from_) ∧ w'.cell? ⟨bx, 3, none⟩ = some (Value.int .i64 xp.to) ∧ w'.cell? ⟨bx, 4, none⟩ = some (Value.int .i64 xp.cell.state) ∧ w'.cell? ⟨bx, 5, none⟩ = some (Value.int .i64 xp.cell.lot) ∧ w'.cell? ⟨bx, 6, none⟩ = some (Value.int .i64 xp.cell.owner) ∧ w'.cell? ⟨bx, 7, none⟩ = some (Value.int .i64 xp.cell.holder) ∧ w'.cell? ⟨bx, 8, none⟩ = some (Value.int .i64 xh) ∧ w'.cell? ⟨w1.heap.size, 0, none⟩ = some (Value.int .i64 p1.from_) ∧ w'.cell? ⟨w1.heap.size, 1, none⟩ = some (Value.int .i64 p1.to) ∧ w'.cell? ⟨w1.heap.size, 2, none⟩ = some (Value.int .i64 p1.cell.state) ∧ w'.cell? ⟨w1.heap.size, 3, none⟩ = some (Value.int .i64 p1.cell.lot) ∧ w'.cell? ⟨w1.heap.size, 4, none⟩ = some (Value.int .i64 p1.cell.owner) ∧ w'.cell? ⟨w1.heap.size, 5, none⟩ = some (Value.int .i64 p1.cell.holder)) (first | go_keep | (simp only [setCell_far _ _ _ _ _ _ nx, setCell_far _ _ _ _ _ _ n1]; go_keep))
    (first | ((with_reducible refine (linked_calls r1 xr xp q1 pxr _ (HT1.out.below (by repeat (first | exact Below.refl _ _ | assumption | refine Below.drew ?_ | refine below_drewN ?_ _ | refine Below.alloc ?_ (by first | (simp; done) | omega | (simp; omega)) _))) (HXR.out.below (Below.trans up1 (Below.mono (by repeat (first | exact Below.refl _ _ | assumption | refine Below.drew ?_ | refine below_drewN ?_ _ | refine Below.alloc ?_ (by first | (simp; done) | omega | (simp; omega)) _)) up1.size))) HO1.out HOK.out.2 bd1).mono ?_); rintro e w2 ⟨q2, t2, rfl, ht2, ok2, el2, hw2⟩; have HE2 := hid el2; have HO2 := hid ok2; clear el2 ok2; obtain ⟨hc2, hf2⟩ := bcell hw2))
  go_wp2
  have hB2 : Cells w2 w.heap.size #[.int .i64 0, .int .i64 0, .int .i64 0, .int .i64 0, .int .i64 0, .int .i64 0] 118 := by
    have h0 := Cells.new w #[.int .i64 0, .int .i64 0, .int .i64 0, .int .i64 0, .int .i64 0, .int .i64 0] 118
    exact ((h0.below hw1 (by simp)).alloc _).drew.below hw2 (by simp; omega)
  have hB3 := put6_cells hB2 p1
  obtain ⟨k0, k1, k2, k3, k4, k5⟩ := pc_facts hB3
  have up2 : Below w.heap.size w w2 := up1.trans (Below.trans (by repeat (first | exact Below.refl _ _ | assumption | refine Below.drew ?_ | refine below_drewN ?_ _ | refine Below.alloc ?_ (by first | (simp; done) | omega | (simp; omega)) _)) (hw2.mono (by simp; have := up1.size; omega)))
  refine bodyPost_ret (v := .tuple #[p1.val, .pointer q2]) (by simp [results, Try.results118, go_sem, k0, k1, k2, k3, k4, k5]) rfl ⟨p1, q2, t2, rfl, put6_tree hB2 p1 ht2, HO2.out, ?_, put6_below p1 up2 (Nat.le_refl _)⟩
  rw [HE2.out]
  have := HE1.out
  simp only [T.toList] at this ⊢
  rw [this]
  rfl

/-- **first**. -/
theorem first_calls : ∀ (t : T) (p : Option Addr) (w : World), t ≠ .nil → TreeAt w p t → t.Ok → t.toList.length ≤ 100000000 → Calls Try.prog 118 #[.pointer p] w (FirstMade t w)
  | .nil, _, _, h, _, _, _ => absurd rfl h
  | .node .nil xr xp xh, p, w, _, hl, ok, _ => first_a xr xp xh p w hl ok
  | .node (.node yl yr yp yh) xr xp xh, p, w, _, hl, ok, hb => first_b yl yr xr yp xp yh xh p w hl ok hb
      (fun p' w' h' => first_calls (.node yl yr yp yh) p' w' (by simp) h' ok.1 (by simp only [T.toList, List.length_append, List.length_cons] at hb ⊢; omega))

set_option maxRecDepth 100000 in
set_option maxHeartbeats 2000000 in
/-- **glued**: one list behind the other. -/
theorem glued_calls (l r : T) (pl pr : Option Addr) (w : World) (hl : TreeAt w pl l) (hr : TreeAt w pr r) (okl : l.Ok) (okr : r.Ok)
    (hb : l.toList.length + r.toList.length ≤ 100000000) :
    Calls Try.prog 119 #[.pointer pl, .pointer pr] w (GlueMade (l.toList ++ r.toList) w) := by
  by_cases hn : r = .nil
  · subst hn
    obtain rfl : pr = none := hr
    have HL := hid hl
    clear hl
    go_enter Try.func119, Try.ntmps119
    go_wp2
    go_ret
    exact ⟨pl, l, rfl, HL.out, okl, by simp [T.toList], Below.refl _ _⟩
  · obtain ⟨b, hpr⟩ : ∃ b, pr = some ⟨b, 0, none⟩ := by
      cases r with
      | nil => exact absurd rfl hn
      | node a c d e => obtain ⟨b, _, _, h, _⟩ := hr; exact ⟨b, h⟩
    subst hpr
    have HL := hid hl
    have HR := hid hr
    have HO := hid (And.intro okl okr)
    have HN := hid hn
    clear hl hr okl okr hn
    go_enter Try.func119, Try.ntmps119
    go_wp2_with fail
    refine (first_calls r _ _ HN.out (HR.out.below (by repeat (first | exact Below.refl _ _ | assumption | refine Below.drew ?_ | refine below_drewN ?_ _ | refine Below.alloc ?_ (by first | (simp; done) | omega | (simp; omega)) _))) HO.out.2 (by omega)).mono ?_
    rintro e w1 ⟨p1, q1, r1, rfl, ht1, ok1, el1, hw1⟩
    have up1 : Below w.heap.size w w1 := Below.trans (by repeat (first | exact Below.refl _ _ | assumption | refine Below.drew ?_ | refine below_drewN ?_ _ | refine Below.alloc ?_ (by first | (simp; done) | omega | (simp; omega)) _)) (hw1.mono (by simp))
    have bd1 : l.toList.length + r1.toList.length ≤ 100000000 := by rw [el1] at hb; simp at hb; omega
    have HO1 := hid ok1
    have HE1 := hid el1
    have HT1 := hid ht1
    have UP1 := hid up1
    clear ok1 el1 ht1 up1
    go_wp2_with fail
    refine (linked_calls l r1 p1 pl q1 _ (HL.out.below (Below.trans UP1.out (Below.mono (by repeat (first | exact Below.refl _ _ | assumption | refine Below.drew ?_ | refine below_drewN ?_ _ | refine Below.alloc ?_ (by first | (simp; done) | omega | (simp; omega)) _)) UP1.out.size))) (HT1.out.below (by repeat (first | exact Below.refl _ _ | assumption | refine Below.drew ?_ | refine below_drewN ?_ _ | refine Below.alloc ?_ (by first | (simp; done) | omega | (simp; omega)) _))) HO.out.1 HO1.out bd1).mono ?_
    rintro e w2 ⟨q2, t2, rfl, ht2, ok2, el2, hw2⟩
    have HE2 := hid el2
    clear el2
    go_wp2
    go_ret
    exact ⟨q2, t2, rfl, ht2, ok2, by rw [HE2.out, HE1.out], UP1.out.trans (Below.trans (Below.mono (by repeat (first | exact Below.refl _ _ | assumption | refine Below.drew ?_ | refine below_drewN ?_ _ | refine Below.alloc ?_ (by first | (simp; done) | omega | (simp; omega)) _)) UP1.out.size) (hw2.mono (by simp; have := UP1.out.size; omega)))⟩
end Go.Proofs.Ytnnbdjfeagcbdaa
