/- joined: two trees, one after the other; split: the pockets below a number, and those from it on. -/
import Derived.Test.YtnnbdjfeagcbdaaJTree5
namespace Go.Proofs.Ytnnbdjfeagcbdaa
set_option linter.unusedSimpArgs false
set_option linter.unusedVariables false
open Go.RowKit
attribute [local go_sem ↓] Go.wp_at_zero Go.wp_at_succ

theorem nil_ok : T.nil.Ok := trivial
def joinP (l : List Pc) : List Pc → List Pc
  | [] => l
  | p :: r => appP l p ++ r
theorem TreeAt.some {w : World} {t : T} {p : Option Addr} (h : TreeAt w p t) (hn : t ≠ .nil) : ∃ b, p = some ⟨b, 0, none⟩ := by
  cases t with
  | nil => exact absurd rfl hn
  | node a c d e => obtain ⟨b, _, _, h, _⟩ := h; exact ⟨b, h⟩

set_option maxRecDepth 100000 in
set_option maxHeartbeats 2000000 in
theorem joined_calls (l r : T) (pl pr : Option Addr) (w : World) (hl : TreeAt w pl l) (hr : TreeAt w pr r) (okl : l.Ok) (okr : r.Ok)
    (hb : l.toList.length + r.toList.length ≤ 80000000) (hq : ∀ q ∈ l.toList, 0 ≤ q.to ∧ q.to ≤ 1000000000) :
    Calls Try.prog 113 #[.pointer pl, .pointer pr] w (GlueMade (joinP l.toList r.toList) w) := by
  have HL := hid hl
  have HR := hid hr
  have HO := hid (And.intro okl okr)
  have HQ := hid hq
  by_cases hn : l = .nil
  · subst hn
    obtain rfl : pl = none := hl
    clear hr okl okr hq
    go_enter Try.func113, Try.ntmps113
    go_wp2
    go_ret
    exact ⟨pr, r, rfl, HR.out, HO.out.2, by cases r.toList <;> simp [T.toList, joinP, appP], Below.refl _ _⟩
  · obtain ⟨b, hpl⟩ := hl.some hn
    subst hpl
    by_cases hm : r = .nil
    · subst hm
      obtain rfl : pr = none := hr
      clear hl okl okr hq hn
      go_enter Try.func113, Try.ntmps113
      go_wp2
      go_ret
      exact ⟨_, l, rfl, HL.out, HO.out.1, by simp [T.toList, joinP], Below.refl _ _⟩
    · obtain ⟨c, hpr⟩ := hr.some hm
      subst hpr
      have HM := hid hm
      clear hl hr okl okr hq hn hm
      go_enter Try.func113, Try.ntmps113
      go_wp2_with fail
      refine (first_calls r _ _ HM.out HR.out HO.out.2 (by omega)).mono ?_
      rintro e w1 ⟨p1, q1, r1, rfl, ht1, ok1, el1, hw1⟩
      have bd1 : (appP l.toList p1).length + r1.toList.length ≤ 100000000 := by rw [el1] at hb; have := appP_length l.toList p1; simp at hb; omega
      have HO1 := hid ok1
      have HE1 := hid el1
      have HT1 := hid ht1
      clear ok1 el1 ht1
      go_wp2_with fail
      refine (appended_calls l p1 _ _ (HL.out.below (Below.trans hw1 (Below.mono (by repeat (first | exact Below.refl _ _ | assumption | refine Below.drew ?_ | refine below_drewN ?_ _ | refine Below.alloc ?_ (by first | (simp; done) | omega | (simp; omega)) _)) hw1.size))) HO.out.1 (by omega) HQ.out).mono ?_
      rintro e w2 ⟨q2, t2, rfl, ht2, ok2, el2, hw2⟩
      have up2 : Below w.heap.size w w2 := hw1.trans (Below.trans (Below.mono (by repeat (first | exact Below.refl _ _ | assumption | refine Below.drew ?_ | refine below_drewN ?_ _ | refine Below.alloc ?_ (by first | (simp; done) | omega | (simp; omega)) _)) hw1.size) (hw2.mono (by simp; have := hw1.size; omega)))
      have HU := hid up2
      have HE2 := hid el2
      have HT2 := hid ht2
      have HW2 := hid hw2
      clear el2 ht2 up2
      go_wp2_with fail
      refine (glued_calls t2 r1 q2 q1 _ HT2.out (HT1.out.below (Below.trans (Below.alloc (Below.refl _ _) (Nat.le_refl _) _) (HW2.out.mono (by simp)))) ok2 HO1.out (by rw [HE2.out]; exact bd1)).mono ?_
      rintro e w3 ⟨q3, t3, rfl, ht3, ok3, el3, hw3⟩
      have HE3 := hid el3
      clear el3
      go_wp2
      go_ret
      exact ⟨q3, t3, rfl, ht3, ok3, by rw [HE3.out, HE2.out, HE1.out]; rfl, HU.out.trans (hw3.mono HU.out.size)⟩

def splitT : T → Int → List Pc × List Pc
  | .nil, _ => ([], [])
  | .node l r p _, a => if a ≤ p.from_ then ((splitT l a).1, (splitT l a).2 ++ p :: r.toList)
      else if p.to < a then (l.toList ++ p :: (splitT r a).1, (splitT r a).2)
      else (l.toList ++ [⟨p.from_, a - 1, p.cell⟩], ⟨a, p.to, p.cell⟩ :: r.toList)
theorem splitT_length (t : T) (a : Int) : (splitT t a).1.length ≤ t.toList.length + 1 ∧ (splitT t a).2.length ≤ t.toList.length + 1 := by
  induction t with
  | nil => simp [splitT]
  | node l r p h ihl ihr =>
    unfold splitT
    split
    · simp [T.toList]; omega
    · split <;> simp [T.toList] <;> omega
def SplitMade (t : T) (a : Int) (w : World) (e : Ending) (w' : World) : Prop :=
  ∃ (q1 q2 : Option Addr) (t1 t2 : T), e = .returned (.tuple #[.pointer q1, .pointer q2]) ∧ TreeAt w' q1 t1 ∧ TreeAt w' q2 t2 ∧ t1.Ok ∧ t2.Ok ∧ t1.toList = (splitT t a).1 ∧ t2.toList = (splitT t a).2 ∧ Below w.heap.size w w'

set_option maxRecDepth 100000 in
theorem split_n (a : Int) (w : World) : Calls Try.prog 111 #[.pointer none, .int .i64 a] w (SplitMade .nil a w) := by
  go_enter Try.func111, Try.ntmps111
  go_wp2
  go_ret2
  exact ⟨none, none, .nil, .nil, rfl, rfl, rfl, trivial, trivial, rfl, rfl, Below.refl _ _⟩

set_option maxRecDepth 100000 in
set_option maxHeartbeats 4000000 in
theorem split_l (xl xr : T) (xp : Pc) (xh : Int) (a : Int) (p : Option Addr) (w : World) (hl : TreeAt w p (T.node xl xr xp xh)) (okl : (T.node xl xr xp xh).Ok) (hb : (T.node xl xr xp xh).toList.length ≤ 80000000) (ha : 0 ≤ a ∧ a ≤ 1000000000) (h1 : a ≤ xp.from_) (ih : ∀ (p : Option Addr) (w : World), TreeAt w p xl → Calls Try.prog 111 #[.pointer p, .int .i64 a] w (SplitMade xl a w)) :
    Calls Try.prog 111 #[.pointer p, .int .i64 a] w (SplitMade (T.node xl xr xp xh) a w) := by
  obtain ⟨bx, pxl, pxr, rfl, hkx, hxl, hxr⟩ := hl
  obtain ⟨ltx, cx0, cx1, cx2, cx3, cx4, cx5, cx6, cx7, cx8⟩ := node_cells hkx
  have HXL := hid hxl
  have HXR := hid hxr
  obtain ⟨okxl, okxr, okx⟩ := okl
  have HOK := hid (And.intro okxl okxr)
  have ltx' : bx < w.heap.size + 1 := by omega
  have HB := hid hb
  simp only [T.toList, List.length_append, List.length_cons] at hb
  have HI := hid ih
  clear ih hkx hxl hxr okxl okxr okx
  go_enter Try.func111, Try.ntmps111
  go_wp2_with fail
  refine (HI.out _ _ (HXL.out.below (by repeat (first | exact Below.refl _ _ | assumption | refine Below.drew ?_ | refine below_drewN ?_ _ | refine Below.alloc ?_ (by first | (simp; done) | omega | (simp; omega)) _)))).mono ?_
  rintro e w1 ⟨q1, q2, t1, t2, rfl, ht1, ht2, ok1, ok2, el1, el2, hw1⟩
  have bs := splitT_length xl a
  have bd1 : t2.toList.length + xr.toList.length ≤ 100000000 := by rw [el2]; omega
  have HE := hid (And.intro el1 el2)
  have HO1 := hid (And.intro ok1 ok2)
  have HT1 := hid ht1
  have HT2 := hid ht2
  have HS := hid bs
  obtain ⟨hc1, hf1⟩ := bcell hw1
  have HW := hid hw1
  clear el1 el2 ok1 ok2 ht1 ht2 bs hw1
  have lx1 : bx < w1.heap.size := by have := HW.out.size; omega
  go_wp2_with fail
  go_region_held3 (fun w' => w'.cell? ⟨bx, 0, none⟩ = some (Value.pointer pxl) ∧ w'.cell? ⟨bx, 1, none⟩ = some (Value.pointer pxr) ∧ w'.cell? ⟨bx, 2, none⟩ = some (Value.int .i64 xp.from_) ∧ w'.cell? ⟨bx, 3, none⟩ = some (Value.int .i64 xp.to) ∧ w'.cell? ⟨bx, 4, none⟩ = some (Value.int .i64 xp.cell.state) ∧ w'.cell? ⟨bx, 5, none⟩ = some (Value.int .i64 xp.cell.lot) ∧ w'.cell? ⟨bx, 6, none⟩ = some (Value.int .i64 xp.cell.owner) ∧ w'.cell? ⟨bx, 7, none⟩ = some (Value.int .i64 xp.cell.holder) ∧ w'.cell? ⟨bx, 8, none⟩ = some (Value.int .i64 xh)) (go_keep) (first | ((with_reducible refine (linked_calls t2 xr xp q2 pxr _ (HT2.out.below (by repeat (first | exact Below.refl _ _ | assumption | refine Below.drew ?_ | refine below_drewN ?_ _ | refine Below.alloc ?_ (by first | (simp; done) | omega | (simp; omega)) _))) (HXR.out.below (Below.trans HW.out (Below.mono (by repeat (first | exact Below.refl _ _ | assumption | refine Below.drew ?_ | refine below_drewN ?_ _ | refine Below.alloc ?_ (by first | (simp; done) | omega | (simp; omega)) _)) HW.out.size))) HO1.out.2 HOK.out.2 bd1).mono ?_); rintro e w2 ⟨q3, t3, rfl, ht3, ok3, el3, hw3⟩; have HE3 := hid el3; have HW3 := hid hw3; clear el3; have hw4 : Below w1.heap.size w1 w2 := undrew hw3; obtain ⟨hc2, hf2⟩ := bcell hw4))
  go_wp2
  go_ret2
  have e1 : splitT (T.node xl xr xp xh) a = ((splitT xl a).1, (splitT xl a).2 ++ xp :: xr.toList) := by rw [splitT, if_pos h1]
  exact ⟨q1, q3, t1, t3, rfl, HT1.out.below (Below.trans (by repeat (first | exact Below.refl _ _ | assumption | refine Below.drew ?_ | refine below_drewN ?_ _ | refine Below.alloc ?_ (by first | (simp; done) | omega | (simp; omega)) _)) (HW3.out.mono (Nat.le_refl _))), ht3, HO1.out.1, ok3, by rw [e1]; exact HE.out.1, by rw [e1, HE3.out, HE.out.2], HW.out.trans (Below.trans (Below.mono (by repeat (first | exact Below.refl _ _ | assumption | refine Below.drew ?_ | refine below_drewN ?_ _ | refine Below.alloc ?_ (by first | (simp; done) | omega | (simp; omega)) _)) HW.out.size) (HW3.out.mono HW.out.size))⟩

set_option maxRecDepth 100000 in
set_option maxHeartbeats 4000000 in
theorem split_r (xl xr : T) (xp : Pc) (xh : Int) (a : Int) (p : Option Addr) (w : World) (hl : TreeAt w p (T.node xl xr xp xh)) (okl : (T.node xl xr xp xh).Ok) (hb : (T.node xl xr xp xh).toList.length ≤ 80000000) (ha : 0 ≤ a ∧ a ≤ 1000000000) (h1 : xp.from_ < a) (h2 : xp.to < a) (ih : ∀ (p : Option Addr) (w : World), TreeAt w p xr → Calls Try.prog 111 #[.pointer p, .int .i64 a] w (SplitMade xr a w)) :
    Calls Try.prog 111 #[.pointer p, .int .i64 a] w (SplitMade (T.node xl xr xp xh) a w) := by
  obtain ⟨bx, pxl, pxr, rfl, hkx, hxl, hxr⟩ := hl
  obtain ⟨ltx, cx0, cx1, cx2, cx3, cx4, cx5, cx6, cx7, cx8⟩ := node_cells hkx
  have HXL := hid hxl
  have HXR := hid hxr
  obtain ⟨okxl, okxr, okx⟩ := okl
  have HOK := hid (And.intro okxl okxr)
  have ltx' : bx < w.heap.size + 1 := by omega
  have HB := hid hb
  simp only [T.toList, List.length_append, List.length_cons] at hb
  have HI := hid ih
  clear ih hkx hxl hxr okxl okxr okx
  go_enter Try.func111, Try.ntmps111
  go_wp2_with fail
  refine (HI.out _ _ (HXR.out.below (by repeat (first | exact Below.refl _ _ | assumption | refine Below.drew ?_ | refine below_drewN ?_ _ | refine Below.alloc ?_ (by first | (simp; done) | omega | (simp; omega)) _)))).mono ?_
  rintro e w1 ⟨q1, q2, t1, t2, rfl, ht1, ht2, ok1, ok2, el1, el2, hw1⟩
  have bs := splitT_length xr a
  have bd1 : xl.toList.length + t1.toList.length ≤ 100000000 := by rw [el1]; omega
  have HE := hid (And.intro el1 el2)
  have HO1 := hid (And.intro ok1 ok2)
  have HT1 := hid ht1
  have HT2 := hid ht2
  have HS := hid bs
  obtain ⟨hc1, hf1⟩ := bcell hw1
  have HW := hid hw1
  clear el1 el2 ok1 ok2 ht1 ht2 bs hw1
  have lx1 : bx < w1.heap.size := by have := HW.out.size; omega
  go_wp2_with fail
  go_region_held3 (fun w' => w'.cell? ⟨bx, 0, none⟩ = some (Value.pointer pxl) ∧ w'.cell? ⟨bx, 1, none⟩ = some (Value.pointer pxr) ∧ w'.cell? ⟨bx, 2, none⟩ = some (Value.int .i64 xp.from_) ∧ w'.cell? ⟨bx, 3, none⟩ = some (Value.int .i64 xp.to) ∧ w'.cell? ⟨bx, 4, none⟩ = some (Value.int .i64 xp.cell.state) ∧ w'.cell? ⟨bx, 5, none⟩ = some (Value.int .i64 xp.cell.lot) ∧ w'.cell? ⟨bx, 6, none⟩ = some (Value.int .i64 xp.cell.owner) ∧ w'.cell? ⟨bx, 7, none⟩ = some (Value.int .i64 xp.cell.holder) ∧ w'.cell? ⟨bx, 8, none⟩ = some (Value.int .i64 xh)) (go_keep) (first | ((with_reducible refine (linked_calls xl t1 xp pxl q1 _ (HXL.out.below (Below.trans HW.out (Below.mono (by repeat (first | exact Below.refl _ _ | assumption | refine Below.drew ?_ | refine below_drewN ?_ _ | refine Below.alloc ?_ (by first | (simp; done) | omega | (simp; omega)) _)) HW.out.size))) (HT1.out.below (by repeat (first | exact Below.refl _ _ | assumption | refine Below.drew ?_ | refine below_drewN ?_ _ | refine Below.alloc ?_ (by first | (simp; done) | omega | (simp; omega)) _))) HOK.out.1 HO1.out.1 bd1).mono ?_); rintro e w2 ⟨q3, t3, rfl, ht3, ok3, el3, hw3⟩; have HE3 := hid el3; have HW3 := hid hw3; clear el3; have hw4 : Below w1.heap.size w1 w2 := undrew hw3; obtain ⟨hc2, hf2⟩ := bcell hw4))
  go_wp2
  go_ret2
  have e1 : splitT (T.node xl xr xp xh) a = (xl.toList ++ xp :: (splitT xr a).1, (splitT xr a).2) := by rw [splitT, if_neg (by omega), if_pos h2]
  exact ⟨q3, q2, t3, t2, rfl, ht3, HT2.out.below (Below.trans (by repeat (first | exact Below.refl _ _ | assumption | refine Below.drew ?_ | refine below_drewN ?_ _ | refine Below.alloc ?_ (by first | (simp; done) | omega | (simp; omega)) _)) (HW3.out.mono (Nat.le_refl _))), ok3, HO1.out.2, by rw [e1, HE3.out, HE.out.1], by rw [e1]; exact HE.out.2, HW.out.trans (Below.trans (Below.mono (by repeat (first | exact Below.refl _ _ | assumption | refine Below.drew ?_ | refine below_drewN ?_ _ | refine Below.alloc ?_ (by first | (simp; done) | omega | (simp; omega)) _)) HW.out.size) (HW3.out.mono HW.out.size))⟩

set_option maxRecDepth 100000 in
set_option maxHeartbeats 4000000 in
theorem split_m (xl xr : T) (xp : Pc) (xh : Int) (a : Int) (p : Option Addr) (w : World) (hl : TreeAt w p (T.node xl xr xp xh)) (okl : (T.node xl xr xp xh).Ok) (hb : (T.node xl xr xp xh).toList.length ≤ 80000000) (ha : 0 ≤ a ∧ a ≤ 1000000000) (h1 : xp.from_ < a) (h2 : a ≤ xp.to) :
    Calls Try.prog 111 #[.pointer p, .int .i64 a] w (SplitMade (T.node xl xr xp xh) a w) := by
  obtain ⟨bx, pxl, pxr, rfl, hkx, hxl, hxr⟩ := hl
  obtain ⟨ltx, cx0, cx1, cx2, cx3, cx4, cx5, cx6, cx7, cx8⟩ := node_cells hkx
  have HXL := hid hxl
  have HXR := hid hxr
  obtain ⟨okxl, okxr, okx⟩ := okl
  have HOK := hid (And.intro okxl okxr)
  have ltx' : bx < w.heap.size + 1 := by omega
  have HB := hid hb
  simp only [T.toList, List.length_append, List.length_cons] at hb
  clear hkx hxl hxr okxl okxr okx
  go_enter Try.func111, Try.ntmps111
  have ltx2 : bx < w.heap.size + 1 + 1 := by omega
  have lw2 : w.heap.size < w.heap.size + 1 + 1 := by omega
  have hwa : IntKind.i64.wrap (a - 1) = a - 1 := IntWalk.i64_in _ (by omega)
  have b1 : xl.toList.length + T.nil.toList.length ≤ 100000000 := by simp [T.toList]; omega
  have b2 : T.nil.toList.length + xr.toList.length ≤ 100000000 := by simp [T.toList]; omega
  go_wp2
  go_region_held3 (fun w' => w'.cell? ⟨bx, 0, none⟩ = some (Value.pointer pxl) ∧ w'.cell? ⟨bx, 1, none⟩ = some (Value.pointer pxr) ∧ w'.cell? ⟨bx, 2, none⟩ = some (Value.int .i64 xp.from_) ∧ w'.cell? ⟨bx, 3, none⟩ = some (Value.int .i64 xp.to) ∧ w'.cell? ⟨bx, 4, none⟩ = some (Value.int .i64 xp.cell.state) ∧ w'.cell? ⟨bx, 5, none⟩ = some (Value.int .i64 xp.cell.lot) ∧ w'.cell? ⟨bx, 6, none⟩ = some (Value.int .i64 xp.cell.owner) ∧ w'.cell? ⟨bx, 7, none⟩ = some (Value.int .i64 xp.cell.holder) ∧ w'.cell? ⟨bx, 8, none⟩ = some (Value.int .i64 xh)) (go_keep) (first | fail)
  · go_wp2
    go_region_held3 (fun w' => w'.cell? ⟨bx, 0, none⟩ = some (Value.pointer pxl) ∧ w'.cell? ⟨bx, 1, none⟩ = some (Value.pointer pxr) ∧ w'.cell? ⟨bx, 2, none⟩ = some (Value.int .i64 xp.from_) ∧ w'.cell? ⟨bx, 3, none⟩ = some (Value.int .i64 xp.to) ∧ w'.cell? ⟨bx, 4, none⟩ = some (Value.int .i64 xp.cell.state) ∧ w'.cell? ⟨bx, 5, none⟩ = some (Value.int .i64 xp.cell.lot) ∧ w'.cell? ⟨bx, 6, none⟩ = some (Value.int .i64 xp.cell.owner) ∧ w'.cell? ⟨bx, 7, none⟩ = some (Value.int .i64 xp.cell.holder) ∧ w'.cell? ⟨bx, 8, none⟩ = some (Value.int .i64 xh) ∧ w'.cell? ⟨w.heap.size, 0, none⟩ = some (Value.int .i64 (xp.from_)) ∧ w'.cell? ⟨w.heap.size, 1, none⟩ = some (Value.int .i64 (a - 1)) ∧ w'.cell? ⟨w.heap.size, 2, none⟩ = some (Value.int .i64 xp.cell.state) ∧ w'.cell? ⟨w.heap.size, 3, none⟩ = some (Value.int .i64 xp.cell.lot) ∧ w'.cell? ⟨w.heap.size, 4, none⟩ = some (Value.int .i64 xp.cell.owner) ∧ w'.cell? ⟨w.heap.size, 5, none⟩ = some (Value.int .i64 xp.cell.holder) ∧ w'.cell? ⟨w.heap.size + 1, 0, none⟩ = some (Value.int .i64 (a)) ∧ w'.cell? ⟨w.heap.size + 1, 1, none⟩ = some (Value.int .i64 (xp.to)) ∧ w'.cell? ⟨w.heap.size + 1, 2, none⟩ = some (Value.int .i64 xp.cell.state) ∧ w'.cell? ⟨w.heap.size + 1, 3, none⟩ = some (Value.int .i64 xp.cell.lot) ∧ w'.cell? ⟨w.heap.size + 1, 4, none⟩ = some (Value.int .i64 xp.cell.owner) ∧ w'.cell? ⟨w.heap.size + 1, 5, none⟩ = some (Value.int .i64 xp.cell.holder)) (go_keep) (first | ((with_reducible refine (linked_calls xl .nil ⟨xp.from_, a - 1, xp.cell⟩ pxl none _ (HXL.out.below (by repeat (first | exact Below.refl _ _ | assumption | refine Below.drew ?_ | refine below_drewN ?_ _ | refine Below.alloc ?_ (by first | (simp; done) | omega | (simp; omega)) _))) (tree_nil _) HOK.out.1 nil_ok b1).mono ?_); rintro e w1 ⟨q1, t1, rfl, ht1, ok1, el1, hw1⟩; have HE1 := hid el1; have HW1 := hid hw1; clear el1; obtain ⟨hc1, hf1⟩ := bcell hw1; have lx1 : bx < w1.heap.size := (by have := hw1.size; (try simp at this); omega); have lo1 : w.heap.size + 1 < w1.heap.size := (by have := hw1.size; (try simp at this); omega); have lp1 : w.heap.size < w1.heap.size := (by omega); have up1 : Below w.heap.size w w1 := Below.trans (by repeat (first | exact Below.refl _ _ | assumption | refine Below.drew ?_ | refine below_drewN ?_ _ | refine Below.alloc ?_ (by first | (simp; done) | omega | (simp; omega)) _)) (hw1.mono (by simp; omega))) | ((with_reducible refine (linked_calls .nil xr ⟨a, xp.to, xp.cell⟩ none pxr _ (tree_nil _) (HXR.out.below (by repeat (first | exact Below.refl _ _ | assumption | refine Below.drew ?_ | refine below_drewN ?_ _ | refine Below.alloc ?_ (by first | (simp; done) | omega | (simp; omega)) _))) nil_ok HOK.out.2 b2).mono ?_); rintro e w2 ⟨q2, t2, rfl, ht2, ok2, el2, hw2⟩; have HE2 := hid el2; have HW2 := hid hw2; clear el2; obtain ⟨hc2, hf2⟩ := bcell hw2))
    go_wp2
    go_ret2
    have e1 : splitT (T.node xl xr xp xh) a = (xl.toList ++ [⟨xp.from_, a - 1, xp.cell⟩], ⟨a, xp.to, xp.cell⟩ :: xr.toList) := by rw [splitT, if_neg (by omega), if_neg (by omega)]
    exact ⟨q1, q2, t1, t2, rfl, ht1.below (HW2.out.mono (Nat.le_refl _)), ht2, ok1, ok2, by rw [e1, HE1.out]; rfl, by rw [e1, HE2.out]; rfl, up1.trans (HW2.out.mono up1.size)⟩
  · go_wp2
    go_region_held3 (fun w' => w'.cell? ⟨bx, 0, none⟩ = some (Value.pointer pxl) ∧ w'.cell? ⟨bx, 1, none⟩ = some (Value.pointer pxr) ∧ w'.cell? ⟨bx, 2, none⟩ = some (Value.int .i64 xp.from_) ∧ w'.cell? ⟨bx, 3, none⟩ = some (Value.int .i64 xp.to) ∧ w'.cell? ⟨bx, 4, none⟩ = some (Value.int .i64 xp.cell.state) ∧ w'.cell? ⟨bx, 5, none⟩ = some (Value.int .i64 xp.cell.lot) ∧ w'.cell? ⟨bx, 6, none⟩ = some (Value.int .i64 xp.cell.owner) ∧ w'.cell? ⟨bx, 7, none⟩ = some (Value.int .i64 xp.cell.holder) ∧ w'.cell? ⟨bx, 8, none⟩ = some (Value.int .i64 xh) ∧ w'.cell? ⟨w.heap.size + 1, 0, none⟩ = some (Value.int .i64 (xp.from_)) ∧ w'.cell? ⟨w.heap.size + 1, 1, none⟩ = some (Value.int .i64 (a - 1)) ∧ w'.cell? ⟨w.heap.size + 1, 2, none⟩ = some (Value.int .i64 xp.cell.state) ∧ w'.cell? ⟨w.heap.size + 1, 3, none⟩ = some (Value.int .i64 xp.cell.lot) ∧ w'.cell? ⟨w.heap.size + 1, 4, none⟩ = some (Value.int .i64 xp.cell.owner) ∧ w'.cell? ⟨w.heap.size + 1, 5, none⟩ = some (Value.int .i64 xp.cell.holder) ∧ w'.cell? ⟨w.heap.size, 0, none⟩ = some (Value.int .i64 (a)) ∧ w'.cell? ⟨w.heap.size, 1, none⟩ = some (Value.int .i64 (xp.to)) ∧ w'.cell? ⟨w.heap.size, 2, none⟩ = some (Value.int .i64 xp.cell.state) ∧ w'.cell? ⟨w.heap.size, 3, none⟩ = some (Value.int .i64 xp.cell.lot) ∧ w'.cell? ⟨w.heap.size, 4, none⟩ = some (Value.int .i64 xp.cell.owner) ∧ w'.cell? ⟨w.heap.size, 5, none⟩ = some (Value.int .i64 xp.cell.holder)) (go_keep) (first | ((with_reducible refine (linked_calls xl .nil ⟨xp.from_, a - 1, xp.cell⟩ pxl none _ (HXL.out.below (by repeat (first | exact Below.refl _ _ | assumption | refine Below.drew ?_ | refine below_drewN ?_ _ | refine Below.alloc ?_ (by first | (simp; done) | omega | (simp; omega)) _))) (tree_nil _) HOK.out.1 nil_ok b1).mono ?_); rintro e w1 ⟨q1, t1, rfl, ht1, ok1, el1, hw1⟩; have HE1 := hid el1; have HW1 := hid hw1; clear el1; obtain ⟨hc1, hf1⟩ := bcell hw1; have lx1 : bx < w1.heap.size := (by have := hw1.size; (try simp at this); omega); have lo1 : w.heap.size + 1 < w1.heap.size := (by have := hw1.size; (try simp at this); omega); have lp1 : w.heap.size < w1.heap.size := (by omega); have up1 : Below w.heap.size w w1 := Below.trans (by repeat (first | exact Below.refl _ _ | assumption | refine Below.drew ?_ | refine below_drewN ?_ _ | refine Below.alloc ?_ (by first | (simp; done) | omega | (simp; omega)) _)) (hw1.mono (by simp; omega))) | ((with_reducible refine (linked_calls .nil xr ⟨a, xp.to, xp.cell⟩ none pxr _ (tree_nil _) (HXR.out.below (by repeat (first | exact Below.refl _ _ | assumption | refine Below.drew ?_ | refine below_drewN ?_ _ | refine Below.alloc ?_ (by first | (simp; done) | omega | (simp; omega)) _))) nil_ok HOK.out.2 b2).mono ?_); rintro e w2 ⟨q2, t2, rfl, ht2, ok2, el2, hw2⟩; have HE2 := hid el2; have HW2 := hid hw2; clear el2; obtain ⟨hc2, hf2⟩ := bcell hw2))
    go_wp2
    go_ret2
    have e1 : splitT (T.node xl xr xp xh) a = (xl.toList ++ [⟨xp.from_, a - 1, xp.cell⟩], ⟨a, xp.to, xp.cell⟩ :: xr.toList) := by rw [splitT, if_neg (by omega), if_neg (by omega)]
    exact ⟨q1, q2, t1, t2, rfl, ht1.below (HW2.out.mono (Nat.le_refl _)), ht2, ok1, ok2, by rw [e1, HE1.out]; rfl, by rw [e1, HE2.out]; rfl, up1.trans (HW2.out.mono up1.size)⟩

/-- **split**. -/
theorem split_calls : ∀ (t : T) (a : Int) (p : Option Addr) (w : World), TreeAt w p t → t.Ok → t.toList.length ≤ 80000000 → 0 ≤ a ∧ a ≤ 1000000000 →
    Calls Try.prog 111 #[.pointer p, .int .i64 a] w (SplitMade t a w)
  | .nil, a, p, w, hl, _, _, _ => by obtain rfl : p = none := hl; exact split_n a w
  | .node xl xr xp xh, a, p, w, hl, ok, hb, ha => by
    have hb' := hb
    simp only [T.toList, List.length_append, List.length_cons] at hb'
    by_cases h1 : a ≤ xp.from_
    · exact split_l xl xr xp xh a p w hl ok hb ha h1 (fun p' w' h' => split_calls xl a p' w' h' ok.1 (by omega) ha)
    · by_cases h2 : xp.to < a
      · exact split_r xl xr xp xh a p w hl ok hb ha (by omega) h2 (fun p' w' h' => split_calls xr a p' w' h' ok.2.1 (by omega) ha)
      · exact split_m xl xr xp xh a p w hl ok hb ha (by omega) (by omega)

end Go.Proofs.Ytnnbdjfeagcbdaa
