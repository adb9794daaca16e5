/- balanced: a node for two trees one of which may be two taller. -/
import Derived.Test.YtnnbdjfeagcbdaaTree1
namespace Go.Proofs.Ytnnbdjfeagcbdaa
set_option linter.unusedSimpArgs false
set_option linter.unusedVariables false
open Go.RowKit
attribute [local go_sem ↓] Go.wp_at_zero Go.wp_at_succ

/-- What joining two trees by a piece comes to. -/
def JoinMade (l r : T) (pc : Pc) (w : World) (e : Ending) (w' : World) : Prop :=
  ∃ q t, e = .returned (.pointer q) ∧ TreeAt w' q t ∧ t.Ok ∧ t.toList = l.toList ++ pc :: r.toList ∧ Below w.heap.size w w'

set_option maxRecDepth 100000 in
set_option maxHeartbeats 4000000 in
theorem balanced_c (l r : T) (pc : Pc) (pl pr : Option Addr) (w : World) (hl : TreeAt w pl l) (hr : TreeAt w pr r) (okl : l.Ok) (okr : r.Ok)
    (hb : (l.toList.length + r.toList.length : Nat) ≤ 100000000) (h1 : ¬ r.tall + 1 < l.tall) (h2 : ¬ l.tall + 1 < r.tall) :
    Calls Try.prog 120 #[.pointer pl, pc.val, .pointer pr] w (JoinMade l r pc w) := by
  have b1 := okl.tall_ge
  have b2 := okr.tall_ge
  have b3 := okl.tall_le
  have b4 := okr.tall_le
  have HOL := hid okl
  have HOR := hid okr
  clear okl okr
  have HHL := hid hl
  clear hl
  have HHR := hid hr
  clear hr
  go_enter Try.func120, Try.ntmps120
  go_wp2_with (first | ((with_reducible refine (tall_calls l pl _ (HHL.out.below (by repeat (first | exact Below.refl _ _ | assumption | refine Below.drew ?_ | refine below_drewN ?_ _ | refine Below.alloc ?_ (by simp) _)))).mono ?_); rintro e w1 ⟨rfl, rfl⟩) | ((with_reducible refine (tall_calls r pr _ (HHR.out.below (by repeat (first | exact Below.refl _ _ | assumption | refine Below.drew ?_ | refine below_drewN ?_ _ | refine Below.alloc ?_ (by simp) _)))).mono ?_); rintro e w1 ⟨rfl, rfl⟩) | ((with_reducible refine (node_calls l r pl pr pc _ (HHL.out.below (by repeat (first | exact Below.refl _ _ | assumption | refine Below.drew ?_ | refine below_drewN ?_ _ | refine Below.alloc ?_ (by simp) _))) (HHR.out.below (by repeat (first | exact Below.refl _ _ | assumption | refine Below.drew ?_ | refine below_drewN ?_ _ | refine Below.alloc ?_ (by simp) _))) (by omega) (by omega) (by omega) (by omega)).mono ?_); rintro e w1 ⟨b1, rfl, ht1, hw1, hs1⟩))
  go_ret
  exact ⟨_, _, rfl, ht1, ⟨HOL.out, HOR.out, rfl⟩, rfl, Below.trans (by repeat (first | exact Below.refl _ _ | assumption | refine Below.drew ?_ | refine below_drewN ?_ _ | refine Below.alloc ?_ (by simp) _)) (hw1.mono (by simp))⟩


set_option maxRecDepth 100000 in
set_option maxHeartbeats 4000000 in
theorem balanced_a1 (xl xr o : T) (xp : Pc) (xh : Int) (pc : Pc) (pl pr : Option Addr) (w : World) (hl : TreeAt w pl (T.node xl xr xp xh)) (hr : TreeAt w pr o) (okl : (T.node xl xr xp xh).Ok) (okr : o.Ok)
    (hb : ((T.node xl xr xp xh).toList.length + o.toList.length : Nat) ≤ 100000000) (h1 : o.tall + 1 < (T.node xl xr xp xh).tall) (h2 : xr.tall ≤ xl.tall) :
    Calls Try.prog 120 #[.pointer pl, pc.val, .pointer pr] w (JoinMade (T.node xl xr xp xh) o pc w) := by
  have HB := hid hl
  have HO := hid hr
  obtain ⟨okxl, okxr, okx⟩ := okl
  have oko := okr
  obtain ⟨bx, pxl, pxr, rfl, hkx, hxl, hxr⟩ := hl
  obtain ⟨ltx, cx0, cx1, cx2, cx3, cx4, cx5, cx6, cx7, cx8⟩ := node_cells hkx
  have HXL := hid hxl
  have HXR := hid hxr
  simp only [T.toList, List.length_append, List.length_cons] at hb
  have g0 := okxl.tall_ge
  have k0 := okxl.tall_le
  have g1 := okxr.tall_ge
  have k1 := okxr.tall_le
  have g2 := oko.tall_ge
  have k2 := oko.tall_le
  have HOK := hid (And.intro okxl (And.intro okxr oko))
  have HEX := hid okx
  have OX : xh ≤ 200000001 ∧ 0 ≤ xh := by omega
  have OB : (T.node xl xr xp xh).tall ≤ 200000001 ∧ 0 ≤ (T.node xl xr xp xh).tall := OX
  have ltx' : bx < w.heap.size + 1 := by omega
  clear okxl okxr okx oko hkx hxl hxr hr
  go_enter Try.func120, Try.ntmps120
  go_wp2_with (first | ((with_reducible refine (tall_calls (T.node xl xr xp xh) (some ⟨bx, 0, none⟩) _ (HB.out.below (by repeat (first | exact Below.refl _ _ | assumption | refine Below.drew ?_ | refine below_drewN ?_ _ | refine Below.alloc ?_ (by simp) _)))).mono ?_); rintro e w1 ⟨rfl, rfl⟩) | ((with_reducible refine (tall_calls o pr _ (HO.out.below (by repeat (first | exact Below.refl _ _ | assumption | refine Below.drew ?_ | refine below_drewN ?_ _ | refine Below.alloc ?_ (by simp) _)))).mono ?_); rintro e w1 ⟨rfl, rfl⟩))
  go_quiet ((first | (with_reducible refine Calls.quiet_of_same (tall_calls xr pxr _ (HXR.out.below (by repeat (first | exact Below.refl _ _ | assumption | refine Below.drew ?_ | refine below_drewN ?_ _ | refine Below.alloc ?_ (by simp) _))))) | (with_reducible refine Calls.quiet_of_same (tall_calls xl pxl _ (HXL.out.below (by repeat (first | exact Below.refl _ _ | assumption | refine Below.drew ?_ | refine below_drewN ?_ _ | refine Below.alloc ?_ (by simp) _)))))))
  go_wp2
  go_region_held3 (fun w' => w'.cell? ⟨bx, 0, none⟩ = some (Value.pointer pxl) ∧ w'.cell? ⟨bx, 1, none⟩ = some (Value.pointer pxr) ∧ w'.cell? ⟨bx, 2, none⟩ = some (Value.int .i64 xp.from_) ∧ w'.cell? ⟨bx, 3, none⟩ = some (Value.int .i64 xp.to) ∧ w'.cell? ⟨bx, 4, none⟩ = some (Value.int .i64 xp.cell.state) ∧ w'.cell? ⟨bx, 5, none⟩ = some (Value.int .i64 xp.cell.lot) ∧ w'.cell? ⟨bx, 6, none⟩ = some (Value.int .i64 xp.cell.owner) ∧ w'.cell? ⟨bx, 7, none⟩ = some (Value.int .i64 xp.cell.holder) ∧ w'.cell? ⟨bx, 8, none⟩ = some (Value.int .i64 xh) ∧ w'.cell? ⟨w.heap.size, 0, none⟩ = some (Value.int .i64 pc.from_) ∧ w'.cell? ⟨w.heap.size, 1, none⟩ = some (Value.int .i64 pc.to) ∧ w'.cell? ⟨w.heap.size, 2, none⟩ = some (Value.int .i64 pc.cell.state) ∧ w'.cell? ⟨w.heap.size, 3, none⟩ = some (Value.int .i64 pc.cell.lot) ∧ w'.cell? ⟨w.heap.size, 4, none⟩ = some (Value.int .i64 pc.cell.owner) ∧ w'.cell? ⟨w.heap.size, 5, none⟩ = some (Value.int .i64 pc.cell.holder)) (go_keep) (first | ((with_reducible refine (node_calls xr o pxr pr pc _ (HXR.out.below (by repeat (first | exact Below.refl _ _ | assumption | refine Below.drew ?_ | refine below_drewN ?_ _ | refine Below.alloc ?_ (by simp) _))) (HO.out.below (by repeat (first | exact Below.refl _ _ | assumption | refine Below.drew ?_ | refine below_drewN ?_ _ | refine Below.alloc ?_ (by simp) _))) (by simp only [T.tall] at *; omega) (by simp only [T.tall] at *; omega) (by simp only [T.tall] at *; omega) (by simp only [T.tall] at *; omega)).mono ?_); rintro e w1 ⟨b1, rfl, ht1, hw1, hs1⟩; obtain ⟨hc1, hf1⟩ := bcell hw1; have lx1 : bx < w1.heap.size := (by have := hw1.size; (try simp at this); omega); have up1 : Below w.heap.size w w1 := Below.trans (by repeat (first | exact Below.refl _ _ | assumption | refine Below.drew ?_ | refine below_drewN ?_ _ | refine Below.alloc ?_ (by simp) _)) (hw1.mono (by simp)); have lo1 : w.heap.size < w1.heap.size := (by have := hw1.size; (try simp at this); omega)) | ((with_reducible refine (node_calls xl (T.node xr o pc _) pxl (some ⟨b1, 0, none⟩) xp _ (HXL.out.below (by repeat (first | exact Below.refl _ _ | assumption | refine Below.drew ?_ | refine below_drewN ?_ _ | refine Below.alloc ?_ (by simp) _))) ht1 (by simp only [T.tall] at *; omega) (by simp only [T.tall] at *; omega) (by simp only [T.tall] at *; omega) (by simp only [T.tall] at *; omega)).mono ?_); rintro e w2 ⟨b2, rfl, ht2, hw2, hs2⟩; obtain ⟨hc2, hf2⟩ := bcell hw2; have lx2 : bx < w2.heap.size := (by have := hw2.size; (try simp at this); omega); have up2 : Below w.heap.size w w2 := up1.trans (hw2.mono up1.size); have lo2 : w.heap.size < w2.heap.size := (by have := hw2.size; (try simp at this); omega)))
  go_wp2
  go_ret
  exact ⟨_, _, rfl, ht2, ⟨HOK.out.1, ⟨HOK.out.2.1, HOK.out.2.2, rfl⟩, rfl⟩, by simp [T.toList], up2⟩


set_option maxRecDepth 100000 in
set_option maxHeartbeats 4000000 in
theorem balanced_a2 (xl yl yr o : T) (xp yp : Pc) (xh yh : Int) (pc : Pc) (pl pr : Option Addr) (w : World) (hl : TreeAt w pl (T.node xl (T.node yl yr yp yh) xp xh)) (hr : TreeAt w pr o) (okl : (T.node xl (T.node yl yr yp yh) xp xh).Ok) (okr : o.Ok)
    (hb : ((T.node xl (T.node yl yr yp yh) xp xh).toList.length + o.toList.length : Nat) ≤ 100000000) (h1 : o.tall + 1 < (T.node xl (T.node yl yr yp yh) xp xh).tall) (h2 : xl.tall < (T.node yl yr yp yh).tall) :
    Calls Try.prog 120 #[.pointer pl, pc.val, .pointer pr] w (JoinMade (T.node xl (T.node yl yr yp yh) xp xh) o pc w) := by
  have HB := hid hl
  have HO := hid hr
  obtain ⟨okxl, okxr, okx⟩ := okl
  have oko := okr
  obtain ⟨bx, pxl, pxr, rfl, hkx, hxl, hxr⟩ := hl
  obtain ⟨ltx, cx0, cx1, cx2, cx3, cx4, cx5, cx6, cx7, cx8⟩ := node_cells hkx
  obtain ⟨okyl, okyr, oky⟩ := okxr
  have HXR := hid hxr
  obtain ⟨bY, pYl, pYr, rfl, hky, hyl, hyr⟩ := hxr
  obtain ⟨lty, cy0, cy1, cy2, cy3, cy4, cy5, cy6, cy7, cy8⟩ := node_cells hky
  have HXL := hid hxl
  have HYL := hid hyl
  have HYR := hid hyr
  simp only [T.toList, List.length_append, List.length_cons] at hb
  have g0 := okyl.tall_ge
  have k0 := okyl.tall_le
  have g1 := okyr.tall_ge
  have k1 := okyr.tall_le
  have g2 := okxl.tall_ge
  have k2 := okxl.tall_le
  have g3 := oko.tall_ge
  have k3 := oko.tall_le
  have HOK := hid (And.intro okyl (And.intro okyr (And.intro okxl oko)))
  have HEY := hid oky
  have OY : yh ≤ 200000000 ∧ 0 ≤ yh := by omega
  have HEX := hid okx
  have e1 : (T.node yl yr yp yh).tall = yh := rfl
  have OX : xh ≤ 200000001 ∧ 0 ≤ xh := by omega
  clear e1
  have OB : (T.node xl (T.node yl yr yp yh) xp xh).tall ≤ 200000001 ∧ 0 ≤ (T.node xl (T.node yl yr yp yh) xp xh).tall := OX
  have ltx' : bx < w.heap.size + 1 := by omega
  have lty' : bY < w.heap.size + 1 := by omega
  clear okxl okx oko hkx hxl hr okyl okyr oky hky hyl hyr
  go_enter Try.func120, Try.ntmps120
  go_wp2_with (first | ((with_reducible refine (tall_calls (T.node xl (T.node yl yr yp yh) xp xh) (some ⟨bx, 0, none⟩) _ (HB.out.below (by repeat (first | exact Below.refl _ _ | assumption | refine Below.drew ?_ | refine below_drewN ?_ _ | refine Below.alloc ?_ (by simp) _)))).mono ?_); rintro e w1 ⟨rfl, rfl⟩) | ((with_reducible refine (tall_calls o pr _ (HO.out.below (by repeat (first | exact Below.refl _ _ | assumption | refine Below.drew ?_ | refine below_drewN ?_ _ | refine Below.alloc ?_ (by simp) _)))).mono ?_); rintro e w1 ⟨rfl, rfl⟩))
  go_quiet ((first | (with_reducible refine Calls.quiet_of_same (tall_calls (T.node yl yr yp yh) (some ⟨bY, 0, none⟩) _ (HXR.out.below (by repeat (first | exact Below.refl _ _ | assumption | refine Below.drew ?_ | refine below_drewN ?_ _ | refine Below.alloc ?_ (by simp) _))))) | (with_reducible refine Calls.quiet_of_same (tall_calls xl pxl _ (HXL.out.below (by repeat (first | exact Below.refl _ _ | assumption | refine Below.drew ?_ | refine below_drewN ?_ _ | refine Below.alloc ?_ (by simp) _)))))))
  go_wp2
  go_region_held3 (fun w' => w'.cell? ⟨bx, 0, none⟩ = some (Value.pointer pxl) ∧ w'.cell? ⟨bx, 1, none⟩ = some (Value.pointer (some ⟨bY, 0, none⟩)) ∧ w'.cell? ⟨bx, 2, none⟩ = some (Value.int .i64 xp.from_) ∧ w'.cell? ⟨bx, 3, none⟩ = some (Value.int .i64 xp.to) ∧ w'.cell? ⟨bx, 4, none⟩ = some (Value.int .i64 xp.cell.state) ∧ w'.cell? ⟨bx, 5, none⟩ = some (Value.int .i64 xp.cell.lot) ∧ w'.cell? ⟨bx, 6, none⟩ = some (Value.int .i64 xp.cell.owner) ∧ w'.cell? ⟨bx, 7, none⟩ = some (Value.int .i64 xp.cell.holder) ∧ w'.cell? ⟨bx, 8, none⟩ = some (Value.int .i64 xh) ∧ w'.cell? ⟨w.heap.size, 0, none⟩ = some (Value.int .i64 pc.from_) ∧ w'.cell? ⟨w.heap.size, 1, none⟩ = some (Value.int .i64 pc.to) ∧ w'.cell? ⟨w.heap.size, 2, none⟩ = some (Value.int .i64 pc.cell.state) ∧ w'.cell? ⟨w.heap.size, 3, none⟩ = some (Value.int .i64 pc.cell.lot) ∧ w'.cell? ⟨w.heap.size, 4, none⟩ = some (Value.int .i64 pc.cell.owner) ∧ w'.cell? ⟨w.heap.size, 5, none⟩ = some (Value.int .i64 pc.cell.holder) ∧ w'.cell? ⟨bY, 0, none⟩ = some (Value.pointer pYl) ∧ w'.cell? ⟨bY, 1, none⟩ = some (Value.pointer pYr) ∧ w'.cell? ⟨bY, 2, none⟩ = some (Value.int .i64 yp.from_) ∧ w'.cell? ⟨bY, 3, none⟩ = some (Value.int .i64 yp.to) ∧ w'.cell? ⟨bY, 4, none⟩ = some (Value.int .i64 yp.cell.state) ∧ w'.cell? ⟨bY, 5, none⟩ = some (Value.int .i64 yp.cell.lot) ∧ w'.cell? ⟨bY, 6, none⟩ = some (Value.int .i64 yp.cell.owner) ∧ w'.cell? ⟨bY, 7, none⟩ = some (Value.int .i64 yp.cell.holder) ∧ w'.cell? ⟨bY, 8, none⟩ = some (Value.int .i64 yh)) (go_keep) (first | ((with_reducible refine (node_calls xl yl pxl pYl xp _ (HXL.out.below (by repeat (first | exact Below.refl _ _ | assumption | refine Below.drew ?_ | refine below_drewN ?_ _ | refine Below.alloc ?_ (by simp) _))) (HYL.out.below (by repeat (first | exact Below.refl _ _ | assumption | refine Below.drew ?_ | refine below_drewN ?_ _ | refine Below.alloc ?_ (by simp) _))) (by simp only [T.tall] at *; omega) (by simp only [T.tall] at *; omega) (by simp only [T.tall] at *; omega) (by simp only [T.tall] at *; omega)).mono ?_); rintro e w1 ⟨b1, rfl, ht1, hw1, hs1⟩; obtain ⟨hc1, hf1⟩ := bcell hw1; have lx1 : bx < w1.heap.size := (by have := hw1.size; (try simp at this); omega); have ly1 : bY < w1.heap.size := (by have := hw1.size; (try simp at this); omega); have up1 : Below w.heap.size w w1 := Below.trans (by repeat (first | exact Below.refl _ _ | assumption | refine Below.drew ?_ | refine below_drewN ?_ _ | refine Below.alloc ?_ (by simp) _)) (hw1.mono (by simp)); have lo1 : w.heap.size < w1.heap.size := (by have := hw1.size; (try simp at this); omega)) | ((with_reducible refine (node_calls yr o pYr pr pc _ (HYR.out.below (by repeat (first | exact Below.refl _ _ | assumption | refine Below.drew ?_ | refine below_drewN ?_ _ | refine Below.alloc ?_ (by simp) _))) (HO.out.below (by repeat (first | exact Below.refl _ _ | assumption | refine Below.drew ?_ | refine below_drewN ?_ _ | refine Below.alloc ?_ (by simp) _))) (by simp only [T.tall] at *; omega) (by simp only [T.tall] at *; omega) (by simp only [T.tall] at *; omega) (by simp only [T.tall] at *; omega)).mono ?_); rintro e w2 ⟨b2, rfl, ht2, hw2, hs2⟩; obtain ⟨hc2, hf2⟩ := bcell hw2; have lx2 : bx < w2.heap.size := (by have := hw2.size; (try simp at this); omega); have ly2 : bY < w2.heap.size := (by have := hw2.size; (try simp at this); omega); have up2 : Below w.heap.size w w2 := up1.trans (hw2.mono up1.size); have lo2 : w.heap.size < w2.heap.size := (by have := hw2.size; (try simp at this); omega)) | ((with_reducible refine (node_calls (T.node xl yl xp _) (T.node yr o pc _) (some ⟨b1, 0, none⟩) (some ⟨b2, 0, none⟩) yp _ (ht1.below hw2) ht2 (by simp only [T.tall] at *; omega) (by simp only [T.tall] at *; omega) (by simp only [T.tall] at *; omega) (by simp only [T.tall] at *; omega)).mono ?_); rintro e w3 ⟨b3, rfl, ht3, hw3, hs3⟩; obtain ⟨hc3, hf3⟩ := bcell hw3; have lx3 : bx < w3.heap.size := (by have := hw3.size; (try simp at this); omega); have ly3 : bY < w3.heap.size := (by have := hw3.size; (try simp at this); omega); have up3 : Below w.heap.size w w3 := up2.trans (hw3.mono up2.size); have lo3 : w.heap.size < w3.heap.size := (by have := hw3.size; (try simp at this); omega)))
  go_wp2
  go_ret
  exact ⟨_, _, rfl, ht3, ⟨⟨HOK.out.2.2.1, HOK.out.1, rfl⟩, ⟨HOK.out.2.1, HOK.out.2.2.2, rfl⟩, rfl⟩, by simp [T.toList], up3⟩


set_option maxRecDepth 100000 in
set_option maxHeartbeats 4000000 in
theorem balanced_b1 (xl xr o : T) (xp : Pc) (xh : Int) (pc : Pc) (pl pr : Option Addr) (w : World) (hl : TreeAt w pl o) (hr : TreeAt w pr (T.node xl xr xp xh)) (okl : o.Ok) (okr : (T.node xl xr xp xh).Ok)
    (hb : (o.toList.length + (T.node xl xr xp xh).toList.length : Nat) ≤ 100000000) (h1 : o.tall + 1 < (T.node xl xr xp xh).tall) (h2 : xl.tall ≤ xr.tall) :
    Calls Try.prog 120 #[.pointer pl, pc.val, .pointer pr] w (JoinMade o (T.node xl xr xp xh) pc w) := by
  have HB := hid hr
  have HO := hid hl
  obtain ⟨okxl, okxr, okx⟩ := okr
  have oko := okl
  obtain ⟨bx, pxl, pxr, rfl, hkx, hxl, hxr⟩ := hr
  obtain ⟨ltx, cx0, cx1, cx2, cx3, cx4, cx5, cx6, cx7, cx8⟩ := node_cells hkx
  have HXL := hid hxl
  have HXR := hid hxr
  simp only [T.toList, List.length_append, List.length_cons] at hb
  have g0 := okxl.tall_ge
  have k0 := okxl.tall_le
  have g1 := okxr.tall_ge
  have k1 := okxr.tall_le
  have g2 := oko.tall_ge
  have k2 := oko.tall_le
  have HOK := hid (And.intro okxl (And.intro okxr oko))
  have HEX := hid okx
  have OX : xh ≤ 200000001 ∧ 0 ≤ xh := by omega
  have OB : (T.node xl xr xp xh).tall ≤ 200000001 ∧ 0 ≤ (T.node xl xr xp xh).tall := OX
  have ltx' : bx < w.heap.size + 1 := by omega
  have h3 : ¬ (T.node xl xr xp xh).tall + 1 < o.tall := by omega
  clear okxl okxr okx oko hkx hxl hxr hl
  go_enter Try.func120, Try.ntmps120
  go_wp2_with (first | ((with_reducible refine (tall_calls (T.node xl xr xp xh) (some ⟨bx, 0, none⟩) _ (HB.out.below (by repeat (first | exact Below.refl _ _ | assumption | refine Below.drew ?_ | refine below_drewN ?_ _ | refine Below.alloc ?_ (by simp) _)))).mono ?_); rintro e w1 ⟨rfl, rfl⟩) | ((with_reducible refine (tall_calls o pl _ (HO.out.below (by repeat (first | exact Below.refl _ _ | assumption | refine Below.drew ?_ | refine below_drewN ?_ _ | refine Below.alloc ?_ (by simp) _)))).mono ?_); rintro e w1 ⟨rfl, rfl⟩))
  go_quiet ((first | (with_reducible refine Calls.quiet_of_same (tall_calls xl pxl _ (HXL.out.below (by repeat (first | exact Below.refl _ _ | assumption | refine Below.drew ?_ | refine below_drewN ?_ _ | refine Below.alloc ?_ (by simp) _))))) | (with_reducible refine Calls.quiet_of_same (tall_calls xr pxr _ (HXR.out.below (by repeat (first | exact Below.refl _ _ | assumption | refine Below.drew ?_ | refine below_drewN ?_ _ | refine Below.alloc ?_ (by simp) _)))))))
  go_wp2
  go_region_held3 (fun w' => w'.cell? ⟨bx, 0, none⟩ = some (Value.pointer pxl) ∧ w'.cell? ⟨bx, 1, none⟩ = some (Value.pointer pxr) ∧ w'.cell? ⟨bx, 2, none⟩ = some (Value.int .i64 xp.from_) ∧ w'.cell? ⟨bx, 3, none⟩ = some (Value.int .i64 xp.to) ∧ w'.cell? ⟨bx, 4, none⟩ = some (Value.int .i64 xp.cell.state) ∧ w'.cell? ⟨bx, 5, none⟩ = some (Value.int .i64 xp.cell.lot) ∧ w'.cell? ⟨bx, 6, none⟩ = some (Value.int .i64 xp.cell.owner) ∧ w'.cell? ⟨bx, 7, none⟩ = some (Value.int .i64 xp.cell.holder) ∧ w'.cell? ⟨bx, 8, none⟩ = some (Value.int .i64 xh) ∧ w'.cell? ⟨w.heap.size, 0, none⟩ = some (Value.int .i64 pc.from_) ∧ w'.cell? ⟨w.heap.size, 1, none⟩ = some (Value.int .i64 pc.to) ∧ w'.cell? ⟨w.heap.size, 2, none⟩ = some (Value.int .i64 pc.cell.state) ∧ w'.cell? ⟨w.heap.size, 3, none⟩ = some (Value.int .i64 pc.cell.lot) ∧ w'.cell? ⟨w.heap.size, 4, none⟩ = some (Value.int .i64 pc.cell.owner) ∧ w'.cell? ⟨w.heap.size, 5, none⟩ = some (Value.int .i64 pc.cell.holder)) (go_keep) (first | ((with_reducible refine (node_calls o xl pl pxl pc _ (HO.out.below (by repeat (first | exact Below.refl _ _ | assumption | refine Below.drew ?_ | refine below_drewN ?_ _ | refine Below.alloc ?_ (by simp) _))) (HXL.out.below (by repeat (first | exact Below.refl _ _ | assumption | refine Below.drew ?_ | refine below_drewN ?_ _ | refine Below.alloc ?_ (by simp) _))) (by simp only [T.tall] at *; omega) (by simp only [T.tall] at *; omega) (by simp only [T.tall] at *; omega) (by simp only [T.tall] at *; omega)).mono ?_); rintro e w1 ⟨b1, rfl, ht1, hw1, hs1⟩; obtain ⟨hc1, hf1⟩ := bcell hw1; have lx1 : bx < w1.heap.size := (by have := hw1.size; (try simp at this); omega); have up1 : Below w.heap.size w w1 := Below.trans (by repeat (first | exact Below.refl _ _ | assumption | refine Below.drew ?_ | refine below_drewN ?_ _ | refine Below.alloc ?_ (by simp) _)) (hw1.mono (by simp)); have lo1 : w.heap.size < w1.heap.size := (by have := hw1.size; (try simp at this); omega)) | ((with_reducible refine (node_calls (T.node o xl pc _) xr (some ⟨b1, 0, none⟩) pxr xp _ ht1 (HXR.out.below (by repeat (first | exact Below.refl _ _ | assumption | refine Below.drew ?_ | refine below_drewN ?_ _ | refine Below.alloc ?_ (by simp) _))) (by simp only [T.tall] at *; omega) (by simp only [T.tall] at *; omega) (by simp only [T.tall] at *; omega) (by simp only [T.tall] at *; omega)).mono ?_); rintro e w2 ⟨b2, rfl, ht2, hw2, hs2⟩; obtain ⟨hc2, hf2⟩ := bcell hw2; have lx2 : bx < w2.heap.size := (by have := hw2.size; (try simp at this); omega); have up2 : Below w.heap.size w w2 := up1.trans (hw2.mono up1.size); have lo2 : w.heap.size < w2.heap.size := (by have := hw2.size; (try simp at this); omega)))
  go_wp2
  go_ret
  exact ⟨_, _, rfl, ht2, ⟨⟨HOK.out.2.2, HOK.out.1, rfl⟩, HOK.out.2.1, rfl⟩, by simp [T.toList], up2⟩


set_option maxRecDepth 100000 in
set_option maxHeartbeats 4000000 in
theorem balanced_b2 (xr yl yr o : T) (xp yp : Pc) (xh yh : Int) (pc : Pc) (pl pr : Option Addr) (w : World) (hl : TreeAt w pl o) (hr : TreeAt w pr (T.node (T.node yl yr yp yh) xr xp xh)) (okl : o.Ok) (okr : (T.node (T.node yl yr yp yh) xr xp xh).Ok)
    (hb : (o.toList.length + (T.node (T.node yl yr yp yh) xr xp xh).toList.length : Nat) ≤ 100000000) (h1 : o.tall + 1 < (T.node (T.node yl yr yp yh) xr xp xh).tall) (h2 : xr.tall < (T.node yl yr yp yh).tall) :
    Calls Try.prog 120 #[.pointer pl, pc.val, .pointer pr] w (JoinMade o (T.node (T.node yl yr yp yh) xr xp xh) pc w) := by
  have HB := hid hr
  have HO := hid hl
  obtain ⟨okxl, okxr, okx⟩ := okr
  have oko := okl
  obtain ⟨bx, pxl, pxr, rfl, hkx, hxl, hxr⟩ := hr
  obtain ⟨ltx, cx0, cx1, cx2, cx3, cx4, cx5, cx6, cx7, cx8⟩ := node_cells hkx
  obtain ⟨okyl, okyr, oky⟩ := okxl
  have HXL := hid hxl
  obtain ⟨bY, pYl, pYr, rfl, hky, hyl, hyr⟩ := hxl
  obtain ⟨lty, cy0, cy1, cy2, cy3, cy4, cy5, cy6, cy7, cy8⟩ := node_cells hky
  have HXR := hid hxr
  have HYL := hid hyl
  have HYR := hid hyr
  simp only [T.toList, List.length_append, List.length_cons] at hb
  have g0 := okyl.tall_ge
  have k0 := okyl.tall_le
  have g1 := okyr.tall_ge
  have k1 := okyr.tall_le
  have g2 := okxr.tall_ge
  have k2 := okxr.tall_le
  have g3 := oko.tall_ge
  have k3 := oko.tall_le
  have HOK := hid (And.intro okyl (And.intro okyr (And.intro okxr oko)))
  have HEY := hid oky
  have OY : yh ≤ 200000000 ∧ 0 ≤ yh := by omega
  have HEX := hid okx
  have e1 : (T.node yl yr yp yh).tall = yh := rfl
  have OX : xh ≤ 200000001 ∧ 0 ≤ xh := by omega
  clear e1
  have OB : (T.node (T.node yl yr yp yh) xr xp xh).tall ≤ 200000001 ∧ 0 ≤ (T.node (T.node yl yr yp yh) xr xp xh).tall := OX
  have ltx' : bx < w.heap.size + 1 := by omega
  have lty' : bY < w.heap.size + 1 := by omega
  have h3 : ¬ (T.node (T.node yl yr yp yh) xr xp xh).tall + 1 < o.tall := by omega
  clear okxr okx oko hkx hxr hl okyl okyr oky hky hyl hyr
  go_enter Try.func120, Try.ntmps120
  go_wp2_with (first | ((with_reducible refine (tall_calls (T.node (T.node yl yr yp yh) xr xp xh) (some ⟨bx, 0, none⟩) _ (HB.out.below (by repeat (first | exact Below.refl _ _ | assumption | refine Below.drew ?_ | refine below_drewN ?_ _ | refine Below.alloc ?_ (by simp) _)))).mono ?_); rintro e w1 ⟨rfl, rfl⟩) | ((with_reducible refine (tall_calls o pl _ (HO.out.below (by repeat (first | exact Below.refl _ _ | assumption | refine Below.drew ?_ | refine below_drewN ?_ _ | refine Below.alloc ?_ (by simp) _)))).mono ?_); rintro e w1 ⟨rfl, rfl⟩))
  go_quiet ((first | (with_reducible refine Calls.quiet_of_same (tall_calls (T.node yl yr yp yh) (some ⟨bY, 0, none⟩) _ (HXL.out.below (by repeat (first | exact Below.refl _ _ | assumption | refine Below.drew ?_ | refine below_drewN ?_ _ | refine Below.alloc ?_ (by simp) _))))) | (with_reducible refine Calls.quiet_of_same (tall_calls xr pxr _ (HXR.out.below (by repeat (first | exact Below.refl _ _ | assumption | refine Below.drew ?_ | refine below_drewN ?_ _ | refine Below.alloc ?_ (by simp) _)))))))
  go_wp2
  go_region_held3 (fun w' => w'.cell? ⟨bx, 0, none⟩ = some (Value.pointer (some ⟨bY, 0, none⟩)) ∧ w'.cell? ⟨bx, 1, none⟩ = some (Value.pointer pxr) ∧ w'.cell? ⟨bx, 2, none⟩ = some (Value.int .i64 xp.from_) ∧ w'.cell? ⟨bx, 3, none⟩ = some (Value.int .i64 xp.to) ∧ w'.cell? ⟨bx, 4, none⟩ = some (Value.int .i64 xp.cell.state) ∧ w'.cell? ⟨bx, 5, none⟩ = some (Value.int .i64 xp.cell.lot) ∧ w'.cell? ⟨bx, 6, none⟩ = some (Value.int .i64 xp.cell.owner) ∧ w'.cell? ⟨bx, 7, none⟩ = some (Value.int .i64 xp.cell.holder) ∧ w'.cell? ⟨bx, 8, none⟩ = some (Value.int .i64 xh) ∧ w'.cell? ⟨w.heap.size, 0, none⟩ = some (Value.int .i64 pc.from_) ∧ w'.cell? ⟨w.heap.size, 1, none⟩ = some (Value.int .i64 pc.to) ∧ w'.cell? ⟨w.heap.size, 2, none⟩ = some (Value.int .i64 pc.cell.state) ∧ w'.cell? ⟨w.heap.size, 3, none⟩ = some (Value.int .i64 pc.cell.lot) ∧ w'.cell? ⟨w.heap.size, 4, none⟩ = some (Value.int .i64 pc.cell.owner) ∧ w'.cell? ⟨w.heap.size, 5, none⟩ = some (Value.int .i64 pc.cell.holder) ∧ w'.cell? ⟨bY, 0, none⟩ = some (Value.pointer pYl) ∧ w'.cell? ⟨bY, 1, none⟩ = some (Value.pointer pYr) ∧ w'.cell? ⟨bY, 2, none⟩ = some (Value.int .i64 yp.from_) ∧ w'.cell? ⟨bY, 3, none⟩ = some (Value.int .i64 yp.to) ∧ w'.cell? ⟨bY, 4, none⟩ = some (Value.int .i64 yp.cell.state) ∧ w'.cell? ⟨bY, 5, none⟩ = some (Value.int .i64 yp.cell.lot) ∧ w'.cell? ⟨bY, 6, none⟩ = some (Value.int .i64 yp.cell.owner) ∧ w'.cell? ⟨bY, 7, none⟩ = some (Value.int .i64 yp.cell.holder) ∧ w'.cell? ⟨bY, 8, none⟩ = some (Value.int .i64 yh)) (go_keep) (first | ((with_reducible refine (node_calls o yl pl pYl pc _ (HO.out.below (by repeat (first | exact Below.refl _ _ | assumption | refine Below.drew ?_ | refine below_drewN ?_ _ | refine Below.alloc ?_ (by simp) _))) (HYL.out.below (by repeat (first | exact Below.refl _ _ | assumption | refine Below.drew ?_ | refine below_drewN ?_ _ | refine Below.alloc ?_ (by simp) _))) (by simp only [T.tall] at *; omega) (by simp only [T.tall] at *; omega) (by simp only [T.tall] at *; omega) (by simp only [T.tall] at *; omega)).mono ?_); rintro e w1 ⟨b1, rfl, ht1, hw1, hs1⟩; obtain ⟨hc1, hf1⟩ := bcell hw1; have lx1 : bx < w1.heap.size := (by have := hw1.size; (try simp at this); omega); have ly1 : bY < w1.heap.size := (by have := hw1.size; (try simp at this); omega); have up1 : Below w.heap.size w w1 := Below.trans (by repeat (first | exact Below.refl _ _ | assumption | refine Below.drew ?_ | refine below_drewN ?_ _ | refine Below.alloc ?_ (by simp) _)) (hw1.mono (by simp)); have lo1 : w.heap.size < w1.heap.size := (by have := hw1.size; (try simp at this); omega)) | ((with_reducible refine (node_calls yr xr pYr pxr xp _ (HYR.out.below (by repeat (first | exact Below.refl _ _ | assumption | refine Below.drew ?_ | refine below_drewN ?_ _ | refine Below.alloc ?_ (by simp) _))) (HXR.out.below (by repeat (first | exact Below.refl _ _ | assumption | refine Below.drew ?_ | refine below_drewN ?_ _ | refine Below.alloc ?_ (by simp) _))) (by simp only [T.tall] at *; omega) (by simp only [T.tall] at *; omega) (by simp only [T.tall] at *; omega) (by simp only [T.tall] at *; omega)).mono ?_); rintro e w2 ⟨b2, rfl, ht2, hw2, hs2⟩; obtain ⟨hc2, hf2⟩ := bcell hw2; have lx2 : bx < w2.heap.size := (by have := hw2.size; (try simp at this); omega); have ly2 : bY < w2.heap.size := (by have := hw2.size; (try simp at this); omega); have up2 : Below w.heap.size w w2 := up1.trans (hw2.mono up1.size); have lo2 : w.heap.size < w2.heap.size := (by have := hw2.size; (try simp at this); omega)) | ((with_reducible refine (node_calls (T.node o yl pc _) (T.node yr xr xp _) (some ⟨b1, 0, none⟩) (some ⟨b2, 0, none⟩) yp _ (ht1.below hw2) ht2 (by simp only [T.tall] at *; omega) (by simp only [T.tall] at *; omega) (by simp only [T.tall] at *; omega) (by simp only [T.tall] at *; omega)).mono ?_); rintro e w3 ⟨b3, rfl, ht3, hw3, hs3⟩; obtain ⟨hc3, hf3⟩ := bcell hw3; have lx3 : bx < w3.heap.size := (by have := hw3.size; (try simp at this); omega); have ly3 : bY < w3.heap.size := (by have := hw3.size; (try simp at this); omega); have up3 : Below w.heap.size w w3 := up2.trans (hw3.mono up2.size); have lo3 : w.heap.size < w3.heap.size := (by have := hw3.size; (try simp at this); omega)))
  go_wp2
  go_ret
  exact ⟨_, _, rfl, ht3, ⟨⟨HOK.out.2.2.2, HOK.out.1, rfl⟩, ⟨HOK.out.2.1, HOK.out.2.2.1, rfl⟩, rfl⟩, by simp [T.toList], up3⟩


end Go.Proofs.Ytnnbdjfeagcbdaa
