/- balanced, at any two trees; linked: a piece between two trees of any heights. -/
import Derived.Test.YtnnbdjfeagcbdaaTree2
namespace Go.Proofs.Ytnnbdjfeagcbdaa
set_option linter.unusedSimpArgs false
set_option linter.unusedVariables false
open Go.RowKit
attribute [local go_sem ↓] Go.wp_at_zero Go.wp_at_succ

theorem balanced_calls (l r : T) (pc : Pc) (pl pr : Option Addr) (w : World) (hl : TreeAt w pl l) (hr : TreeAt w pr r) (okl : l.Ok) (okr : r.Ok)
    (hb : (l.toList.length + r.toList.length : Nat) ≤ 100000000) :
    Calls Try.prog 120 #[.pointer pl, pc.val, .pointer pr] w (JoinMade l r pc w) := by
  have g1 := okl.tall_ge
  have g2 := okr.tall_ge
  by_cases h1 : r.tall + 1 < l.tall
  · cases l with
    | nil => simp only [T.tall] at *; omega
    | node xl xr xp xh =>
      by_cases h2 : xr.tall ≤ xl.tall
      · exact balanced_a1 xl xr r xp xh pc pl pr w hl hr okl okr hb h1 h2
      · cases xr with
        | nil => have := okl.1.tall_ge; simp only [T.tall] at *; omega
        | node yl yr yp yh => exact balanced_a2 xl yl yr r xp yp xh yh pc pl pr w hl hr okl okr hb h1 (by omega)
  · by_cases h3 : l.tall + 1 < r.tall
    · cases r with
      | nil => simp only [T.tall] at *; omega
      | node xl xr xp xh =>
        by_cases h2 : xl.tall ≤ xr.tall
        · exact balanced_b1 xl xr l xp xh pc pl pr w hl hr okl okr hb h3 h2
        · cases xl with
          | nil => have := okr.2.1.tall_ge; simp only [T.tall] at *; omega
          | node yl yr yp yh => exact balanced_b2 xr yl yr l xp yp xh yh pc pl pr w hl hr okl okr hb h3 (by omega)
    · exact balanced_c l r pc pl pr w hl hr okl okr hb h1 h3

def T.size : T → Nat
  | .nil => 0
  | .node l r _ _ => l.size + r.size + 1
/-- linked, below some size. -/
def LinkedTo (n : Nat) : Prop := ∀ (l r : T) (pc : Pc) (pl pr : Option Addr) (w : World), l.size + r.size < n → TreeAt w pl l → TreeAt w pr r → l.Ok → r.Ok →
    (l.toList.length + r.toList.length : Nat) ≤ 100000000 → Calls Try.prog 117 #[.pointer pl, pc.val, .pointer pr] w (JoinMade l r pc w)
theorem LinkedTo.use {n : Nat} (h : LinkedTo n) (l r : T) (pc : Pc) (pl pr : Option Addr) (w : World) (hs : l.size + r.size < n) (hl : TreeAt w pl l) (hr : TreeAt w pr r) (okl : l.Ok) (okr : r.Ok)
    (hb : (l.toList.length + r.toList.length : Nat) ≤ 100000000) : Calls Try.prog 117 #[.pointer pl, pc.val, .pointer pr] w (JoinMade l r pc w) := h l r pc pl pr w hs hl hr okl okr hb

set_option maxRecDepth 100000 in
set_option maxHeartbeats 4000000 in
theorem linked_a (n : Nat) (ih : LinkedTo n) (xl xr o : T) (xp : Pc) (xh : Int) (pc : Pc) (pl pr : Option Addr) (w : World) (hs : (T.node xl xr xp xh).size + o.size < n + 1) (hl : TreeAt w pl (T.node xl xr xp xh)) (hr : TreeAt w pr o) (okl : (T.node xl xr xp xh).Ok) (okr : o.Ok)
    (hb : ((T.node xl xr xp xh).toList.length + o.toList.length : Nat) ≤ 100000000) (h1 : o.tall + 1 < (T.node xl xr xp xh).tall) :
    Calls Try.prog 117 #[.pointer pl, pc.val, .pointer pr] w (JoinMade (T.node xl xr xp xh) o pc w) := by
  have HB := hid hl
  have HO := hid hr
  obtain ⟨okxl, okxr, okx⟩ := okl
  have oko := okr
  obtain ⟨bx, pxl, pxr, rfl, hkx, hxl, hxr⟩ := hl
  obtain ⟨ltx, cx0, cx1, cx2, cx3, cx4, cx5, cx6, cx7, cx8⟩ := node_cells hkx
  have HXL := hid hxl
  have HXR := hid hxr
  have HL := hid hb
  simp only [T.toList, List.length_append, List.length_cons] at hb
  have g0 := okxl.tall_ge
  have k0 := okxl.tall_le
  have g1 := okxr.tall_ge
  have k1 := okxr.tall_le
  have g2 := oko.tall_ge
  have k2 := oko.tall_le
  have hsz : xr.size + o.size < n := by simp only [T.size] at hs; omega
  have hbz : xr.toList.length + o.toList.length ≤ 100000000 := by omega
  have HOK := hid (And.intro okxl (And.intro okxr oko))
  have OB : (T.node xl xr xp xh).tall ≤ 200000001 ∧ 0 ≤ (T.node xl xr xp xh).tall := by simp only [T.tall]; omega
  have ltx' : bx < w.heap.size + 1 := by omega
  have HI := hid ih
  clear ih okxl okxr okx oko hkx hxl hxr hr okr
  go_enter Try.func117, Try.ntmps117
  go_wp2_with (first | ((with_reducible refine (tall_calls (T.node xl xr xp xh) (some ⟨bx, 0, none⟩) _ (HB.out.below (by repeat (first | exact Below.refl _ _ | assumption | refine Below.drew ?_ | refine below_drewN ?_ _ | refine Below.alloc ?_ (by simp) _)))).mono ?_); rintro e w1 ⟨rfl, rfl⟩) | ((with_reducible refine (tall_calls o pr _ (HO.out.below (by repeat (first | exact Below.refl _ _ | assumption | refine Below.drew ?_ | refine below_drewN ?_ _ | refine Below.alloc ?_ (by simp) _)))).mono ?_); rintro e w1 ⟨rfl, rfl⟩))
  go_region_held3 (fun w' => w'.cell? ⟨bx, 0, none⟩ = some (Value.pointer pxl) ∧ w'.cell? ⟨bx, 1, none⟩ = some (Value.pointer pxr) ∧ w'.cell? ⟨bx, 2, none⟩ = some (Value.int .i64 xp.from_) ∧ w'.cell? ⟨bx, 3, none⟩ = some (Value.int .i64 xp.to) ∧ w'.cell? ⟨bx, 4, none⟩ = some (Value.int .i64 xp.cell.state) ∧ w'.cell? ⟨bx, 5, none⟩ = some (Value.int .i64 xp.cell.lot) ∧ w'.cell? ⟨bx, 6, none⟩ = some (Value.int .i64 xp.cell.owner) ∧ w'.cell? ⟨bx, 7, none⟩ = some (Value.int .i64 xp.cell.holder) ∧ w'.cell? ⟨bx, 8, none⟩ = some (Value.int .i64 xh) ∧ w'.cell? ⟨w.heap.size, 0, none⟩ = some (Value.int .i64 pc.from_) ∧ w'.cell? ⟨w.heap.size, 1, none⟩ = some (Value.int .i64 pc.to) ∧ w'.cell? ⟨w.heap.size, 2, none⟩ = some (Value.int .i64 pc.cell.state) ∧ w'.cell? ⟨w.heap.size, 3, none⟩ = some (Value.int .i64 pc.cell.lot) ∧ w'.cell? ⟨w.heap.size, 4, none⟩ = some (Value.int .i64 pc.cell.owner) ∧ w'.cell? ⟨w.heap.size, 5, none⟩ = some (Value.int .i64 pc.cell.holder)) (go_keep) (first | ((with_reducible refine (LinkedTo.use HI.out xr o pc pxr pr _ hsz (HXR.out.below (by repeat (first | exact Below.refl _ _ | assumption | refine Below.drew ?_ | refine below_drewN ?_ _ | refine Below.alloc ?_ (by simp) _))) (HO.out.below (by repeat (first | exact Below.refl _ _ | assumption | refine Below.drew ?_ | refine below_drewN ?_ _ | refine Below.alloc ?_ (by simp) _))) HOK.out.2.1 HOK.out.2.2 hbz).mono ?_); rintro e w1 ⟨q1, t1, rfl, ht1, ok1, el1, hw1⟩; have hb1 : xl.toList.length + t1.toList.length ≤ 100000000 := (by rw [el1]; simp; omega); have HE1 := hid el1; have HO1 := hid ok1; clear el1 ok1; obtain ⟨hc1, hf1⟩ := bcell hw1; have up1 : Below w.heap.size w w1 := Below.trans (by repeat (first | exact Below.refl _ _ | assumption | refine Below.drew ?_ | refine below_drewN ?_ _ | refine Below.alloc ?_ (by simp) _)) (hw1.mono (by simp))) | ((with_reducible refine (balanced_calls xl t1 xp pxl q1 _ (HXL.out.below (by repeat (first | exact Below.refl _ _ | assumption | refine Below.drew ?_ | refine below_drewN ?_ _ | refine Below.alloc ?_ (by simp) _))) ht1 HOK.out.1 HO1.out hb1).mono ?_); rintro e w2 ⟨q2, t2, rfl, ht2, ok2, el2, hw2⟩; have HE2 := hid el2; have HO2 := hid ok2; clear el2 ok2; obtain ⟨hc2, hf2⟩ := bcell hw2; have up2 : Below w.heap.size w w2 := up1.trans (hw2.mono up1.size); have lx2 : bx < w1.heap.size := (by have := hw1.size; (try simp at this); omega); have lo2 : w.heap.size < w1.heap.size := (by have := hw1.size; (try simp at this); omega)))
  go_wp2
  go_ret
  exact ⟨_, _, rfl, ht2, HO2.out, by rw [HE2.out, HE1.out]; simp [T.toList], up2⟩

set_option maxRecDepth 100000 in
set_option maxHeartbeats 4000000 in
theorem linked_b (n : Nat) (ih : LinkedTo n) (xl xr o : T) (xp : Pc) (xh : Int) (pc : Pc) (pl pr : Option Addr) (w : World) (hs : o.size + (T.node xl xr xp xh).size < n + 1) (hl : TreeAt w pl o) (hr : TreeAt w pr (T.node xl xr xp xh)) (okl : o.Ok) (okr : (T.node xl xr xp xh).Ok)
    (hb : (o.toList.length + (T.node xl xr xp xh).toList.length : Nat) ≤ 100000000) (h1 : o.tall + 1 < (T.node xl xr xp xh).tall) :
    Calls Try.prog 117 #[.pointer pl, pc.val, .pointer pr] w (JoinMade o (T.node xl xr xp xh) pc w) := by
  have HB := hid hr
  have HO := hid hl
  obtain ⟨okxl, okxr, okx⟩ := okr
  have oko := okl
  obtain ⟨bx, pxl, pxr, rfl, hkx, hxl, hxr⟩ := hr
  obtain ⟨ltx, cx0, cx1, cx2, cx3, cx4, cx5, cx6, cx7, cx8⟩ := node_cells hkx
  have HXL := hid hxl
  have HXR := hid hxr
  have HL := hid hb
  simp only [T.toList, List.length_append, List.length_cons] at hb
  have g0 := okxl.tall_ge
  have k0 := okxl.tall_le
  have g1 := okxr.tall_ge
  have k1 := okxr.tall_le
  have g2 := oko.tall_ge
  have k2 := oko.tall_le
  have hsz : o.size + xl.size < n := by simp only [T.size] at hs; omega
  have hbz : o.toList.length + xl.toList.length ≤ 100000000 := by omega
  have HOK := hid (And.intro okxl (And.intro okxr oko))
  have OB : (T.node xl xr xp xh).tall ≤ 200000001 ∧ 0 ≤ (T.node xl xr xp xh).tall := by simp only [T.tall]; omega
  have ltx' : bx < w.heap.size + 1 := by omega
  have HI := hid ih
  have h3 : ¬ (T.node xl xr xp xh).tall + 1 < o.tall := by omega
  clear ih okxl okxr okx oko hkx hxl hxr hl okl
  go_enter Try.func117, Try.ntmps117
  go_wp2_with (first | ((with_reducible refine (tall_calls (T.node xl xr xp xh) (some ⟨bx, 0, none⟩) _ (HB.out.below (by repeat (first | exact Below.refl _ _ | assumption | refine Below.drew ?_ | refine below_drewN ?_ _ | refine Below.alloc ?_ (by simp) _)))).mono ?_); rintro e w1 ⟨rfl, rfl⟩) | ((with_reducible refine (tall_calls o pl _ (HO.out.below (by repeat (first | exact Below.refl _ _ | assumption | refine Below.drew ?_ | refine below_drewN ?_ _ | refine Below.alloc ?_ (by simp) _)))).mono ?_); rintro e w1 ⟨rfl, rfl⟩))
  go_region_held3 (fun w' => w'.cell? ⟨bx, 0, none⟩ = some (Value.pointer pxl) ∧ w'.cell? ⟨bx, 1, none⟩ = some (Value.pointer pxr) ∧ w'.cell? ⟨bx, 2, none⟩ = some (Value.int .i64 xp.from_) ∧ w'.cell? ⟨bx, 3, none⟩ = some (Value.int .i64 xp.to) ∧ w'.cell? ⟨bx, 4, none⟩ = some (Value.int .i64 xp.cell.state) ∧ w'.cell? ⟨bx, 5, none⟩ = some (Value.int .i64 xp.cell.lot) ∧ w'.cell? ⟨bx, 6, none⟩ = some (Value.int .i64 xp.cell.owner) ∧ w'.cell? ⟨bx, 7, none⟩ = some (Value.int .i64 xp.cell.holder) ∧ w'.cell? ⟨bx, 8, none⟩ = some (Value.int .i64 xh) ∧ w'.cell? ⟨w.heap.size, 0, none⟩ = some (Value.int .i64 pc.from_) ∧ w'.cell? ⟨w.heap.size, 1, none⟩ = some (Value.int .i64 pc.to) ∧ w'.cell? ⟨w.heap.size, 2, none⟩ = some (Value.int .i64 pc.cell.state) ∧ w'.cell? ⟨w.heap.size, 3, none⟩ = some (Value.int .i64 pc.cell.lot) ∧ w'.cell? ⟨w.heap.size, 4, none⟩ = some (Value.int .i64 pc.cell.owner) ∧ w'.cell? ⟨w.heap.size, 5, none⟩ = some (Value.int .i64 pc.cell.holder)) (go_keep) (first | ((with_reducible refine (LinkedTo.use HI.out o xl pc pl pxl _ hsz (HO.out.below (by repeat (first | exact Below.refl _ _ | assumption | refine Below.drew ?_ | refine below_drewN ?_ _ | refine Below.alloc ?_ (by simp) _))) (HXL.out.below (by repeat (first | exact Below.refl _ _ | assumption | refine Below.drew ?_ | refine below_drewN ?_ _ | refine Below.alloc ?_ (by simp) _))) HOK.out.2.2 HOK.out.1 hbz).mono ?_); rintro e w1 ⟨q1, t1, rfl, ht1, ok1, el1, hw1⟩; have hb1 : t1.toList.length + xr.toList.length ≤ 100000000 := (by rw [el1]; simp; omega); have HE1 := hid el1; have HO1 := hid ok1; clear el1 ok1; obtain ⟨hc1, hf1⟩ := bcell hw1; have up1 : Below w.heap.size w w1 := Below.trans (by repeat (first | exact Below.refl _ _ | assumption | refine Below.drew ?_ | refine below_drewN ?_ _ | refine Below.alloc ?_ (by simp) _)) (hw1.mono (by simp))) | ((with_reducible refine (balanced_calls t1 xr xp q1 pxr _ ht1 (HXR.out.below (by repeat (first | exact Below.refl _ _ | assumption | refine Below.drew ?_ | refine below_drewN ?_ _ | refine Below.alloc ?_ (by simp) _))) HO1.out HOK.out.2.1 hb1).mono ?_); rintro e w2 ⟨q2, t2, rfl, ht2, ok2, el2, hw2⟩; have HE2 := hid el2; have HO2 := hid ok2; clear el2 ok2; obtain ⟨hc2, hf2⟩ := bcell hw2; have up2 : Below w.heap.size w w2 := up1.trans (hw2.mono up1.size); have lx2 : bx < w1.heap.size := (by have := hw1.size; (try simp at this); omega); have lo2 : w.heap.size < w1.heap.size := (by have := hw1.size; (try simp at this); omega)))
  go_wp2
  go_ret
  exact ⟨_, _, rfl, ht2, HO2.out, by rw [HE2.out, HE1.out]; simp [T.toList], up2⟩

set_option maxRecDepth 100000 in
set_option maxHeartbeats 4000000 in
theorem linked_c (l r : T) (pc : Pc) (pl pr : Option Addr) (w : World) (hl : TreeAt w pl l) (hr : TreeAt w pr r) (okl : l.Ok) (okr : r.Ok)
    (hb : (l.toList.length + r.toList.length : Nat) ≤ 100000000) (h1 : ¬ r.tall + 1 < l.tall) (h2 : ¬ l.tall + 1 < r.tall) :
    Calls Try.prog 117 #[.pointer pl, pc.val, .pointer pr] w (JoinMade l r pc w) := by
  have b1 := okl.tall_ge
  have b2 := okr.tall_ge
  have b3 := okl.tall_le
  have b4 := okr.tall_le
  have HOL := hid okl
  have HOR := hid okr
  have HHL := hid hl
  have HHR := hid hr
  clear okl okr hl hr
  go_enter Try.func117, Try.ntmps117
  go_wp2_with (first | ((with_reducible refine (tall_calls l pl _ (HHL.out.below (by repeat (first | exact Below.refl _ _ | assumption | refine Below.drew ?_ | refine below_drewN ?_ _ | refine Below.alloc ?_ (by simp) _)))).mono ?_); rintro e w1 ⟨rfl, rfl⟩) | ((with_reducible refine (tall_calls r pr _ (HHR.out.below (by repeat (first | exact Below.refl _ _ | assumption | refine Below.drew ?_ | refine below_drewN ?_ _ | refine Below.alloc ?_ (by simp) _)))).mono ?_); rintro e w1 ⟨rfl, rfl⟩) | ((with_reducible refine (node_calls l r pl pr pc _ (HHL.out.below (by repeat (first | exact Below.refl _ _ | assumption | refine Below.drew ?_ | refine below_drewN ?_ _ | refine Below.alloc ?_ (by simp) _))) (HHR.out.below (by repeat (first | exact Below.refl _ _ | assumption | refine Below.drew ?_ | refine below_drewN ?_ _ | refine Below.alloc ?_ (by simp) _))) (by omega) (by omega) (by omega) (by omega)).mono ?_); rintro e w1 ⟨b1, rfl, ht1, hw1, hs1⟩))
  go_ret
  exact ⟨_, _, rfl, ht1, ⟨HOL.out, HOR.out, rfl⟩, rfl, Below.trans (by repeat (first | exact Below.refl _ _ | assumption | refine Below.drew ?_ | refine below_drewN ?_ _ | refine Below.alloc ?_ (by simp) _)) (hw1.mono (by simp))⟩

theorem linked_to : ∀ n, LinkedTo n
  | 0 => fun _ _ _ _ _ _ h => absurd h (by omega)
  | n + 1 => fun l r pc pl pr w hs hl hr okl okr hb => by
    have ih := linked_to n
    have g1 := okl.tall_ge
    have g2 := okr.tall_ge
    by_cases h1 : r.tall + 1 < l.tall
    · cases l with
      | nil => simp only [T.tall] at *; omega
      | node xl xr xp xh => exact linked_a n ih xl xr r xp xh pc pl pr w hs hl hr okl okr hb h1
    · by_cases h3 : l.tall + 1 < r.tall
      · cases r with
        | nil => simp only [T.tall] at *; omega
        | node xl xr xp xh => exact linked_b n ih xl xr l xp xh pc pl pr w hs hl hr okl okr hb h3
      · exact linked_c l r pc pl pr w hl hr okl okr hb h1 h3

/-- **linked**: a piece between two trees of any heights. -/
theorem linked_calls (l r : T) (pc : Pc) (pl pr : Option Addr) (w : World) (hl : TreeAt w pl l) (hr : TreeAt w pr r) (okl : l.Ok) (okr : r.Ok)
    (hb : (l.toList.length + r.toList.length : Nat) ≤ 100000000) :
    Calls Try.prog 117 #[.pointer pl, pc.val, .pointer pr] w (JoinMade l r pc w) := linked_to _ l r pc pl pr w (Nat.lt_succ_self _) hl hr okl okr hb
end Go.Proofs.Ytnnbdjfeagcbdaa
