/- Trees of pieces in memory: what it means that a tree lies at a pointer. tall, node. balanced: a node for two trees one of which may be two taller. balanced, at any two trees; linked: a piece between two trees of any heights. Blocks known whole; a piece stored into its box. -/
import Derived.Test.YtepldjidkomclaaGreatRows
import Derived.WalkKit
import Derived.WalkSpells
import Derived.WalkLawsBesides
import Derived.Deep.RegionHeld3
import Derived.Deep.DrawnRows
import Derived.Deep.QuietTactic
import Derived.BigQuiet
import Derived.Lib.Hide
namespace Go.Proofs.YtepldjidkomclaaGreat.St
set_option linter.unusedSimpArgs false
set_option linter.unusedVariables false
open Go.RowKit
structure Cl where
  state : Int
  lot : Int
  owner : Int
  holder : Int
deriving DecidableEq
structure Pc where
  from_ : Int
  to : Int
  cell : Cl
deriving DecidableEq
inductive T where
  | nil
  | node (l r : T) (p : Pc) (h : Int)
@[reducible] def Cl.vals (c : Cl) : Array Value := #[.int .i64 c.state, .int .i64 c.lot, .int .i64 c.owner, .int .i64 c.holder]
@[reducible] def Cl.val (c : Cl) : Value := .agg c.vals
@[reducible] def Pc.vals (p : Pc) : Array Value := #[.int .i64 p.from_, .int .i64 p.to, .int .i64 p.cell.state, .int .i64 p.cell.lot, .int .i64 p.cell.owner, .int .i64 p.cell.holder]
@[reducible] def Pc.val (p : Pc) : Value := .agg p.vals
def T.tall : T → Int
  | .nil => 0
  | .node _ _ _ h => h
def T.toList : T → List Pc
  | .nil => []
  | .node l r p _ => l.toList ++ p :: r.toList
def T.Ok : T → Prop
  | .nil => True
  | .node l r _ h => l.Ok ∧ r.Ok ∧ h = max l.tall r.tall + 1
theorem T.Ok.tall_ge : ∀ {t : T}, t.Ok → 0 ≤ t.tall
  | .nil, _ => Int.le_refl _
  | .node l r _ h, ⟨hl, hr, e⟩ => by have := hl.tall_ge; have := hr.tall_ge; simp only [T.tall]; omega
theorem T.Ok.tall_le : ∀ {t : T}, t.Ok → t.tall ≤ t.toList.length
  | .nil, _ => Int.le_refl _
  | .node l r _ h, ⟨hl, hr, e⟩ => by have := hl.tall_le; have := hr.tall_le; have := hl.tall_ge; have := hr.tall_ge; simp only [T.tall, T.toList, List.length_append, List.length_cons]; omega
@[reducible] def nodeObj (l r : Option Addr) (p : Pc) (h : Int) : Obj :=
  .cells #[.pointer l, .pointer r, .int .i64 p.from_, .int .i64 p.to, .int .i64 p.cell.state, .int .i64 p.cell.lot, .int .i64 p.cell.owner, .int .i64 p.cell.holder, .int .i64 h] 156
def TreeAt (w : World) : Option Addr → T → Prop
  | p, .nil => p = none
  | p, .node l r pc h => ∃ b pl pr, p = some ⟨b, 0, none⟩ ∧ w.heap[b]? = some (nodeObj pl pr pc h) ∧ TreeAt w pl l ∧ TreeAt w pr r
theorem TreeAt.keep {w w' : World} (hk : ∀ b, b < w.heap.size → w'.heap[b]? = w.heap[b]?) : ∀ {t : T} {p : Option Addr}, TreeAt w p t → TreeAt w' p t
  | .nil, _, h => h
  | .node l r pc h, _, ⟨b, pl, pr, hp, hb, hl, hr⟩ => by
    refine ⟨b, pl, pr, hp, ?_, TreeAt.keep hk hl, TreeAt.keep hk hr⟩
    have : b < w.heap.size := (Array.getElem?_eq_some_iff.1 hb).1
    rw [hk b this]; exact hb
theorem TreeAt.alloc {w : World} {t : T} {p : Option Addr} (h : TreeAt w p t) (o : Obj) : TreeAt (w.alloc o) p t := h.keep fun b hb => Below.heap_alloc w o b hb
theorem TreeAt.drew {w : World} {t : T} {p : Option Addr} (h : TreeAt w p t) : TreeAt w.drew p t := TreeAt.keep (w := w) (w' := w.drew) (fun _ _ => rfl) h
theorem TreeAt.below {w w' : World} {t : T} {p : Option Addr} (h : TreeAt w p t) (hb : Below w.heap.size w w') : TreeAt w' p t := h.keep hb.block
theorem cells_of_block {w : World} {b : Nat} {cs : Array Value} {t : TypeId} (hb : w.heap[b]? = some (.cells cs t)) (i : Nat) :
    w.cell? ⟨b, i, none⟩ = cs[i]? := by
  simp [World.cell?, hb]
theorem node_cells {w : World} {b : Nat} {pl pr : Option Addr} {pc : Pc} {h : Int} (hb : w.heap[b]? = some (nodeObj pl pr pc h)) :
    b < w.heap.size ∧ w.cell? ⟨b, 0, none⟩ = some (Value.pointer pl) ∧ w.cell? ⟨b, 1, none⟩ = some (Value.pointer pr) ∧ w.cell? ⟨b, 2, none⟩ = some (Value.int .i64 pc.from_) ∧ w.cell? ⟨b, 3, none⟩ = some (Value.int .i64 pc.to) ∧ w.cell? ⟨b, 4, none⟩ = some (Value.int .i64 pc.cell.state) ∧ w.cell? ⟨b, 5, none⟩ = some (Value.int .i64 pc.cell.lot) ∧ w.cell? ⟨b, 6, none⟩ = some (Value.int .i64 pc.cell.owner) ∧ w.cell? ⟨b, 7, none⟩ = some (Value.int .i64 pc.cell.holder) ∧ w.cell? ⟨b, 8, none⟩ = some (Value.int .i64 h) := by
  have lt := (Array.getElem?_eq_some_iff.1 hb).1
  refine ⟨lt, ?_⟩
  simp [cells_of_block hb]
theorem bcell {W w1 : World} {B : Nat} (hb : Below B W w1) : (∀ b o, b < B → w1.cell? ⟨b, o, none⟩ = W.cell? ⟨b, o, none⟩) ∧ (∀ b o, b < B → w1.frozen? ⟨b, o, none⟩ = W.frozen? ⟨b, o, none⟩) :=
  ⟨fun b o h => hb.cell (p := ⟨b, o, none⟩) h, fun b o h => hb.frozen (p := ⟨b, o, none⟩) h⟩
theorem setCell_far (w : World) (B b o j : Nat) (v : Value) (h : b ≠ B) : (w.setCell ⟨B, j, none⟩ v).cell? ⟨b, o, none⟩ = w.cell? ⟨b, o, none⟩ :=
  World.cell?_of_block (a := ⟨b, o, none⟩) (Below.heap_setCell w ⟨B, j, none⟩ v b h)
theorem hid {p : Prop} (h : p) : Hid p := h
end Go.Proofs.YtepldjidkomclaaGreat.St
namespace Go.Proofs.YtepldjidkomclaaGreat.St
set_option linter.unusedSimpArgs false
set_option linter.unusedVariables false
open Go.RowKit
attribute [local go_sem ↓] Go.wp_at_zero Go.wp_at_succ
set_option maxHeartbeats 400000 in
theorem tall_calls (t : T) (p : Option Addr) (w : World) (h : TreeAt w p t) :
    Calls Tryz.prog 78 #[.pointer p] w fun e w' => e = .returned (.int .i64 t.tall) ∧ w' = w := by
  cases t with
  | nil =>
    obtain rfl := h
    go_enter Tryz.func78, Tryz.ntmps78
    go_wp2
    go_ret
    exact ⟨rfl, rfl⟩
  | node l r pc h' =>
    obtain ⟨b, pl, pr, rfl, hb, hl, hr⟩ := h
    obtain ⟨_, _, _, _, _, _, _, _, _, h8⟩ := node_cells hb
    clear hb hl hr
    go_enter Tryz.func78, Tryz.ntmps78
    go_wp2
    go_ret
    exact ⟨rfl, rfl⟩
theorem node_done (w : World) (o : Obj) (pl pr : Option Addr) (pc : Pc) (h h' : Int) (e : h = h') (h1 : 0 ≤ h) (h2 : h ≤ 2000000000) :
    ((w.alloc o).alloc (nodeObj pl pr pc (IntKind.i64.wrap h))).drew.heap[w.heap.size + 1]? = some (nodeObj pl pr pc h') := by
  rw [IntWalk.i64_in _ (by omega), e]
  have := heap_alloc_new (w.alloc o) (nodeObj pl pr pc h')
  rw [World.size_alloc] at this
  exact this
def NodeMade (l r : T) (pc : Pc) (w : World) (e : Ending) (w' : World) : Prop :=
  ∃ b, e = .returned (.pointer (some ⟨b, 0, none⟩)) ∧ TreeAt w' (some ⟨b, 0, none⟩) (.node l r pc (max l.tall r.tall + 1)) ∧ Below w.heap.size w w' ∧ w.heap.size < w'.heap.size
set_option maxRecDepth 100000 in
set_option maxHeartbeats 2000000 in
theorem node_calls (l r : T) (pl pr : Option Addr) (pc : Pc) (w : World) (hl : TreeAt w pl l) (hr : TreeAt w pr r)
    (h1 : 0 ≤ l.tall) (h2 : l.tall ≤ 1000000000) (h3 : 0 ≤ r.tall) (h4 : r.tall ≤ 1000000000) :
    Calls Tryz.prog 34 #[.pointer pl, pc.val, .pointer pr] w (NodeMade l r pc w) := by
  have HL := hid hl
  have HR := hid hr
  clear hl hr
  go_enter Tryz.func34, Tryz.ntmps34
  go_wp2
  go_region_held3 (fun w' => w'.cell? ⟨w.heap.size, 0, none⟩ = some (Value.int .i64 pc.from_) ∧ w'.cell? ⟨w.heap.size, 1, none⟩ = some (Value.int .i64 pc.to) ∧ w'.cell? ⟨w.heap.size, 2, none⟩ = some (Value.int .i64 pc.cell.state) ∧ w'.cell? ⟨w.heap.size, 3, none⟩ = some (Value.int .i64 pc.cell.lot) ∧ w'.cell? ⟨w.heap.size, 4, none⟩ = some (Value.int .i64 pc.cell.owner) ∧ w'.cell? ⟨w.heap.size, 5, none⟩ = some (Value.int .i64 pc.cell.holder)) (go_keep)
    (first | ((with_reducible refine (tall_calls l pl _ (HL.out.alloc _).drew).mono ?_); rintro e w1 ⟨rfl, rfl⟩) | ((with_reducible refine (tall_calls r pr _ (HR.out.alloc _).drew).mono ?_); rintro e w1 ⟨rfl, rfl⟩))
  go_wp2
  all_goals go_ret
  all_goals refine ⟨_, rfl, ?_, (((Below.refl _ _).alloc (Nat.le_refl _) _).alloc (by simp) _).drew, by simp; omega⟩
  all_goals refine ⟨_, pl, pr, rfl, ?_, ((HL.out.alloc _).alloc _).drew, ((HR.out.alloc _).alloc _).drew⟩
  all_goals exact node_done _ _ _ _ _ _ _ (by omega) (by omega) (by omega)
end Go.Proofs.YtepldjidkomclaaGreat.St
namespace Go.Proofs.YtepldjidkomclaaGreat.St
set_option linter.unusedSimpArgs false
set_option linter.unusedVariables false
open Go.RowKit
attribute [local go_sem ↓] Go.wp_at_zero Go.wp_at_succ
def JoinMade (l r : T) (pc : Pc) (w : World) (e : Ending) (w' : World) : Prop :=
  ∃ q t, e = .returned (.pointer q) ∧ TreeAt w' q t ∧ t.Ok ∧ t.toList = l.toList ++ pc :: r.toList ∧ Below w.heap.size w w'
set_option maxRecDepth 100000 in
set_option maxHeartbeats 4000000 in
theorem balanced_c (l r : T) (pc : Pc) (pl pr : Option Addr) (w : World) (hl : TreeAt w pl l) (hr : TreeAt w pr r) (okl : l.Ok) (okr : r.Ok)
    (hb : (l.toList.length + r.toList.length : Nat) ≤ 100000000) (h1 : ¬ r.tall + 1 < l.tall) (h2 : ¬ l.tall + 1 < r.tall) :
    Calls Tryz.prog 129 #[.pointer pl, pc.val, .pointer pr] w (JoinMade l r pc w) := by
  have b1 := okl.tall_ge
  have b2 := okr.tall_ge
  have b3 := okl.tall_le
  have b4 := okr.tall_le
  have HOL := hid okl
  have HOR := hid okr
  clear okl okr
  have HHL := hid hl
  clear hl
  have HHR := hid hr
  clear hr
  go_enter Tryz.func129, Tryz.ntmps129
  go_wp2_with (first | ((with_reducible refine (tall_calls l pl _ (HHL.out.below (by repeat (first | exact Below.refl _ _ | assumption | refine Below.drew ?_ | refine below_drewN ?_ _ | refine Below.alloc ?_ (by simp) _)))).mono ?_); rintro e w1 ⟨rfl, rfl⟩) | ((with_reducible refine (tall_calls r pr _ (HHR.out.below (by repeat (first | exact Below.refl _ _ | assumption | refine Below.drew ?_ | refine below_drewN ?_ _ | refine Below.alloc ?_ (by simp) _)))).mono ?_); rintro e w1 ⟨rfl, rfl⟩) | ((with_reducible refine (node_calls l r pl pr pc _ (HHL.out.below (by repeat (first | exact Below.refl _ _ | assumption | refine Below.drew ?_ | refine below_drewN ?_ _ | refine Below.alloc ?_ (by simp) _))) (HHR.out.below (by repeat (first | exact Below.refl _ _ | assumption | refine Below.drew ?_ | refine below_drewN ?_ _ | refine Below.alloc ?_ (by simp) _))) (by omega) (by omega) (by omega) (by omega)).mono ?_); rintro e w1 ⟨b1, rfl, ht1, hw1, hs1⟩))
  go_ret
  exact ⟨_, _, rfl, ht1, ⟨HOL.out, HOR.out, rfl⟩, rfl, Below.trans (by repeat (first | exact Below.refl _ _ | assumption | refine Below.drew ?_ | refine below_drewN ?_ _ | refine Below.alloc ?_ (by simp) _)) (hw1.mono (by simp))⟩
set_option maxRecDepth 100000 in
set_option maxHeartbeats 4000000 in
theorem balanced_a1 (xl xr o : T) (xp : Pc) (xh : Int) (pc : Pc) (pl pr : Option Addr) (w : World) (hl : TreeAt w pl (T.node xl xr xp xh)) (hr : TreeAt w pr o) (okl : (T.node xl xr xp xh).Ok) (okr : o.Ok)
    (hb : ((T.node xl xr xp xh).toList.length + o.toList.length : Nat) ≤ 100000000) (h1 : o.tall + 1 < (T.node xl xr xp xh).tall) (h2 : xr.tall ≤ xl.tall) :
    Calls Tryz.prog 129 #[.pointer pl, pc.val, .pointer pr] w (JoinMade (T.node xl xr xp xh) o pc w) := by
  have HB := hid hl
  have HO := hid hr
  obtain ⟨okxl, okxr, okx⟩ := okl
  have oko := okr
  obtain ⟨bx, pxl, pxr, rfl, hkx, hxl, hxr⟩ := hl
  obtain ⟨ltx, cx0, cx1, cx2, cx3, cx4, cx5, cx6, cx7, cx8⟩ := node_cells hkx
  have HXL := hid hxl
  have HXR := hid hxr
  simp only [T.toList, List.length_append, List.length_cons] at hb
  have g0 := okxl.tall_ge
  have k0 := okxl.tall_le
  have g1 := okxr.tall_ge
  have k1 := okxr.tall_le
  have g2 := oko.tall_ge
  have k2 := oko.tall_le
  have HOK := hid (And.intro okxl (And.intro okxr oko))
  have HEX := hid okx
  have OX : xh ≤ 200000001 ∧ 0 ≤ xh := by omega
  have OB : (T.node xl xr xp xh).tall ≤ 200000001 ∧ 0 ≤ (T.node xl xr xp xh).tall := OX
  have ltx' : bx < w.heap.size + 1 := by omega
  clear okxl okxr okx oko hkx hxl hxr hr
  go_enter Tryz.func129, Tryz.ntmps129
  go_wp2_with (first | ((with_reducible refine (tall_calls (T.node xl xr xp xh) (some ⟨bx, 0, none⟩) _ (HB.out.below (by repeat (first | exact Below.refl _ _ | assumption | refine Below.drew ?_ | refine below_drewN ?_ _ | refine Below.alloc ?_ (by simp) _)))).mono ?_); rintro e w1 ⟨rfl, rfl⟩) | ((with_reducible refine (tall_calls o pr _ (HO.out.below (by repeat (first | exact Below.refl _ _ | assumption | refine Below.drew ?_ | refine below_drewN ?_ _ | refine Below.alloc ?_ (by simp) _)))).mono ?_); rintro e w1 ⟨rfl, rfl⟩))
  go_quiet ((first | (with_reducible refine Calls.quiet_of_same (tall_calls xr pxr _ (HXR.out.below (by repeat (first | exact Below.refl _ _ | assumption | refine Below.drew ?_ | refine below_drewN ?_ _ | refine Below.alloc ?_ (by simp) _))))) | (with_reducible refine Calls.quiet_of_same (tall_calls xl pxl _ (HXL.out.below (by repeat (first | exact Below.refl _ _ | assumption | refine Below.drew ?_ | refine below_drewN ?_ _ | refine Below.alloc ?_ (by simp) _)))))))
  go_wp2
  go_region_held3 (fun w' => w'.cell? ⟨bx, 0, none⟩ = some (Value.pointer pxl) ∧ w'.cell? ⟨bx, 1, none⟩ = some (Value.pointer pxr) ∧ w'.cell? ⟨bx, 2, none⟩ = some (Value.int .i64 xp.from_) ∧ w'.cell? ⟨bx, 3, none⟩ = some (Value.int .i64 xp.to) ∧ w'.cell? ⟨bx, 4, none⟩ = some (Value.int .i64 xp.cell.state) ∧ w'.cell? ⟨bx, 5, none⟩ = some (Value.int .i64 xp.cell.lot) ∧ w'.cell? ⟨bx, 6, none⟩ = some (Value.int .i64 xp.cell.owner) ∧ w'.cell? ⟨bx, 7, none⟩ = some (Value.int .i64 xp.cell.holder) ∧ w'.cell? ⟨bx, 8, none⟩ = some (Value.int .i64 xh) ∧ w'.cell? ⟨w.heap.size, 0, none⟩ = some (Value.int .i64 pc.from_) ∧ w'.cell? ⟨w.heap.size, 1, none⟩ = some (Value.int .i64 pc.to) ∧ w'.cell? ⟨w.heap.size, 2, none⟩ = some (Value.int .i64 pc.cell.state) ∧ w'.cell? ⟨w.heap.size, 3, none⟩ = some (Value.int .i64 pc.cell.lot) ∧ w'.cell? ⟨w.heap.size, 4, none⟩ = some (Value.int .i64 pc.cell.owner) ∧ w'.cell? ⟨w.heap.size, 5, none⟩ = some (Value.int .i64 pc.cell.holder)) (go_keep) (first | ((with_reducible refine (node_calls xr o pxr pr pc _ (HXR.out.below (by repeat (first | exact Below.refl _ _ | assumption | refine Below.drew ?_ | refine below_drewN ?_ _ | refine Below.alloc ?_ (by simp) _))) (HO.out.below (by repeat (first | exact Below.refl _ _ | assumption | refine Below.drew ?_ | refine below_drewN ?_ _ | refine Below.alloc ?_ (by simp) _))) (by simp only [T.tall] at *; omega) (by simp only [T.tall] at *; omega) (by simp only [T.tall] at *; omega) (by simp only [T.tall] at *; omega)).mono ?_); rintro e w1 ⟨b1, rfl, ht1, hw1, hs1⟩; obtain ⟨hc1, hf1⟩ := bcell hw1; have lx1 : bx < w1.heap.size := (by have := hw1.size; (try simp at this); omega); have up1 : Below w.heap.size w w1 := Below.trans (by repeat (first | exact Below.refl _ _ | assumption | refine Below.drew ?_ | refine below_drewN ?_ _ | refine Below.alloc ?_ (by simp) _)) (hw1.mono (by simp)); have lo1 : w.heap.size < w1.heap.size := (by have := hw1.size; (try simp at this); omega)) | ((with_reducible refine (node_calls xl (T.node xr o pc _) pxl (some ⟨b1, 0, none⟩) xp _ (HXL.out.below (by repeat (first | exact Below.refl _ _ | assumption | refine Below.drew ?_ | refine below_drewN ?_ _ | refine Below.alloc ?_ (by simp) _))) ht1 (by simp only [T.tall] at *; omega) (by simp only [T.tall] at *; omega) (by simp only [T.tall] at *; omega) (by simp only [T.tall] at *; omega)).mono ?_); rintro e w2 ⟨b2, rfl, ht2, hw2, hs2⟩; obtain ⟨hc2, hf2⟩ := bcell hw2; have lx2 : bx < w2.heap.size := (by have := hw2.size; (try simp at this); omega); have up2 : Below w.heap.size w w2 := up1.trans (hw2.mono up1.size); have lo2 : w.heap.size < w2.heap.size := (by have := hw2.size; (try simp at this); omega)))
  go_wp2
  go_ret
  exact ⟨_, _, rfl, ht2, ⟨HOK.out.1, ⟨HOK.out.2.1, HOK.out.2.2, rfl⟩, rfl⟩, by simp [T.toList], up2⟩
set_option maxRecDepth 100000 in
set_option maxHeartbeats 4000000 in
theorem balanced_a2 (xl yl yr o : T) (xp yp : Pc) (xh yh : Int) (pc : Pc) (pl pr : Option Addr) (w : World) (hl : TreeAt w pl (T.node xl (T.node yl yr yp yh) xp xh)) (hr : TreeAt w pr o) (okl : (T.node xl (T.node yl yr yp yh) xp xh).Ok) (okr : o.Ok)
    (hb : ((T.node xl (T.node yl yr yp yh) xp xh).toList.length + o.toList.length : Nat) ≤ 100000000) (h1 : o.tall + 1 < (T.node xl (T.node yl yr yp yh) xp xh).tall) (h2 : xl.tall < (T.node yl yr yp yh).tall) :
    Calls Tryz.prog 129 #[.pointer pl, pc.val, .pointer pr] w (JoinMade (T.node xl (T.node yl yr yp yh) xp xh) o pc w) := by
  have HB := hid hl
  have HO := hid hr
  obtain ⟨okxl, okxr, okx⟩ := okl
  have oko := okr
  obtain ⟨bx, pxl, pxr, rfl, hkx, hxl, hxr⟩ := hl
  obtain ⟨ltx, cx0, cx1, cx2, cx3, cx4, cx5, cx6, cx7, cx8⟩ := node_cells hkx
  obtain ⟨okyl, okyr, oky⟩ := okxr
  have HXR := hid hxr
  obtain ⟨bY, pYl, pYr, rfl, hky, hyl, hyr⟩ := hxr
  obtain ⟨lty, cy0, cy1, cy2, cy3, cy4, cy5, cy6, cy7, cy8⟩ := node_cells hky
  have HXL := hid hxl
  have HYL := hid hyl
  have HYR := hid hyr
  simp only [T.toList, List.length_append, List.length_cons] at hb
  have g0 := okyl.tall_ge
  have k0 := okyl.tall_le
  have g1 := okyr.tall_ge
  have k1 := okyr.tall_le
  have g2 := okxl.tall_ge
  have k2 := okxl.tall_le
  have g3 := oko.tall_ge
  have k3 := oko.tall_le
  have HOK := hid (And.intro okyl (And.intro okyr (And.intro okxl oko)))
  have HEY := hid oky
  have OY : yh ≤ 200000000 ∧ 0 ≤ yh := by omega
  have HEX := hid okx
  have e1 : (T.node yl yr yp yh).tall = yh := rfl
  have OX : xh ≤ 200000001 ∧ 0 ≤ xh := by omega
  clear e1
  have OB : (T.node xl (T.node yl yr yp yh) xp xh).tall ≤ 200000001 ∧ 0 ≤ (T.node xl (T.node yl yr yp yh) xp xh).tall := OX
  have ltx' : bx < w.heap.size + 1 := by omega
  have lty' : bY < w.heap.size + 1 := by omega
  clear okxl okx oko hkx hxl hr okyl okyr oky hky hyl hyr
  go_enter Tryz.func129, Tryz.ntmps129
  go_wp2_with (first | ((with_reducible refine (tall_calls (T.node xl (T.node yl yr yp yh) xp xh) (some ⟨bx, 0, none⟩) _ (HB.out.below (by repeat (first | exact Below.refl _ _ | assumption | refine Below.drew ?_ | refine below_drewN ?_ _ | refine Below.alloc ?_ (by simp) _)))).mono ?_); rintro e w1 ⟨rfl, rfl⟩) | ((with_reducible refine (tall_calls o pr _ (HO.out.below (by repeat (first | exact Below.refl _ _ | assumption | refine Below.drew ?_ | refine below_drewN ?_ _ | refine Below.alloc ?_ (by simp) _)))).mono ?_); rintro e w1 ⟨rfl, rfl⟩))
  go_quiet ((first | (with_reducible refine Calls.quiet_of_same (tall_calls (T.node yl yr yp yh) (some ⟨bY, 0, none⟩) _ (HXR.out.below (by repeat (first | exact Below.refl _ _ | assumption | refine Below.drew ?_ | refine below_drewN ?_ _ | refine Below.alloc ?_ (by simp) _))))) | (with_reducible refine Calls.quiet_of_same (tall_calls xl pxl _ (HXL.out.below (by repeat (first | exact Below.refl _ _ | assumption | refine Below.drew ?_ | refine below_drewN ?_ _ | refine Below.alloc ?_ (by simp) _)))))))
  go_wp2
  go_region_held3 (fun w' => w'.cell? ⟨bx, 0, none⟩ = some (Value.pointer pxl) ∧ w'.cell? ⟨bx, 1, none⟩ = some (Value.pointer (some ⟨bY, 0, none⟩)) ∧ w'.cell? ⟨bx, 2, none⟩ = some (Value.int .i64 xp.from_) ∧ w'.cell? ⟨bx, 3, none⟩ = some (Value.int .i64 xp.to) ∧ w'.cell? ⟨bx, 4, none⟩ = some (Value.int .i64 xp.cell.state) ∧ w'.cell? ⟨bx, 5, none⟩ = some (Value.int .i64 xp.cell.lot) ∧ w'.cell? ⟨bx, 6, none⟩ = some (Value.int .i64 xp.cell.owner) ∧ w'.cell? ⟨bx, 7, none⟩ = some (Value.int .i64 xp.cell.holder) ∧ w'.cell? ⟨bx, 8, none⟩ = some (Value.int .i64 xh) ∧ w'.cell? ⟨w.heap.size, 0, none⟩ = some (Value.int .i64 pc.from_) ∧ w'.cell? ⟨w.heap.size, 1, none⟩ = some (Value.int .i64 pc.to) ∧ w'.cell? ⟨w.heap.size, 2, none⟩ = some (Value.int .i64 pc.cell.state) ∧ w'.cell? ⟨w.heap.size, 3, none⟩ = some (Value.int .i64 pc.cell.lot) ∧ w'.cell? ⟨w.heap.size, 4, none⟩ = some (Value.int .i64 pc.cell.owner) ∧ w'.cell? ⟨w.heap.size, 5, none⟩ = some (Value.int .i64 pc.cell.holder) ∧ w'.cell? ⟨bY, 0, none⟩ = some (Value.pointer pYl) ∧ w'.cell? ⟨bY, 1, none⟩ = some (Value.pointer pYr) ∧ w'.cell? ⟨bY, 2, none⟩ = some (Value.int .i64 yp.from_) ∧ w'.cell? ⟨bY, 3, none⟩ = some (Value.int .i64 yp.to) ∧ w'.cell? ⟨bY, 4, none⟩ = some (Value.int .i64 yp.cell.state) ∧ w'.cell? ⟨bY, 5, none⟩ = some (Value.int .i64 yp.cell.lot) ∧ w'.cell? ⟨bY, 6, none⟩ = some (Value.int .i64 yp.cell.owner) ∧ w'.cell? ⟨bY, 7, none⟩ = some (Value.int .i64 yp.cell.holder) ∧ w'.cell? ⟨bY, 8, none⟩ = some (Value.int .i64 yh)) (go_keep) (first | ((with_reducible refine (node_calls xl yl pxl pYl xp _ (HXL.out.below (by repeat (first | exact Below.refl _ _ | assumption | refine Below.drew ?_ | refine below_drewN ?_ _ | refine Below.alloc ?_ (by simp) _))) (HYL.out.below (by repeat (first | exact Below.refl _ _ | assumption | refine Below.drew ?_ | refine below_drewN ?_ _ | refine Below.alloc ?_ (by simp) _))) (by simp only [T.tall] at *; omega) (by simp only [T.tall] at *; omega) (by simp only [T.tall] at *; omega) (by simp only [T.tall] at *; omega)).mono ?_); rintro e w1 ⟨b1, rfl, ht1, hw1, hs1⟩; obtain ⟨hc1, hf1⟩ := bcell hw1; have lx1 : bx < w1.heap.size := (by have := hw1.size; (try simp at this); omega); have ly1 : bY < w1.heap.size := (by have := hw1.size; (try simp at this); omega); have up1 : Below w.heap.size w w1 := Below.trans (by repeat (first | exact Below.refl _ _ | assumption | refine Below.drew ?_ | refine below_drewN ?_ _ | refine Below.alloc ?_ (by simp) _)) (hw1.mono (by simp)); have lo1 : w.heap.size < w1.heap.size := (by have := hw1.size; (try simp at this); omega)) | ((with_reducible refine (node_calls yr o pYr pr pc _ (HYR.out.below (by repeat (first | exact Below.refl _ _ | assumption | refine Below.drew ?_ | refine below_drewN ?_ _ | refine Below.alloc ?_ (by simp) _))) (HO.out.below (by repeat (first | exact Below.refl _ _ | assumption | refine Below.drew ?_ | refine below_drewN ?_ _ | refine Below.alloc ?_ (by simp) _))) (by simp only [T.tall] at *; omega) (by simp only [T.tall] at *; omega) (by simp only [T.tall] at *; omega) (by simp only [T.tall] at *; omega)).mono ?_); rintro e w2 ⟨b2, rfl, ht2, hw2, hs2⟩; obtain ⟨hc2, hf2⟩ := bcell hw2; have lx2 : bx < w2.heap.size := (by have := hw2.size; (try simp at this); omega); have ly2 : bY < w2.heap.size := (by have := hw2.size; (try simp at this); omega); have up2 : Below w.heap.size w w2 := up1.trans (hw2.mono up1.size); have lo2 : w.heap.size < w2.heap.size := (by have := hw2.size; (try simp at this); omega)) | ((with_reducible refine (node_calls (T.node xl yl xp _) (T.node yr o pc _) (some ⟨b1, 0, none⟩) (some ⟨b2, 0, none⟩) yp _ (ht1.below hw2) ht2 (by simp only [T.tall] at *; omega) (by simp only [T.tall] at *; omega) (by simp only [T.tall] at *; omega) (by simp only [T.tall] at *; omega)).mono ?_); rintro e w3 ⟨b3, rfl, ht3, hw3, hs3⟩; obtain ⟨hc3, hf3⟩ := bcell hw3; have lx3 : bx < w3.heap.size := (by have := hw3.size; (try simp at this); omega); have ly3 : bY < w3.heap.size := (by have := hw3.size; (try simp at this); omega); have up3 : Below w.heap.size w w3 := up2.trans (hw3.mono up2.size); have lo3 : w.heap.size < w3.heap.size := (by have := hw3.size; (try simp at this); omega)))
  go_wp2
  go_ret
  exact ⟨_, _, rfl, ht3, ⟨⟨HOK.out.2.2.1, HOK.out.1, rfl⟩, ⟨HOK.out.2.1, HOK.out.2.2.2, rfl⟩, rfl⟩, by simp [T.toList], up3⟩
set_option maxRecDepth 100000 in
set_option maxHeartbeats 4000000 in
theorem balanced_b1 (xl xr o : T) (xp : Pc) (xh : Int) (pc : Pc) (pl pr : Option Addr) (w : World) (hl : TreeAt w pl o) (hr : TreeAt w pr (T.node xl xr xp xh)) (okl : o.Ok) (okr : (T.node xl xr xp xh).Ok)
    (hb : (o.toList.length + (T.node xl xr xp xh).toList.length : Nat) ≤ 100000000) (h1 : o.tall + 1 < (T.node xl xr xp xh).tall) (h2 : xl.tall ≤ xr.tall) :
    Calls Tryz.prog 129 #[.pointer pl, pc.val, .pointer pr] w (JoinMade o (T.node xl xr xp xh) pc w) := by
  have HB := hid hr
  have HO := hid hl
  obtain ⟨okxl, okxr, okx⟩ := okr
  have oko := okl
  obtain ⟨bx, pxl, pxr, rfl, hkx, hxl, hxr⟩ := hr
  obtain ⟨ltx, cx0, cx1, cx2, cx3, cx4, cx5, cx6, cx7, cx8⟩ := node_cells hkx
  have HXL := hid hxl
  have HXR := hid hxr
  simp only [T.toList, List.length_append, List.length_cons] at hb
  have g0 := okxl.tall_ge
  have k0 := okxl.tall_le
  have g1 := okxr.tall_ge
  have k1 := okxr.tall_le
  have g2 := oko.tall_ge
  have k2 := oko.tall_le
  have HOK := hid (And.intro okxl (And.intro okxr oko))
  have HEX := hid okx
  have OX : xh ≤ 200000001 ∧ 0 ≤ xh := by omega
  have OB : (T.node xl xr xp xh).tall ≤ 200000001 ∧ 0 ≤ (T.node xl xr xp xh).tall := OX
  have ltx' : bx < w.heap.size + 1 := by omega
  have h3 : ¬ (T.node xl xr xp xh).tall + 1 < o.tall := by omega
  clear okxl okxr okx oko hkx hxl hxr hl
  go_enter Tryz.func129, Tryz.ntmps129
  go_wp2_with (first | ((with_reducible refine (tall_calls (T.node xl xr xp xh) (some ⟨bx, 0, none⟩) _ (HB.out.below (by repeat (first | exact Below.refl _ _ | assumption | refine Below.drew ?_ | refine below_drewN ?_ _ | refine Below.alloc ?_ (by simp) _)))).mono ?_); rintro e w1 ⟨rfl, rfl⟩) | ((with_reducible refine (tall_calls o pl _ (HO.out.below (by repeat (first | exact Below.refl _ _ | assumption | refine Below.drew ?_ | refine below_drewN ?_ _ | refine Below.alloc ?_ (by simp) _)))).mono ?_); rintro e w1 ⟨rfl, rfl⟩))
  go_quiet ((first | (with_reducible refine Calls.quiet_of_same (tall_calls xl pxl _ (HXL.out.below (by repeat (first | exact Below.refl _ _ | assumption | refine Below.drew ?_ | refine below_drewN ?_ _ | refine Below.alloc ?_ (by simp) _))))) | (with_reducible refine Calls.quiet_of_same (tall_calls xr pxr _ (HXR.out.below (by repeat (first | exact Below.refl _ _ | assumption | refine Below.drew ?_ | refine below_drewN ?_ _ | refine Below.alloc ?_ (by simp) _)))))))
  go_wp2
  go_region_held3 (fun w' => w'.cell? ⟨bx, 0, none⟩ = some (Value.pointer pxl) ∧ w'.cell? ⟨bx, 1, none⟩ = some (Value.pointer pxr) ∧ w'.cell? ⟨bx, 2, none⟩ = some (Value.int .i64 xp.from_) ∧ w'.cell? ⟨bx, 3, none⟩ = some (Value.int .i64 xp.to) ∧ w'.cell? ⟨bx, 4, none⟩ = some (Value.int .i64 xp.cell.state) ∧ w'.cell? ⟨bx, 5, none⟩ = some (Value.int .i64 xp.cell.lot) ∧ w'.cell? ⟨bx, 6, none⟩ = some (Value.int .i64 xp.cell.owner) ∧ w'.cell? ⟨bx, 7, none⟩ = some (Value.int .i64 xp.cell.holder) ∧ w'.cell? ⟨bx, 8, none⟩ = some (Value.int .i64 xh) ∧ w'.cell? ⟨w.heap.size, 0, none⟩ = some (Value.int .i64 pc.from_) ∧ w'.cell? ⟨w.heap.size, 1, none⟩ = some (Value.int .i64 pc.to) ∧ w'.cell? ⟨w.heap.size, 2, none⟩ = some (Value.int .i64 pc.cell.state) ∧ w'.cell? ⟨w.heap.size, 3, none⟩ = some (Value.int .i64 pc.cell.lot) ∧ w'.cell? ⟨w.heap.size, 4, none⟩ = some (Value.int .i64 pc.cell.owner) ∧ w'.cell? ⟨w.heap.size, 5, none⟩ = some (Value.int .i64 pc.cell.holder)) (go_keep) (first | ((with_reducible refine (node_calls o xl pl pxl pc _ (HO.out.below (by repeat (first | exact Below.refl _ _ | assumption | refine Below.drew ?_ | refine below_drewN ?_ _ | refine Below.alloc ?_ (by simp) _))) (HXL.out.below (by repeat (first | exact Below.refl _ _ | assumption | refine Below.drew ?_ | refine below_drewN ?_ _ | refine Below.alloc ?_ (by simp) _))) (by simp only [T.tall] at *; omega) (by simp only [T.tall] at *; omega) (by simp only [T.tall] at *; omega) (by simp only [T.tall] at *; omega)).mono ?_); rintro e w1 ⟨b1, rfl, ht1, hw1, hs1⟩; obtain ⟨hc1, hf1⟩ := bcell hw1; have lx1 : bx < w1.heap.size := (by have := hw1.size; (try simp at this); omega); have up1 : Below w.heap.size w w1 := Below.trans (by repeat (first | exact Below.refl _ _ | assumption | refine Below.drew ?_ | refine below_drewN ?_ _ | refine Below.alloc ?_ (by simp) _)) (hw1.mono (by simp)); have lo1 : w.heap.size < w1.heap.size := (by have := hw1.size; (try simp at this); omega)) | ((with_reducible refine (node_calls (T.node o xl pc _) xr (some ⟨b1, 0, none⟩) pxr xp _ ht1 (HXR.out.below (by repeat (first | exact Below.refl _ _ | assumption | refine Below.drew ?_ | refine below_drewN ?_ _ | refine Below.alloc ?_ (by simp) _))) (by simp only [T.tall] at *; omega) (by simp only [T.tall] at *; omega) (by simp only [T.tall] at *; omega) (by simp only [T.tall] at *; omega)).mono ?_); rintro e w2 ⟨b2, rfl, ht2, hw2, hs2⟩; obtain ⟨hc2, hf2⟩ := bcell hw2; have lx2 : bx < w2.heap.size := (by have := hw2.size; (try simp at this); omega); have up2 : Below w.heap.size w w2 := up1.trans (hw2.mono up1.size); have lo2 : w.heap.size < w2.heap.size := (by have := hw2.size; (try simp at this); omega)))
  go_wp2
  go_ret
  exact ⟨_, _, rfl, ht2, ⟨⟨HOK.out.2.2, HOK.out.1, rfl⟩, HOK.out.2.1, rfl⟩, by simp [T.toList], up2⟩
set_option maxRecDepth 100000 in
set_option maxHeartbeats 4000000 in
theorem balanced_b2 (xr yl yr o : T) (xp yp : Pc) (xh yh : Int) (pc : Pc) (pl pr : Option Addr) (w : World) (hl : TreeAt w pl o) (hr : TreeAt w pr (T.node (T.node yl yr yp yh) xr xp xh)) (okl : o.Ok) (okr : (T.node (T.node yl yr yp yh) xr xp xh).Ok)
    (hb : (o.toList.length + (T.node (T.node yl yr yp yh) xr xp xh).toList.length : Nat) ≤ 100000000) (h1 : o.tall + 1 < (T.node (T.node yl yr yp yh) xr xp xh).tall) (h2 : xr.tall < (T.node yl yr yp yh).tall) :
    Calls Tryz.prog 129 #[.pointer pl, pc.val, .pointer pr] w (JoinMade o (T.node (T.node yl yr yp yh) xr xp xh) pc w) := by
  have HB := hid hr
  have HO := hid hl
  obtain ⟨okxl, okxr, okx⟩ := okr
  have oko := okl
  obtain ⟨bx, pxl, pxr, rfl, hkx, hxl, hxr⟩ := hr
  obtain ⟨ltx, cx0, cx1, cx2, cx3, cx4, cx5, cx6, cx7, cx8⟩ := node_cells hkx
  obtain ⟨okyl, okyr, oky⟩ := okxl
  have HXL := hid hxl
  obtain ⟨bY, pYl, pYr, rfl, hky, hyl, hyr⟩ := hxl
  obtain ⟨lty, cy0, cy1, cy2, cy3, cy4, cy5, cy6, cy7, cy8⟩ := node_cells hky
  have HXR := hid hxr
  have HYL := hid hyl
  have HYR := hid hyr
  simp only [T.toList, List.length_append, List.length_cons] at hb
  have g0 := okyl.tall_ge
  have k0 := okyl.tall_le
  have g1 := okyr.tall_ge
  have k1 := okyr.tall_le
  have g2 := okxr.tall_ge
  have k2 := okxr.tall_le
  have g3 := oko.tall_ge
  have k3 := oko.tall_le
  have HOK := hid (And.intro okyl (And.intro okyr (And.intro okxr oko)))
  have HEY := hid oky
  have OY : yh ≤ 200000000 ∧ 0 ≤ yh := by omega
  have HEX := hid okx
  have e1 : (T.node yl yr yp yh).tall = yh := rfl
  have OX : xh ≤ 200000001 ∧ 0 ≤ xh := by omega
  clear e1
  have OB : (T.node (T.node yl yr yp yh) xr xp xh).tall ≤ 200000001 ∧ 0 ≤ (T.node (T.node yl yr yp yh) xr xp xh).tall := OX
  have ltx' : bx < w.heap.size + 1 := by omega
  have lty' : bY < w.heap.size + 1 := by omega
  have h3 : ¬ (T.node (T.node yl yr yp yh) xr xp xh).tall + 1 < o.tall := by omega
  clear okxr okx oko hkx hxr hl okyl okyr oky hky hyl hyr
  go_enter Tryz.func129, Tryz.ntmps129
  go_wp2_with (first | ((with_reducible refine (tall_calls (T.node (T.node yl yr yp yh) xr xp xh) (some ⟨bx, 0, none⟩) _ (HB.out.below (by repeat (first | exact Below.refl _ _ | assumption | refine Below.drew ?_ | refine below_drewN ?_ _ | refine Below.alloc ?_ (by simp) _)))).mono ?_); rintro e w1 ⟨rfl, rfl⟩) | ((with_reducible refine (tall_calls o pl _ (HO.out.below (by repeat (first | exact Below.refl _ _ | assumption | refine Below.drew ?_ | refine below_drewN ?_ _ | refine Below.alloc ?_ (by simp) _)))).mono ?_); rintro e w1 ⟨rfl, rfl⟩))
  go_quiet ((first | (with_reducible refine Calls.quiet_of_same (tall_calls (T.node yl yr yp yh) (some ⟨bY, 0, none⟩) _ (HXL.out.below (by repeat (first | exact Below.refl _ _ | assumption | refine Below.drew ?_ | refine below_drewN ?_ _ | refine Below.alloc ?_ (by simp) _))))) | (with_reducible refine Calls.quiet_of_same (tall_calls xr pxr _ (HXR.out.below (by repeat (first | exact Below.refl _ _ | assumption | refine Below.drew ?_ | refine below_drewN ?_ _ | refine Below.alloc ?_ (by simp) _)))))))
  go_wp2
  go_region_held3 (fun w' => w'.cell? ⟨bx, 0, none⟩ = some (Value.pointer (some ⟨bY, 0, none⟩)) ∧ w'.cell? ⟨bx, 1, none⟩ = some (Value.pointer pxr) ∧ w'.cell? ⟨bx, 2, none⟩ = some (Value.int .i64 xp.from_) ∧ w'.cell? ⟨bx, 3, none⟩ = some (Value.int .i64 xp.to) ∧ w'.cell? ⟨bx, 4, none⟩ = some (Value.int .i64 xp.cell.state) ∧ w'.cell? ⟨bx, 5, none⟩ = some (Value.int .i64 xp.cell.lot) ∧ w'.cell? ⟨bx, 6, none⟩ = some (Value.int .i64 xp.cell.owner) ∧ w'.cell? ⟨bx, 7, none⟩ = some (Value.int .i64 xp.cell.holder) ∧ w'.cell? ⟨bx, 8, none⟩ = some (Value.int .i64 xh) ∧ w'.cell? ⟨w.heap.size, 0, none⟩ = some (Value.int .i64 pc.from_) ∧ w'.cell? ⟨w.heap.size, 1, none⟩ = some (Value.int .i64 pc.to) ∧ w'.cell? ⟨w.heap.size, 2, none⟩ = some (Value.int .i64 pc.cell.state) ∧ w'.cell? ⟨w.heap.size, 3, none⟩ = some (Value.int .i64 pc.cell.lot) ∧ w'.cell? ⟨w.heap.size, 4, none⟩ = some (Value.int .i64 pc.cell.owner) ∧ w'.cell? ⟨w.heap.size, 5, none⟩ = some (Value.int .i64 pc.cell.holder) ∧ w'.cell? ⟨bY, 0, none⟩ = some (Value.pointer pYl) ∧ w'.cell? ⟨bY, 1, none⟩ = some (Value.pointer pYr) ∧ w'.cell? ⟨bY, 2, none⟩ = some (Value.int .i64 yp.from_) ∧ w'.cell? ⟨bY, 3, none⟩ = some (Value.int .i64 yp.to) ∧ w'.cell? ⟨bY, 4, none⟩ = some (Value.int .i64 yp.cell.state) ∧ w'.cell? ⟨bY, 5, none⟩ = some (Value.int .i64 yp.cell.lot) ∧ w'.cell? ⟨bY, 6, none⟩ = some (Value.int .i64 yp.cell.owner) ∧ w'.cell? ⟨bY, 7, none⟩ = some (Value.int .i64 yp.cell.holder) ∧ w'.cell? ⟨bY, 8, none⟩ = some (Value.int .i64 yh)) (go_keep) (first | ((with_reducible refine (node_calls o yl pl pYl pc _ (HO.out.below (by repeat (first | exact Below.refl _ _ | assumption | refine Below.drew ?_ | refine below_drewN ?_ _ | refine Below.alloc ?_ (by simp) _))) (HYL.out.below (by repeat (first | exact Below.refl _ _ | assumption | refine Below.drew ?_ | refine below_drewN ?_ _ | refine Below.alloc ?_ (by simp) _))) (by simp only [T.tall] at *; omega) (by simp only [T.tall] at *; omega) (by simp only [T.tall] at *; omega) (by simp only [T.tall] at *; omega)).mono ?_); rintro e w1 ⟨b1, rfl, ht1, hw1, hs1⟩; obtain ⟨hc1, hf1⟩ := bcell hw1; have lx1 : bx < w1.heap.size := (by have := hw1.size; (try simp at this); omega); have ly1 : bY < w1.heap.size := (by have := hw1.size; (try simp at this); omega); have up1 : Below w.heap.size w w1 := Below.trans (by repeat (first | exact Below.refl _ _ | assumption | refine Below.drew ?_ | refine below_drewN ?_ _ | refine Below.alloc ?_ (by simp) _)) (hw1.mono (by simp)); have lo1 : w.heap.size < w1.heap.size := (by have := hw1.size; (try simp at this); omega)) | ((with_reducible refine (node_calls yr xr pYr pxr xp _ (HYR.out.below (by repeat (first | exact Below.refl _ _ | assumption | refine Below.drew ?_ | refine below_drewN ?_ _ | refine Below.alloc ?_ (by simp) _))) (HXR.out.below (by repeat (first | exact Below.refl _ _ | assumption | refine Below.drew ?_ | refine below_drewN ?_ _ | refine Below.alloc ?_ (by simp) _))) (by simp only [T.tall] at *; omega) (by simp only [T.tall] at *; omega) (by simp only [T.tall] at *; omega) (by simp only [T.tall] at *; omega)).mono ?_); rintro e w2 ⟨b2, rfl, ht2, hw2, hs2⟩; obtain ⟨hc2, hf2⟩ := bcell hw2; have lx2 : bx < w2.heap.size := (by have := hw2.size; (try simp at this); omega); have ly2 : bY < w2.heap.size := (by have := hw2.size; (try simp at this); omega); have up2 : Below w.heap.size w w2 := up1.trans (hw2.mono up1.size); have lo2 : w.heap.size < w2.heap.size := (by have := hw2.size; (try simp at this); omega)) | ((with_reducible refine (node_calls (T.node o yl pc _) (T.node yr xr xp _) (some ⟨b1, 0, none⟩) (some ⟨b2, 0, none⟩) yp _ (ht1.below hw2) ht2 (by simp only [T.tall] at *; omega) (by simp only [T.tall] at *; omega) (by simp only [T.tall] at *; omega) (by simp only [T.tall] at *; omega)).mono ?_); rintro e w3 ⟨b3, rfl, ht3, hw3, hs3⟩; obtain ⟨hc3, hf3⟩ := bcell hw3; have lx3 : bx < w3.heap.size := (by have := hw3.size; (try simp at this); omega); have ly3 : bY < w3.heap.size := (by have := hw3.size; (try simp at this); omega); have up3 : Below w.heap.size w w3 := up2.trans (hw3.mono up2.size); have lo3 : w.heap.size < w3.heap.size := (by have := hw3.size; (try simp at this); omega)))
  go_wp2
  go_ret
  exact ⟨_, _, rfl, ht3, ⟨⟨HOK.out.2.2.2, HOK.out.1, rfl⟩, ⟨HOK.out.2.1, HOK.out.2.2.1, rfl⟩, rfl⟩, by simp [T.toList], up3⟩
end Go.Proofs.YtepldjidkomclaaGreat.St
namespace Go.Proofs.YtepldjidkomclaaGreat.St
set_option linter.unusedSimpArgs false
set_option linter.unusedVariables false
open Go.RowKit
attribute [local go_sem ↓] Go.wp_at_zero Go.wp_at_succ
theorem balanced_calls (l r : T) (pc : Pc) (pl pr : Option Addr) (w : World) (hl : TreeAt w pl l) (hr : TreeAt w pr r) (okl : l.Ok) (okr : r.Ok)
    (hb : (l.toList.length + r.toList.length : Nat) ≤ 100000000) :
    Calls Tryz.prog 129 #[.pointer pl, pc.val, .pointer pr] w (JoinMade l r pc w) := by
  have g1 := okl.tall_ge
  have g2 := okr.tall_ge
  by_cases h1 : r.tall + 1 < l.tall
  · cases l with
    | nil => simp only [T.tall] at *; omega
    | node xl xr xp xh =>
      by_cases h2 : xr.tall ≤ xl.tall
      · exact balanced_a1 xl xr r xp xh pc pl pr w hl hr okl okr hb h1 h2
      · cases xr with
        | nil => have := okl.1.tall_ge; simp only [T.tall] at *; omega
        | node yl yr yp yh => exact balanced_a2 xl yl yr r xp yp xh yh pc pl pr w hl hr okl okr hb h1 (by omega)
  · by_cases h3 : l.tall + 1 < r.tall
    · cases r with
      | nil => simp only [T.tall] at *; omega
      | node xl xr xp xh =>
        by_cases h2 : xl.tall ≤ xr.tall
        · exact balanced_b1 xl xr l xp xh pc pl pr w hl hr okl okr hb h3 h2
        · cases xl with
          | nil => have := okr.2.1.tall_ge; simp only [T.tall] at *; omega
          | node yl yr yp yh => exact balanced_b2 xr yl yr l xp yp xh yh pc pl pr w hl hr okl okr hb h3 (by omega)
    · exact balanced_c l r pc pl pr w hl hr okl okr hb h1 h3
def T.size : T → Nat
  | .nil => 0
  | .node l r _ _ => l.size + r.size + 1
def LinkedTo (n : Nat) : Prop := ∀ (l r : T) (pc : Pc) (pl pr : Option Addr) (w : World), l.size + r.size < n → TreeAt w pl l → TreeAt w pr r → l.Ok → r.Ok →
    (l.toList.length + r.toList.length : Nat) ≤ 100000000 → Calls Tryz.prog 115 #[.pointer pl, pc.val, .pointer pr] w (JoinMade l r pc w)
theorem LinkedTo.use {n : Nat} (h : LinkedTo n) (l r : T) (pc : Pc) (pl pr : Option Addr) (w : World) (hs : l.size + r.size < n) (hl : TreeAt w pl l) (hr : TreeAt w pr r) (okl : l.Ok) (okr : r.Ok)
    (hb : (l.toList.length + r.toList.length : Nat) ≤ 100000000) : Calls Tryz.prog 115 #[.pointer pl, pc.val, .pointer pr] w (JoinMade l r pc w) := h l r pc pl pr w hs hl hr okl okr hb
set_option maxRecDepth 100000 in
set_option maxHeartbeats 4000000 in
theorem linked_a (n : Nat) (ih : LinkedTo n) (xl xr o : T) (xp : Pc) (xh : Int) (pc : Pc) (pl pr : Option Addr) (w : World) (hs : (T.node xl xr xp xh).size + o.size < n + 1) (hl : TreeAt w pl (T.node xl xr xp xh)) (hr : TreeAt w pr o) (okl : (T.node xl xr xp xh).Ok) (okr : o.Ok)
    (hb : ((T.node xl xr xp xh).toList.length + o.toList.length : Nat) ≤ 100000000) (h1 : o.tall + 1 < (T.node xl xr xp xh).tall) :
    Calls Tryz.prog 115 #[.pointer pl, pc.val, .pointer pr] w (JoinMade (T.node xl xr xp xh) o pc w) := by
  have HB := hid hl
  have HO := hid hr
  obtain ⟨okxl, okxr, okx⟩ := okl
  have oko := okr
  obtain ⟨bx, pxl, pxr, rfl, hkx, hxl, hxr⟩ := hl
  obtain ⟨ltx, cx0, cx1, cx2, cx3, cx4, cx5, cx6, cx7, cx8⟩ := node_cells hkx
  have HXL := hid hxl
  have HXR := hid hxr
  have HL := hid hb
  simp only [T.toList, List.length_append, List.length_cons] at hb
  have g0 := okxl.tall_ge
  have k0 := okxl.tall_le
  have g1 := okxr.tall_ge
  have k1 := okxr.tall_le
  have g2 := oko.tall_ge
  have k2 := oko.tall_le
  have hsz : xr.size + o.size < n := by simp only [T.size] at hs; omega
  have hbz : xr.toList.length + o.toList.length ≤ 100000000 := by omega
  have HOK := hid (And.intro okxl (And.intro okxr oko))
  have OB : (T.node xl xr xp xh).tall ≤ 200000001 ∧ 0 ≤ (T.node xl xr xp xh).tall := by simp only [T.tall]; omega
  have ltx' : bx < w.heap.size + 1 := by omega
  have HI := hid ih
  clear ih okxl okxr okx oko hkx hxl hxr hr okr
  go_enter Tryz.func115, Tryz.ntmps115
  go_wp2_with (first | ((with_reducible refine (tall_calls (T.node xl xr xp xh) (some ⟨bx, 0, none⟩) _ (HB.out.below (by repeat (first | exact Below.refl _ _ | assumption | refine Below.drew ?_ | refine below_drewN ?_ _ | refine Below.alloc ?_ (by simp) _)))).mono ?_); rintro e w1 ⟨rfl, rfl⟩) | ((with_reducible refine (tall_calls o pr _ (HO.out.below (by repeat (first | exact Below.refl _ _ | assumption | refine Below.drew ?_ | refine below_drewN ?_ _ | refine Below.alloc ?_ (by simp) _)))).mono ?_); rintro e w1 ⟨rfl, rfl⟩))
  go_region_held3 (fun w' => w'.cell? ⟨bx, 0, none⟩ = some (Value.pointer pxl) ∧ w'.cell? ⟨bx, 1, none⟩ = some (Value.pointer pxr) ∧ w'.cell? ⟨bx, 2, none⟩ = some (Value.int .i64 xp.from_) ∧ w'.cell? ⟨bx, 3, none⟩ = some (Value.int .i64 xp.to) ∧ w'.cell? ⟨bx, 4, none⟩ = some (Value.int .i64 xp.cell.state) ∧ w'.cell? ⟨bx, 5, none⟩ = some (Value.int .i64 xp.cell.lot) ∧ w'.cell? ⟨bx, 6, none⟩ = some (Value.int .i64 xp.cell.owner) ∧ w'.cell? ⟨bx, 7, none⟩ = some (Value.int .i64 xp.cell.holder) ∧ w'.cell? ⟨bx, 8, none⟩ = some (Value.int .i64 xh) ∧ w'.cell? ⟨w.heap.size, 0, none⟩ = some (Value.int .i64 pc.from_) ∧ w'.cell? ⟨w.heap.size, 1, none⟩ = some (Value.int .i64 pc.to) ∧ w'.cell? ⟨w.heap.size, 2, none⟩ = some (Value.int .i64 pc.cell.state) ∧ w'.cell? ⟨w.heap.size, 3, none⟩ = some (Value.int .i64 pc.cell.lot) ∧ w'.cell? ⟨w.heap.size, 4, none⟩ = some (Value.int .i64 pc.cell.owner) ∧ w'.cell? ⟨w.heap.size, 5, none⟩ = some (Value.int .i64 pc.cell.holder)) (go_keep) (first | ((with_reducible refine (LinkedTo.use HI.out xr o pc pxr pr _ hsz (HXR.out.below (by repeat (first | exact Below.refl _ _ | assumption | refine Below.drew ?_ | refine below_drewN ?_ _ | refine Below.alloc ?_ (by simp) _))) (HO.out.below (by repeat (first | exact Below.refl _ _ | assumption | refine Below.drew ?_ | refine below_drewN ?_ _ | refine Below.alloc ?_ (by simp) _))) HOK.out.2.1 HOK.out.2.2 hbz).mono ?_); rintro e w1 ⟨q1, t1, rfl, ht1, ok1, el1, hw1⟩; have hb1 : xl.toList.length + t1.toList.length ≤ 100000000 := (by rw [el1]; simp; omega); have HE1 := hid el1; have HO1 := hid ok1; clear el1 ok1; obtain ⟨hc1, hf1⟩ := bcell hw1; have up1 : Below w.heap.size w w1 := Below.trans (by repeat (first | exact Below.refl _ _ | assumption | refine Below.drew ?_ | refine below_drewN ?_ _ | refine Below.alloc ?_ (by simp) _)) (hw1.mono (by simp))) | ((with_reducible refine (balanced_calls xl t1 xp pxl q1 _ (HXL.out.below (by repeat (first | exact Below.refl _ _ | assumption | refine Below.drew ?_ | refine below_drewN ?_ _ | refine Below.alloc ?_ (by simp) _))) ht1 HOK.out.1 HO1.out hb1).mono ?_); rintro e w2 ⟨q2, t2, rfl, ht2, ok2, el2, hw2⟩; have HE2 := hid el2; have HO2 := hid ok2; clear el2 ok2; obtain ⟨hc2, hf2⟩ := bcell hw2; have up2 : Below w.heap.size w w2 := up1.trans (hw2.mono up1.size); have lx2 : bx < w1.heap.size := (by have := hw1.size; (try simp at this); omega); have lo2 : w.heap.size < w1.heap.size := (by have := hw1.size; (try simp at this); omega)))
  go_wp2
  go_ret
  exact ⟨_, _, rfl, ht2, HO2.out, by rw [HE2.out, HE1.out]; simp [T.toList], up2⟩
set_option maxRecDepth 100000 in
set_option maxHeartbeats 4000000 in
theorem linked_b (n : Nat) (ih : LinkedTo n) (xl xr o : T) (xp : Pc) (xh : Int) (pc : Pc) (pl pr : Option Addr) (w : World) (hs : o.size + (T.node xl xr xp xh).size < n + 1) (hl : TreeAt w pl o) (hr : TreeAt w pr (T.node xl xr xp xh)) (okl : o.Ok) (okr : (T.node xl xr xp xh).Ok)
    (hb : (o.toList.length + (T.node xl xr xp xh).toList.length : Nat) ≤ 100000000) (h1 : o.tall + 1 < (T.node xl xr xp xh).tall) :
    Calls Tryz.prog 115 #[.pointer pl, pc.val, .pointer pr] w (JoinMade o (T.node xl xr xp xh) pc w) := by
  have HB := hid hr
  have HO := hid hl
  obtain ⟨okxl, okxr, okx⟩ := okr
  have oko := okl
  obtain ⟨bx, pxl, pxr, rfl, hkx, hxl, hxr⟩ := hr
  obtain ⟨ltx, cx0, cx1, cx2, cx3, cx4, cx5, cx6, cx7, cx8⟩ := node_cells hkx
  have HXL := hid hxl
  have HXR := hid hxr
  have HL := hid hb
  simp only [T.toList, List.length_append, List.length_cons] at hb
  have g0 := okxl.tall_ge
  have k0 := okxl.tall_le
  have g1 := okxr.tall_ge
  have k1 := okxr.tall_le
  have g2 := oko.tall_ge
  have k2 := oko.tall_le
  have hsz : o.size + xl.size < n := by simp only [T.size] at hs; omega
  have hbz : o.toList.length + xl.toList.length ≤ 100000000 := by omega
  have HOK := hid (And.intro okxl (And.intro okxr oko))
  have OB : (T.node xl xr xp xh).tall ≤ 200000001 ∧ 0 ≤ (T.node xl xr xp xh).tall := by simp only [T.tall]; omega
  have ltx' : bx < w.heap.size + 1 := by omega
  have HI := hid ih
  have h3 : ¬ (T.node xl xr xp xh).tall + 1 < o.tall := by omega
  clear ih okxl okxr okx oko hkx hxl hxr hl okl
  go_enter Tryz.func115, Tryz.ntmps115
  go_wp2_with (first | ((with_reducible refine (tall_calls (T.node xl xr xp xh) (some ⟨bx, 0, none⟩) _ (HB.out.below (by repeat (first | exact Below.refl _ _ | assumption | refine Below.drew ?_ | refine below_drewN ?_ _ | refine Below.alloc ?_ (by simp) _)))).mono ?_); rintro e w1 ⟨rfl, rfl⟩) | ((with_reducible refine (tall_calls o pl _ (HO.out.below (by repeat (first | exact Below.refl _ _ | assumption | refine Below.drew ?_ | refine below_drewN ?_ _ | refine Below.alloc ?_ (by simp) _)))).mono ?_); rintro e w1 ⟨rfl, rfl⟩))
  go_region_held3 (fun w' => w'.cell? ⟨bx, 0, none⟩ = some (Value.pointer pxl) ∧ w'.cell? ⟨bx, 1, none⟩ = some (Value.pointer pxr) ∧ w'.cell? ⟨bx, 2, none⟩ = some (Value.int .i64 xp.from_) ∧ w'.cell? ⟨bx, 3, none⟩ = some (Value.int .i64 xp.to) ∧ w'.cell? ⟨bx, 4, none⟩ = some (Value.int .i64 xp.cell.state) ∧ w'.cell? ⟨bx, 5, none⟩ = some (Value.int .i64 xp.cell.lot) ∧ w'.cell? ⟨bx, 6, none⟩ = some (Value.int .i64 xp.cell.owner) ∧ w'.cell? ⟨bx, 7, none⟩ = some (Value.int .i64 xp.cell.holder) ∧ w'.cell? ⟨bx, 8, none⟩ = some (Value.int .i64 xh) ∧ w'.cell? ⟨w.heap.size, 0, none⟩ = some (Value.int .i64 pc.from_) ∧ w'.cell? ⟨w.heap.size, 1, none⟩ = some (Value.int .i64 pc.to) ∧ w'.cell? ⟨w.heap.size, 2, none⟩ = some (Value.int .i64 pc.cell.state) ∧ w'.cell? ⟨w.heap.size, 3, none⟩ = some (Value.int .i64 pc.cell.lot) ∧ w'.cell? ⟨w.heap.size, 4, none⟩ = some (Value.int .i64 pc.cell.owner) ∧ w'.cell? ⟨w.heap.size, 5, none⟩ = some (Value.int .i64 pc.cell.holder)) (go_keep) (first | ((with_reducible refine (LinkedTo.use HI.out o xl pc pl pxl _ hsz (HO.out.below (by repeat (first | exact Below.refl _ _ | assumption | refine Below.drew ?_ | refine below_drewN ?_ _ | refine Below.alloc ?_ (by simp) _))) (HXL.out.below (by repeat (first | exact Below.refl _ _ | assumption | refine Below.drew ?_ | refine below_drewN ?_ _ | refine Below.alloc ?_ (by simp) _))) HOK.out.2.2 HOK.out.1 hbz).mono ?_); rintro e w1 ⟨q1, t1, rfl, ht1, ok1, el1, hw1⟩; have hb1 : t1.toList.length + xr.toList.length ≤ 100000000 := (by rw [el1]; simp; omega); have HE1 := hid el1; have HO1 := hid ok1; clear el1 ok1; obtain ⟨hc1, hf1⟩ := bcell hw1; have up1 : Below w.heap.size w w1 := Below.trans (by repeat (first | exact Below.refl _ _ | assumption | refine Below.drew ?_ | refine below_drewN ?_ _ | refine Below.alloc ?_ (by simp) _)) (hw1.mono (by simp))) | ((with_reducible refine (balanced_calls t1 xr xp q1 pxr _ ht1 (HXR.out.below (by repeat (first | exact Below.refl _ _ | assumption | refine Below.drew ?_ | refine below_drewN ?_ _ | refine Below.alloc ?_ (by simp) _))) HO1.out HOK.out.2.1 hb1).mono ?_); rintro e w2 ⟨q2, t2, rfl, ht2, ok2, el2, hw2⟩; have HE2 := hid el2; have HO2 := hid ok2; clear el2 ok2; obtain ⟨hc2, hf2⟩ := bcell hw2; have up2 : Below w.heap.size w w2 := up1.trans (hw2.mono up1.size); have lx2 : bx < w1.heap.size := (by have := hw1.size; (try simp at this); omega); have lo2 : w.heap.size < w1.heap.size := (by have := hw1.size; (try simp at this); omega)))
  go_wp2
  go_ret
  exact ⟨_, _, rfl, ht2, HO2.out, by rw [HE2.out, HE1.out]; simp [T.toList], up2⟩
set_option maxRecDepth 100000 in
set_option maxHeartbeats 4000000 in
theorem linked_c (l r : T) (pc : Pc) (pl pr : Option Addr) (w : World) (hl : TreeAt w pl l) (hr : TreeAt w pr r) (okl : l.Ok) (okr : r.Ok)
    (hb : (l.toList.length + r.toList.length : Nat) ≤ 100000000) (h1 : ¬ r.tall + 1 < l.tall) (h2 : ¬ l.tall + 1 < r.tall) :
    Calls Tryz.prog 115 #[.pointer pl, pc.val, .pointer pr] w (JoinMade l r pc w) := by
  have b1 := okl.tall_ge
  have b2 := okr.tall_ge
  have b3 := okl.tall_le
  have b4 := okr.tall_le
  have HOL := hid okl
  have HOR := hid okr
  have HHL := hid hl
  have HHR := hid hr
  clear okl okr hl hr
  go_enter Tryz.func115, Tryz.ntmps115
  go_wp2_with (first | ((with_reducible refine (tall_calls l pl _ (HHL.out.below (by repeat (first | exact Below.refl _ _ | assumption | refine Below.drew ?_ | refine below_drewN ?_ _ | refine Below.alloc ?_ (by simp) _)))).mono ?_); rintro e w1 ⟨rfl, rfl⟩) | ((with_reducible refine (tall_calls r pr _ (HHR.out.below (by repeat (first | exact Below.refl _ _ | assumption | refine Below.drew ?_ | refine below_drewN ?_ _ | refine Below.alloc ?_ (by simp) _)))).mono ?_); rintro e w1 ⟨rfl, rfl⟩) | ((with_reducible refine (node_calls l r pl pr pc _ (HHL.out.below (by repeat (first | exact Below.refl _ _ | assumption | refine Below.drew ?_ | refine below_drewN ?_ _ | refine Below.alloc ?_ (by simp) _))) (HHR.out.below (by repeat (first | exact Below.refl _ _ | assumption | refine Below.drew ?_ | refine below_drewN ?_ _ | refine Below.alloc ?_ (by simp) _))) (by omega) (by omega) (by omega) (by omega)).mono ?_); rintro e w1 ⟨b1, rfl, ht1, hw1, hs1⟩))
  go_ret
  exact ⟨_, _, rfl, ht1, ⟨HOL.out, HOR.out, rfl⟩, rfl, Below.trans (by repeat (first | exact Below.refl _ _ | assumption | refine Below.drew ?_ | refine below_drewN ?_ _ | refine Below.alloc ?_ (by simp) _)) (hw1.mono (by simp))⟩
theorem linked_to : ∀ n, LinkedTo n
  | 0 => fun _ _ _ _ _ _ h => absurd h (by omega)
  | n + 1 => fun l r pc pl pr w hs hl hr okl okr hb => by
    have ih := linked_to n
    have g1 := okl.tall_ge
    have g2 := okr.tall_ge
    by_cases h1 : r.tall + 1 < l.tall
    · cases l with
      | nil => simp only [T.tall] at *; omega
      | node xl xr xp xh => exact linked_a n ih xl xr r xp xh pc pl pr w hs hl hr okl okr hb h1
    · by_cases h3 : l.tall + 1 < r.tall
      · cases r with
        | nil => simp only [T.tall] at *; omega
        | node xl xr xp xh => exact linked_b n ih xl xr l xp xh pc pl pr w hs hl hr okl okr hb h3
      · exact linked_c l r pc pl pr w hl hr okl okr hb h1 h3
theorem linked_calls (l r : T) (pc : Pc) (pl pr : Option Addr) (w : World) (hl : TreeAt w pl l) (hr : TreeAt w pr r) (okl : l.Ok) (okr : r.Ok)
    (hb : (l.toList.length + r.toList.length : Nat) ≤ 100000000) :
    Calls Tryz.prog 115 #[.pointer pl, pc.val, .pointer pr] w (JoinMade l r pc w) := linked_to _ l r pc pl pr w (Nat.lt_succ_self _) hl hr okl okr hb
end Go.Proofs.YtepldjidkomclaaGreat.St
namespace Go.Proofs.YtepldjidkomclaaGreat.St
set_option linter.unusedSimpArgs false
set_option linter.unusedVariables false
open Go.RowKit
def Cells (w : World) (B : Nat) (cs : Array Value) (ty : TypeId) : Prop := w.heap[B]? = some (.cells cs ty)
theorem Cells.lt {w : World} {B : Nat} {cs : Array Value} {ty : TypeId} (h : Cells w B cs ty) : B < w.heap.size := (Array.getElem?_eq_some_iff.1 h).1
theorem Cells.cell {w : World} {B : Nat} {cs : Array Value} {ty : TypeId} (h : Cells w B cs ty) (j : Nat) : w.cell? ⟨B, j, none⟩ = cs[j]? := cells_of_block h j
theorem pc_facts {w : World} {B : Nat} {p : Pc} {ty : TypeId} (h : Cells w B p.vals ty) : w.cell? ⟨B, 0, none⟩ = some (Value.int .i64 p.from_) ∧ w.cell? ⟨B, 1, none⟩ = some (Value.int .i64 p.to) ∧ w.cell? ⟨B, 2, none⟩ = some (Value.int .i64 p.cell.state) ∧ w.cell? ⟨B, 3, none⟩ = some (Value.int .i64 p.cell.lot) ∧ w.cell? ⟨B, 4, none⟩ = some (Value.int .i64 p.cell.owner) ∧ w.cell? ⟨B, 5, none⟩ = some (Value.int .i64 p.cell.holder) := by
  have := h.cell
  simp [this]
theorem Cells.frozen {w : World} {B : Nat} {cs : Array Value} {ty : TypeId} (h : Cells w B cs ty) (j : Nat) : w.frozen? ⟨B, j, none⟩ = false := by
  simp [World.frozen?, show w.heap[B]? = _ from h]
theorem Cells.below {w w' : World} {B C : Nat} {cs : Array Value} {ty : TypeId} (h : Cells w B cs ty) (hb : Below C w w') (hC : B < C) : Cells w' B cs ty := (hb.block B hC).trans h
theorem Cells.new (w : World) (cs : Array Value) (ty : TypeId) : Cells (w.alloc (.cells cs ty)) w.heap.size cs ty := heap_alloc_new w _
theorem Cells.drew {w : World} {B : Nat} {cs : Array Value} {ty : TypeId} (h : Cells w B cs ty) : Cells w.drew B cs ty := h
theorem Cells.alloc {w : World} {B : Nat} {cs : Array Value} {ty : TypeId} (h : Cells w B cs ty) (o : Obj) : Cells (w.alloc o) B cs ty := (Below.heap_alloc w o B h.lt).trans h
theorem Cells.set {w : World} {B : Nat} {cs : Array Value} {ty : TypeId} (h : Cells w B cs ty) (j : Nat) (v : Value) : Cells (w.setCell ⟨B, j, none⟩ v) B (cs.setIfInBounds j v) ty := by
  obtain ⟨hlt, hk⟩ := Array.getElem?_eq_some_iff.1 h
  show (w.heap.modify B _)[B]? = _
  rw [Array.getElem?_eq_getElem (by rw [Array.size_modify]; exact hlt), Array.getElem_modify_self, hk]
  rfl
theorem Cells.set_far {w : World} {B C : Nat} {cs : Array Value} {ty : TypeId} (h : Cells w B cs ty) (j : Nat) (v : Value) (hne : B ≠ C) : Cells (w.setCell ⟨C, j, none⟩ v) B cs ty :=
  (Below.heap_setCell w ⟨C, j, none⟩ v B hne).trans h
theorem TreeAt.keepT {w w' : World} (hk : ∀ (b : Nat) (cs : Array Value), w.heap[b]? = some (Obj.cells cs 156) → w'.heap[b]? = w.heap[b]?) : ∀ {t : T} {p : Option Addr}, TreeAt w p t → TreeAt w' p t
  | .nil, _, h => h
  | .node l r pc h, _, ⟨b, pl, pr, hp, hb, hl, hr⟩ => ⟨b, pl, pr, hp, (hk b _ hb).trans hb, TreeAt.keepT hk hl, TreeAt.keepT hk hr⟩
theorem TreeAt.set {w : World} {t : T} {p : Option Addr} (h : TreeAt w p t) {B : Nat} {cs : Array Value} {ty : TypeId} (hc : Cells w B cs ty) (hty : ty ≠ 156) (j : Nat) (v : Value) : TreeAt (w.setCell ⟨B, j, none⟩ v) p t :=
  h.keepT fun b cs' hb => Below.heap_setCell w ⟨B, j, none⟩ v b (fun e => by
    have e' : b = B := e
    subst e'
    have := (show w.heap[b]? = _ from hc).symm.trans hb
    simp at this
    exact hty this.2)
theorem undrew {B : Nat} {w w' : World} (h : Below B w.drew w') : Below B w w' := ⟨h.os, h.tape, h.output, h.size, h.block⟩
@[reducible] def put6 (w : World) (B : Nat) (p : Pc) : World :=
  ((((((w.setCell ⟨B, 0, none⟩ (.int .i64 p.from_)).setCell ⟨B, 1, none⟩ (.int .i64 p.to)).setCell ⟨B, 2, none⟩ (.int .i64 p.cell.state)).setCell ⟨B, 3, none⟩ (.int .i64 p.cell.lot)).setCell ⟨B, 4, none⟩ (.int .i64 p.cell.owner)).setCell ⟨B, 5, none⟩ (.int .i64 p.cell.holder))
theorem put6_cells {w : World} {B : Nat} {a b c d e f : Value} (h : Cells w B #[a, b, c, d, e, f] 97) (p : Pc) : Cells (put6 w B p) B p.vals 97 :=
  (((((h.set 0 _).set 1 _).set 2 _).set 3 _).set 4 _).set 5 _
theorem put6_tree {w : World} {B : Nat} {cs : Array Value} (h : Cells w B cs 97) (p : Pc) {t : T} {q : Option Addr} (ht : TreeAt w q t) : TreeAt (put6 w B p) q t := by
  have n : (97 : TypeId) ≠ 156 := by decide
  exact (((((ht.set h n 0 _).set (h.set 0 _) n 1 _).set ((h.set 0 _).set 1 _) n 2 _).set (((h.set 0 _).set 1 _).set 2 _) n 3 _).set ((((h.set 0 _).set 1 _).set 2 _).set 3 _) n 4 _).set (((((h.set 0 _).set 1 _).set 2 _).set 3 _).set 4 _) n 5 _
theorem put6_below {w w0 : World} {B C : Nat} (p : Pc) (h : Below C w0 w) (hB : C ≤ B) : Below C w0 (put6 w B p) :=
  (((((h.setCell (p := ⟨B, 0, none⟩) hB _).setCell (p := ⟨B, 1, none⟩) hB _).setCell (p := ⟨B, 2, none⟩) hB _).setCell (p := ⟨B, 3, none⟩) hB _).setCell (p := ⟨B, 4, none⟩) hB _).setCell (p := ⟨B, 5, none⟩) hB _
end Go.Proofs.YtepldjidkomclaaGreat.St
