/- Cells of own rows. No function of the program in sight. A row of prices of the law's own. -/
import Derived.Test.YtojednnciknhpaaDoorJRowx
import Derived.Test.YtojednnciknhpaaDoorJLh1
namespace Go.Proofs.YtojednnciknhpaaDoor
set_option linter.unusedSimpArgs false
set_option linter.unusedVariables false
open Go.RowKit
theorem own_cap {α : Type} {enc : α → List Value} {sz : Nat} {e : TypeId} {B : Nat} {w : World} {p : Option Addr} {n c : Nat} {l : List α} (h : OwnE enc sz e B w (.slice p n c) l) : n ≤ c := by
  rcases h.2 with ⟨h1, h2⟩ | ⟨g, c', cur, h1, h2, h3, h4, h5, h6, h7⟩
  · injection h1 with e1 e2 e3
    omega
  · injection h1 with e1 e2 e3
    omega
theorem own_block {α : Type} {enc : α → List Value} {sz : Nat} {e : TypeId} {B : Nat} {w : World} {g n c : Nat} {l : List α} (h : OwnE enc sz e B w (.slice (some ⟨g, 0, none⟩) n c) l) : B ≤ g ∧ ∃ cs, Cells w g cs e := by
  rcases h.2 with ⟨h1, h2⟩ | ⟨g', c', cur, h1, h2, h3, _⟩
  · cases h1
  · injection h1 with e1 e2 e3
    injection e1 with e1
    injection e1 with e1
    subst e1
    exact ⟨h2, cur, h3⟩
/-- A cell of an own row of integers. -/
theorem own_at {e : TypeId} {B : Nat} {w : World} {p : Option Addr} {n c : Nat} {l : List Int} (h : OwnE encI 1 e B w (.slice p n c) l) {i : Nat} (hi : i < l.length) : ∃ g, p = some ⟨g, 0, none⟩ ∧ w.cell? ⟨g, i, none⟩ = some (.int .i64 l[i]) ∧ w.frozen? ⟨g, i, none⟩ = false := by
  obtain ⟨p', c', b, hv, hp, hc⟩ := h.cells encI_len
  injection hv with e1 e2 e3
  subst e1
  obtain ⟨rfl, _, _⟩ := hp (by omega)
  refine ⟨b, rfl, ?_, ?_⟩
  · have := hc i hi 0 (by omega)
    simpa [encI] using this
  · obtain ⟨_, cs, hcs⟩ := own_block h
    exact hcs.frozen i

end Go.Proofs.YtojednnciknhpaaDoor
namespace Go.Proofs.YtojednnciknhpaaDoor
set_option linter.unusedSimpArgs false
set_option linter.unusedVariables false
open Go.RowKit
/-- A row of prices beside what lies before it. -/
structure PrS (w1 w : World) (vp : Value) (p : List Int) : Prop where
  b : Below w1.heap.size w1 w
  rp : RowI w1.heap.size w vp p
theorem PrS.below {w1 w w' : World} {vp : Value} {p : List Int} (h : PrS w1 w vp p) (hb : Below w.heap.size w w') : PrS w1 w' vp p := ⟨h.b.trans (hb.mono h.b.size), h.rp.below hb⟩
theorem PrS.app {w1 w : World} {vp : Value} {p : List Int} (h : PrS w1 w vp p) (x : Int) (hl : p.length ≤ 1000) : ∃ v' w', (Builtin.append_ #[22, 22] 22 #[vp, .slice (some ⟨w.heap.size, 0, none⟩) 1 1]).run Tryd.prog (w.alloc (.cells #[.int .i64 x] 2)) = .ok v' w' ∧ PrS w1 w' v' (p ++ [x]) := by
  obtain ⟨v', w', r1, r2, r3⟩ := rowi_app h.rp h.b.size x (by omega)
  exact ⟨v', w', r1, h.b.trans r3, r2⟩
theorem PrS.take {w1 w : World} {p9 : Option Addr} {n9 c9 : Nat} {p : List Int} (h : PrS w1 w (.slice p9 n9 c9) p) {b : Nat} (hb : b ≤ p.length) : PrS w1 w (.slice p9 b c9) (p.take b) := ⟨h.b, h.rp.take encI_len hb⟩
theorem PrS.put {w1 w : World} {g n9 c9 : Nat} {p : List Int} (h : PrS w1 w (.slice (some ⟨g, 0, none⟩) n9 c9) p) (i : Nat) (x : Int) : PrS w1 (w.setCell ⟨g, i, none⟩ (.int .i64 x)) (.slice (some ⟨g, 0, none⟩) n9 c9) (p.set i x) := by
  obtain ⟨hg, cs, hc⟩ := own_block h.rp
  exact ⟨h.b.trans (Kept.below ((Kept.refl (fun k => k = g) w).set (C := g) rfl _ _) h.b.size (fun k hk => by rw [hk]; exact hg)), own_put h.rp i x⟩
end Go.Proofs.YtojednnciknhpaaDoor
