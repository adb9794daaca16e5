/- board.comeIn. -/
import Derived.Test.YtdjhpldiifdifaaJBrd7
namespace Go.Proofs.Ytdjhpldiifdifaa
set_option linter.unusedSimpArgs false
set_option linter.unusedVariables false
open Go.RowKit Go.Shelf
attribute [local go_sem] Oper.semAt_some
attribute [local go_sem ↓] Go.wp_at_zero Go.wp_at_succ

/-- A meeting in memory. -/
structure MtC (O0 O : Nat → Nat) (q : Nat) (w0 w : World) (b : Nat) (G0 G : Mm) (nums : Int) (X : Nat) (x : En) (B4 : Nat) (s : Mt) : Prop where
  pt : PtC O q w b G nums s.last s.evs (prs G.en G.live)
  hd : HdC O (q + 5) w X { x with l := s.left } false
  ok : MtOk (3 - x.o.s) nums x.n s
  ph : plainH (G.L (3 - x.o.s)) G.en = s.h
  same : SameB (3 - x.o.s) G0 G
  len : G.live.length ≤ G0.live.length
  box : Cells w B4 x.o.vals 38
  colb : O B4 = q
  step : Step (colB q) O0 w0 O w
  sum : s.evs.length + sizeH s.h ≤ 2999999999998
  trk : ∀ D n, Trk O0 w0 G0 D n → Trk O w G D n
theorem meetF_stop {o : Od} {n S : Int} {s : Mt} (h : ¬ 0 < s.left ∨ meetsH o s.h = false) : ∀ k, meetF o n S k s = s
  | 0 => rfl
  | k + 1 => by
    unfold meetF
    rcases h with h | h
    · rw [if_neg h]
    · split
      · unfold meetsH at h
        cases hf : frontH s.h with
        | none => rfl
        | some y =>
          rw [hf] at h
          simp only at h ⊢
          rw [h]
          rfl
      · rfl
theorem meetF_go {o : Od} {n S : Int} {s : Mt} {y : En} (h1 : 0 < s.left) (h2 : frontH s.h = some y) (h3 : o.good y.o.p = true) (k : Nat) : meetF o n S (k + 1) s = meetF o n S k (meet1 o n S y s) := by
  rw [meetF, if_pos h1, h2]
  simp only
  rw [h3]
  rfl
theorem meetsH_front {o : Od} {h : Half} (hm : meetsH o h = true) : ∃ y, frontH h = some y ∧ o.good y.o.p = true := by
  unfold meetsH at hm
  cases hf : frontH h with
  | none => rw [hf] at hm; cases hm
  | some y => rw [hf] at hm; exact ⟨y, rfl, hm⟩
/-- The member's own front is removed: memory. -/
theorem size_front {side nums : Int} {h : Half} (hh : HOk side nums h) {y : En} (hf : frontH h = some y) : 1 ≤ sizeH h := by
  rcases hh.cases with ⟨_, h2⟩ | ⟨p, y', q, r, hr, h2, hp, he⟩
  · rw [h2] at hf; cases hf
  · rw [hr, sizeH_eq, all_cons]
    show 1 ≤ y'.l.toNat + 1 + _
    omega
/-- What comeIn comes to. -/
def ComeP (O : Nat → Nat) (q : Nat) (w : World) (b : Nat) (G : Mm) (nums last : Int) (evs : List Ev) (X : Nat) (x : En) (e : Ending) (w' : World) : Prop :=
  e = .returned (.tuple #[]) ∧ ∃ O' G' last', BdC O' q w' b G' nums last' (comeF (G.bd nums last) x.n x.o x.l evs).2 ∧ G'.bd nums last' = (comeF (G.bd nums last) x.n x.o x.l evs).1 ∧ G'.live.length ≤ G.live.length + 1 ∧ Step (colB q) O w O' w' ∧ (∀ D n, Trk O w G D n → Trk O' w' G' D n) ∧ Trk O' w' G' X x.n
end Go.Proofs.Ytdjhpldiifdifaa
