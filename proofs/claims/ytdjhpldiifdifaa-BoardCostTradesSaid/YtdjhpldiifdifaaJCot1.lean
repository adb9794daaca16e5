/- BoardCostTrades: the state, and what is joined. -/
import Derived.BigQuiet
import Derived.Deep.DeepCutAuto
import Derived.Test.YtdjhpldiifdifaaJCot0
import Derived.Test.YtdjhpldiifdifaaJLdo
import Derived.Test.YtdjhpldiifdifaaJCst2
namespace Go.Proofs.Ytdjhpldiifdifaa
set_option linter.unusedSimpArgs false
set_option linter.unusedVariables false
open Go.RowKit Go.Shelf
attribute [local go_sem] Oper.semAt_some
attribute [local go_sem ↓] Go.wp_at_zero Go.wp_at_succ

/-- Behind run: the state, the reference's box, and what has only been added since. -/
structure CtC (w w3 wr : World) (b r8 : Nat) (O : Nat → Nat) (G : Mm) (N : Nat) (last : Int) (vx : Value) (x : Rb) (i : Nat) : Prop where
  lk : LkS 0 w3 b O G N last vx x i
  hi : i ≤ 40
  c8 : Cells w3 r8 #[vx, .int .i64 x.nums, .int .i64 x.turn, .int .i64 x.paid] 49
  below : Below w.heap.size w w3
  low : ∀ k, k < w.heap.size → O k = 0
  now : Below w3.heap.size w3 wr
theorem CtC.after {w w3 wr w' : World} {b r8 : Nat} {O : Nat → Nat} {G : Mm} {N : Nat} {last : Int} {vx : Value} {x : Rb} {i : Nat} (h : CtC w w3 wr b r8 O G N last vx x i) (hb : Below wr.heap.size wr w') : CtC w w3 w' b r8 O G N last vx x i :=
  ⟨h.lk, h.hi, h.c8, h.below, h.low, h.now.trans (hb.mono h.now.size)⟩
theorem CtC.at {w w3 wr : World} {b r8 : Nat} {O : Nat → Nat} {G : Mm} {N : Nat} {last : Int} {vx : Value} {x : Rb} {i : Nat} (h : CtC w w3 wr b r8 O G N last vx x i) : LkS 0 wr b (grow O w3 0) G N last vx x i := h.lk.grow h.now
theorem CtC.cell {w w3 wr : World} {b r8 : Nat} {O : Nat → Nat} {G : Mm} {N : Nat} {last : Int} {vx : Value} {x : Rb} {i : Nat} (h : CtC w w3 wr b r8 O G N last vx x i) : wr.cell? ⟨r8, 0, none⟩ = some vx ∧ wr.cell? ⟨r8, 1, none⟩ = some (.int .i64 x.nums) ∧ wr.cell? ⟨r8, 2, none⟩ = some (.int .i64 x.turn) ∧ wr.cell? ⟨r8, 3, none⟩ = some (.int .i64 x.paid) ∧ r8 < wr.heap.size := by
  have c := h.c8.below h.now h.c8.lt
  refine ⟨?_, ?_, ?_, ?_, c.lt⟩ <;> (rw [c.cell]; rfl)
theorem CtC.out {w w3 wr : World} {b r8 : Nat} {O : Nat → Nat} {G : Mm} {N : Nat} {last : Int} {vx : Value} {x : Rb} {i : Nat} (h : CtC w w3 wr b r8 O G N last vx x i) : Below w.heap.size w wr := h.below.trans (h.now.mono h.below.size)

theorem side_mod (k : Int) : ∃ r : Int, (IntKind.u64.wrap k).tmod 2 = r ∧ IntKind.u64.wrap r = r ∧ IntKind.i64.wrap r = r ∧ IntKind.i64.wrap (1 + r) = 1 + r ∧ 0 ≤ r ∧ r < 2 := by
  have h := u64_nonneg k
  have h2 : 0 ≤ (IntKind.u64.wrap k).tmod 2 ∧ (IntKind.u64.wrap k).tmod 2 < 2 := by
    rw [Int.tmod_eq_emod_of_nonneg h]; omega
  exact ⟨_, rfl, IntWalk.u64_in _ (by omega), IntWalk.i64_in _ (by omega), IntWalk.i64_in _ (by omega), by omega⟩
theorem qty_mod4 (k : Int) : ∃ r : Int, (IntKind.u64.wrap k).tmod 400 = r ∧ IntKind.u64.wrap r = r ∧ IntKind.i64.wrap r = r ∧ IntKind.i64.wrap (1 + r) = 1 + r ∧ 0 ≤ r ∧ r < 400 := by
  have h := u64_nonneg k
  have h2 : 0 ≤ (IntKind.u64.wrap k).tmod 400 ∧ (IntKind.u64.wrap k).tmod 400 < 400 := by
    rw [Int.tmod_eq_emod_of_nonneg h]; omega
  exact ⟨_, rfl, IntWalk.u64_in _ (by omega), IntWalk.i64_in _ (by omega), IntWalk.i64_in _ (by omega), by omega⟩
/-- The stranger's order. -/
def stranger (s qty : Int) : Od := ⟨1000, s, 2, 2, 0, 0, qty, 0⟩
theorem stranger_ok {s qty : Int} (hs : s = 1 ∨ s = 2) (hq : 1 ≤ qty ∧ qty ≤ 400) : (stranger s qty).ok = true := by
  unfold Od.ok stranger
  simp only [Bool.and_eq_true]
  refine ⟨⟨⟨⟨⟨⟨by decide, sideB_iff.2 hs⟩, by decide⟩, inB2_iff.2 ⟨by omega, by omega⟩⟩, by decide⟩, by simp⟩, by simp⟩
/-- Partial sums of trades. -/
theorem trs_pos : ∀ {l : List Ev}, (∀ e ∈ l, TrOkE e) → 0 ≤ (trs l).1 ∧ 0 ≤ (trs l).2 ∧ (trs l).2 ≤ (trs l).1 * 1000000
  | [], _ => by simp [trs]
  | e :: r, h => by
    have ih := trs_pos (l := r) (fun x hx => h x (List.mem_cons_of_mem _ hx))
    rw [trs_cons]
    split
    · rename_i hw
      obtain ⟨h1, h2, h3⟩ := h e List.mem_cons_self hw
      have h4 : 0 ≤ e.q * e.p := Int.mul_nonneg (by omega) h2
      have h5 : e.q * e.p ≤ e.q * 1000000 := Int.mul_le_mul_of_nonneg_left h3 (by omega)
      simp only
      omega
    · exact ih
theorem cst_le : ∀ {l : List En} {rem : Int}, posL l → 0 ≤ rem → (cst rem l).1 ≤ rem
  | [], rem, _, h => h
  | e :: r, rem, hp, h => by
    have h1 := hp e List.mem_cons_self
    have ih := cst_le (l := r) (rem := rem - min rem e.l) (fun x hx => hp x (List.mem_cons_of_mem _ hx)) (by omega)
    simp only [cst]
    omega
/-- The sizes of a cost. -/
theorem cost_small {side nums q : Int} {h : Half} (hh : HOk side nums h) (hq : 1 ≤ q ∧ q ≤ 400) {evs : List Ev} (ht : trs evs = costF q h.all (0, 0)) (hall : ∀ x ∈ evs, TrOkE x) :
    0 ≤ (costF q h.all (0, 0)).1 ∧ (costF q h.all (0, 0)).1 ≤ 400 ∧ 0 ≤ (costF q h.all (0, 0)).2 ∧ (costF q h.all (0, 0)).2 ≤ 400000000 := by
  have hp : posL h.all := fun e he => by have := (hh.mem e he).l; omega
  have h1 := cst_le (rem := q) hp (by omega)
  have h2 := costF_cst (qty := q) h.all 0 0 hp (by omega)
  have h3 := trs_pos hall
  rw [ht] at h3
  rw [Int.sub_zero] at h2
  have h4 : (costF q h.all (0, 0)).1 = (cst q h.all).1 := by rw [h2]; simp
  omega
theorem few_wait {S : Bd} {x : Rb} (hS : BdOk S) (hR : Rel S x) (hno : ∀ y ∈ x.L, y.o.m ≠ 1000 ∧ y.o.t = 0) : S.wait = [] ∧ ∀ s, s = 1 ∨ s = 2 → ∀ e ∈ (S.half s).all, e.o.m ≠ 1000 := by
  have hl : ∀ e ∈ S.live, e.o.m ≠ 1000 ∧ e.o.t = 0 := fun e he => by
    obtain ⟨y, hy, rfl⟩ := List.mem_map.1 (hR.live.mem_iff.2 he)
    exact hno y hy
  refine ⟨?_, fun s hs e he => (hl e ?_).1⟩
  · cases hw : S.wait with
    | nil => rfl
    | cons e r =>
      have h1 := (hS.wait e (by rw [hw]; simp)).t
      exact absurd (hl e (by unfold Bd.live; rw [hw]; simp)).2 h1
  · unfold Bd.live
    rcases hs with rfl | rfl
    · exact List.mem_append_left _ he
    · exact List.mem_append_right _ (List.mem_append_left _ he)
theorem enter_stranger {q : Nat} {w : World} {b : Nat} {O : Nat → Nat} {G : Mm} {N : Nat} {last : Int} {vx : Value} {x : Rb} {i : Nat} (k : LkS q w b O G N last vx x i) (hi : i ≤ 40) (hno : ∀ y ∈ x.L, y.o.m ≠ 1000 ∧ y.o.t = 0) {s qty : Int} (hs : s = 1 ∨ s = 2) (hq : 1 ≤ qty ∧ qty ≤ 400) :
    Calls Try.prog 17 #[pt b, .agg (stranger s qty).vals] w fun e w' =>
      (∃ (p : Option Addr) (cap : Nat) (evs : List Ev) (O' : Nat → Nat), e = .returned (.tuple #[.int .i64 ((N : Int) + 1), .slice p evs.length cap, .int .i64 0]) ∧ OwnE encEv 5 40 0 w' (.slice p evs.length cap) evs ∧ trs evs = costF qty (plainH (G.L (3 - s)) G.en).all (0, 0) ∧ (∀ x ∈ evs, TrOkE x) ∧ Step (colB q) O w O' w') := by
  have hN := k.num
  have hok := stranger_ok hs hq
  obtain ⟨hw, hm⟩ := few_wait k.bd.ok k.rel hno
  have hnums : (G.bd N last).nums = N := rfl
  have hlive := live_few k.bd.ok (N := N) (Int.le_refl _)
  have hE : enterE (G.bd N last) (stranger s qty) = 0 := by
    unfold enterE
    rw [if_neg (by rw [hok]; simp), if_neg (by omega), if_neg (by unfold stranger; simp)]
  have ht := enterF_trs k.bd.ok (by rw [hnums]; omega) hok rfl rfl rfl hw (hm _ (other_side hs))
  refine (enter_calls k.bd (stranger s qty) (by omega) (live_size (N := N) k.bd.ok (Int.le_refl _) (by omega))).mono ?_
  rintro e w' (⟨h0, _⟩ | ⟨_, v, O', G', l', he, hv, hcol, bd, hbd, st⟩)
  · exact absurd hE h0
  · obtain ⟨p, cap, hv', _⟩ := hv.form
    subst hv'
    refine ⟨p, cap, _, O', he, hv, ?_, ht.2, st⟩
    rw [ht.1]
    show costF qty ((G.bd N last).half (3 - s)).all (0, 0) = _
    rw [Mm.plain G (other_side hs)]
end Go.Proofs.Ytdjhpldiifdifaa
