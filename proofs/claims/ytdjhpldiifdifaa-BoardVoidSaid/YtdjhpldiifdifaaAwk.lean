/- board.Last, the law's tame, awake. -/
import Derived.Test.YtdjhpldiifdifaaCan
namespace Go.Proofs.Ytdjhpldiifdifaa
set_option linter.unusedSimpArgs false
set_option linter.unusedVariables false
open Go.RowKit Go.Shelf
attribute [local go_sem] Oper.semAt_some
attribute [local go_sem ↓] Go.wp_at_zero Go.wp_at_succ

theorem OwnE.reads {α : Type} {enc : α → List Value} {sz : Nat} {e : TypeId} (hlen : ∀ a, (enc a).length = sz) {B : Nat} {W : World} {v : Value} {l : List α} (h : OwnE enc sz e B W v l) (hm : l.length ≤ 9223372036854775807) : ReadsE enc sz W v l := by
  rcases h.2 with ⟨h1, h2⟩ | ⟨g, cap, cur, hv, hb, hg, h3⟩
  · have : l = [] := List.length_eq_zero_iff.1 h2
    subst this; subst h1
    exact ReadsE.nil _ _ _
  · subst hv
    refine ⟨hm, _, cap, g, 0, rfl, fun _ => ⟨rfl, (Array.getElem?_eq_some_iff.1 hg).1⟩, fun k hk j hj => ?_⟩
    rw [Nat.zero_add, World.ownsRow.cellAt h _ (by have : k * sz + sz ≤ l.length * sz := by { rw [← Nat.succ_mul]; exact Nat.mul_le_mul_right _ hk }; omega), flatE_get hlen l k hk j hj]
theorem last_calls {O : Nat → Nat} {c : Nat} {w : World} {b hb hs mb : Nat} {wt : List Nat} {nums last : Int} {evs : List Ev} (h : TopC O c w b hb hs mb wt nums last evs) :
    Calls Try.prog 37 #[pt b] w fun e w' => e = .returned (.int .i64 last) ∧ w' = w := by
  obtain ⟨_, _, _, _, c6⟩ := h.half
  have hl := h.lt
  clear h
  go_enter Try.func37, Try.ntmps37
  go_wp2
  go_ret
  exact ⟨rfl, rfl⟩
/-- The law's taming. -/
def tameO (o : Od) : Od := if 500 < o.q ∧ 0 < o.pk ∧ o.pk < o.q / 20 then { o with pk := o.q } else o
theorem tameO_q (o : Od) : (tameO o).q = o.q := by unfold tameO; split <;> rfl
set_option maxRecDepth 100000 in
set_option maxHeartbeats 2000000 in
theorem tame_calls (o : Od) (hq : o.q ≤ 9223372036854775807) (w : World) : Calls Try.prog 16 #[.agg o.vals] w fun e w' => e = .returned (.agg (tameO o).vals) ∧ Below w.heap.size w w' := by
  by_cases h1 : 500 < o.q
  · by_cases h2 : 0 < o.pk
    · by_cases h3 : o.pk < o.q / 20
      · have ht : tameO o = { o with pk := o.q } := by unfold tameO; rw [if_pos ⟨h1, h2, h3⟩]
        rw [ht]
        unfold Od.vals
        clear ht
        go_enter Try.func16, Try.ntmps16
        go_wp2
        all_goals first | (exfalso; omega) | exact bodyPost_ret (v := .agg #[.int .i64 o.m, .int .i64 o.s, .int .i64 o.k, .int .i64 o.f, .int .i64 o.p, .int .i64 o.t, .int .i64 o.q, .int .i64 o.q]) (by simp [results, Try.results16, go_sem]) rfl ⟨rfl, ((Below.refl _ _).alloc (Nat.le_refl _) _).alloc (by simp) _⟩
      · have h3' : o.q / 20 ≤ o.pk := by omega
        have ht : tameO o = o := by unfold tameO; rw [if_neg (fun e => h3 e.2.2)]
        rw [ht]
        unfold Od.vals
        clear ht h3
        go_enter Try.func16, Try.ntmps16
        go_wp2
        all_goals first | (exfalso; omega) | exact bodyPost_ret (v := .agg #[.int .i64 o.m, .int .i64 o.s, .int .i64 o.k, .int .i64 o.f, .int .i64 o.p, .int .i64 o.t, .int .i64 o.q, .int .i64 o.pk]) (by simp [results, Try.results16, go_sem]) rfl ⟨rfl, ((Below.refl _ _).alloc (Nat.le_refl _) _).alloc (by simp) _⟩
    · have h2' : o.pk ≤ 0 := by omega
      have ht : tameO o = o := by unfold tameO; rw [if_neg (fun e => h2 e.2.1)]
      rw [ht]
      unfold Od.vals
      clear ht h2
      go_enter Try.func16, Try.ntmps16
      go_wp2
      exact bodyPost_ret (v := .agg #[.int .i64 o.m, .int .i64 o.s, .int .i64 o.k, .int .i64 o.f, .int .i64 o.p, .int .i64 o.t, .int .i64 o.q, .int .i64 o.pk]) (by simp [results, Try.results16, go_sem]) rfl ⟨rfl, ((Below.refl _ _).alloc (Nat.le_refl _) _).alloc (by simp) _⟩
  · have h1' : o.q ≤ 500 := by omega
    have ht : tameO o = o := by unfold tameO; rw [if_neg (fun e => h1 e.1)]
    rw [ht]
    unfold Od.vals
    clear ht h1
    go_enter Try.func16, Try.ntmps16
    go_wp2
    exact bodyPost_ret (v := .agg #[.int .i64 o.m, .int .i64 o.s, .int .i64 o.k, .int .i64 o.f, .int .i64 o.p, .int .i64 o.t, .int .i64 o.q, .int .i64 o.pk]) (by simp [results, Try.results16, go_sem]) rfl ⟨rfl, ((Below.refl _ _).alloc (Nat.le_refl _) _).alloc (by simp) _⟩

def odA : Od := ⟨1, 2, 1, 1, 50, 0, 10, 4⟩
def odB : Od := ⟨2, 1, 1, 1, 55, 0, 5, 0⟩
def sB0 : Bd := ⟨[], [], [], 0, 0⟩
def sB1 : Bd := ⟨[], [(50, [⟨1, odA, 10, 4⟩])], [], 1, 0⟩
theorem awk0 : enterE sB0 odA = 0 := by decide +kernel
theorem awk1 : enterF sB0 odA = (sB1, [⟨2, 1, 0, 50, 10⟩]) := by kernel_rfl
theorem awk2 : enterE sB1 odB = 0 ∧ (enterF sB1 odB).2 = [⟨1, 2, 1, 50, 4⟩, ⟨1, 2, 1, 50, 1⟩] ∧ (enterF sB1 odB).1.last = 50 := by decide +kernel
end Go.Proofs.Ytdjhpldiifdifaa
