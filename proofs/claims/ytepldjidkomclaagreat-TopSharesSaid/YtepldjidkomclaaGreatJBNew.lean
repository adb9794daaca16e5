/- board.New, board.Get. -/
import Derived.Test.YtepldjidkomclaaGreatJBStop
namespace Go.Proofs.YtepldjidkomclaaGreat.Bo
set_option linter.unusedSimpArgs false
set_option linter.unusedVariables false
open Go.RowKit Go.Shelf
attribute [local go_sem] Oper.semAt_some
attribute [local go_sem ↓] Go.wp_at_zero Go.wp_at_succ
theorem newHalf_calls (s : Int) (hs : s = 1 ∨ s = 2) (w : World) : Calls Tryz.prog 20 #[.int .i64 s] w fun e w' => e = .returned (pt w.heap.size) ∧ w' = w.alloc (.cells #[betV s, .slice none 0 0] 121) := by
  rcases hs with rfl | rfl
  · have e : betV 1 = .func (.func 48) #[] #[] := rfl
    rw [e]
    go_enter Tryz.func20, Tryz.ntmps20
    go_wp2
    go_ret
    exact ⟨rfl, rfl⟩
  · have e : betV 2 = .func (.func 49) #[] #[] := rfl
    rw [e]
    go_enter Tryz.func20, Tryz.ntmps20
    go_wp2
    go_ret
    exact ⟨rfl, rfl⟩
def NewP (O : Nat → Nat) (q : Nat) (w : World) (e : Ending) (w' : World) : Prop :=
  ∃ O' b G, e = .returned (pt b) ∧ BdC O' q w' b G 0 0 [] ∧ G.bd 0 0 = ⟨[], [], [], 0, 0⟩ ∧ Below w.heap.size w w' ∧ ∀ k, k < w.heap.size → O' k = O k
theorem new_fin (O : Nat → Nat) (q : Nat) (w : World) : NewP O q w (.returned (pt (w.heap.size + 1 + 1 + 1))) ((((w.alloc (Obj.cells #[betV 1, Value.slice none 0 0] 121)).alloc (Obj.cells #[betV 2, Value.slice none 0 0] 121)).alloc (Obj.map #[] 0)).alloc
      (Obj.cells #[Value.pointer none, pt w.heap.size, pt (w.heap.size + 1), Value.map (some (w.heap.size + 1 + 1)), Value.slice none 0 0, Value.int IntKind.i64 0, Value.int IntKind.i64 0, Value.slice none 0 0] 70)) := by
  obtain ⟨n, hn⟩ : ∃ n, n = w.heap.size := ⟨_, rfl⟩
  rw [← hn]
  obtain ⟨w1, h1⟩ : ∃ w1, w1 = w.alloc (Obj.cells #[betV 1, Value.slice none 0 0] 121) := ⟨_, rfl⟩
  obtain ⟨w2, h2⟩ : ∃ w2, w2 = w1.alloc (Obj.cells #[betV 2, Value.slice none 0 0] 121) := ⟨_, rfl⟩
  obtain ⟨w3, h3⟩ : ∃ w3, w3 = w2.alloc (Obj.map #[] 0) := ⟨_, rfl⟩
  rw [← h1, ← h2, ← h3]
  obtain ⟨w4, h4⟩ : ∃ w4, w4 = w3.alloc (Obj.cells #[Value.pointer none, pt n, pt (n + 1), Value.map (some (n + 1 + 1)), Value.slice none 0 0, Value.int IntKind.i64 0, Value.int IntKind.i64 0, Value.slice none 0 0] 70) := ⟨_, rfl⟩
  rw [← h4]
  have z1 : w1.heap.size = n + 1 := by rw [h1, hn]; simp
  have z2 : w2.heap.size = n + 1 + 1 := by rw [h2]; simp [z1]
  have z3 : w3.heap.size = n + 1 + 1 + 1 := by rw [h3]; simp [z2]
  have c1 : Cells w4 n #[betV 1, .slice none 0 0] 121 := by
    have := Cells.new w #[betV 1, Value.slice none 0 0] 121
    rw [← hn, ← h1] at this
    rw [h4, h3, h2]
    exact ((this.alloc _).alloc _).alloc _
  have c2 : Cells w4 (n + 1) #[betV 2, .slice none 0 0] 121 := by
    have := Cells.new w1 #[betV 2, Value.slice none 0 0] 121
    rw [z1, ← h2] at this
    rw [h4, h3]
    exact (this.alloc _).alloc _
  have c3 : MapC w4 (n + 1 + 1) [] := by
    have := MapC.new w2
    rw [z2, ← h3] at this
    rw [h4]
    exact this.kept (X := fun _ => False) ((Kept.refl _ w3).alloc _) not_false
  have c4 : Cells w4 (n + 1 + 1 + 1) #[Value.pointer none, pt n, pt (n + 1), Value.map (some (n + 1 + 1)), Value.slice none 0 0, Value.int IntKind.i64 0, Value.int IntKind.i64 0, Value.slice none 0 0] 70 := by
    have := Cells.new w3 #[Value.pointer none, pt n, pt (n + 1), Value.map (some (n + 1 + 1)), Value.slice none 0 0, Value.int IntKind.i64 0, Value.int IntKind.i64 0, Value.slice none 0 0] 70
    rw [z3, ← h4] at this
    exact this
  have hb : Below w.heap.size w w4 := by
    rw [h4, h3, h2, h1]
    exact ((((Below.refl _ w).alloc (Nat.le_refl _) _).alloc (by simp) _).alloc (by simp; omega) _).alloc (by simp; omega) _
  have hcol : ∀ k, k < n → (fun k => if k = n then q + 1 else if k = n + 1 then q + 2 else if k = n + 1 + 1 then q + 6 else if k = n + 1 + 1 + 1 then q + 3 else O k) k = O k := fun k hk => by
    simp only
    rw [if_neg (by omega), if_neg (by omega), if_neg (by omega), if_neg (by omega)]
  have e1 : (fun k => if k = n then q + 1 else if k = n + 1 then q + 2 else if k = n + 1 + 1 then q + 6 else if k = n + 1 + 1 + 1 then q + 3 else O k) n = q + 1 := if_pos rfl
  have e2 : (fun k => if k = n then q + 1 else if k = n + 1 then q + 2 else if k = n + 1 + 1 then q + 6 else if k = n + 1 + 1 + 1 then q + 3 else O k) (n + 1) = q + 2 := by
    simp only
    rw [if_neg (by omega), if_pos trivial]
  have e3 : (fun k => if k = n then q + 1 else if k = n + 1 then q + 2 else if k = n + 1 + 1 then q + 6 else if k = n + 1 + 1 + 1 then q + 3 else O k) (n + 1 + 1) = q + 6 := by
    simp only
    rw [if_neg (by omega), if_neg (by omega), if_pos trivial]
  have e4 : (fun k => if k = n then q + 1 else if k = n + 1 then q + 2 else if k = n + 1 + 1 then q + 6 else if k = n + 1 + 1 + 1 then q + 3 else O k) (n + 1 + 1 + 1) = q + 3 := by
    simp only
    rw [if_neg (by omega), if_neg (by omega), if_neg (by omega), if_pos trivial]
  refine ⟨fun k => if k = n then q + 1 else if k = n + 1 then q + 2 else if k = n + 1 + 1 then q + 6 else if k = n + 1 + 1 + 1 then q + 3 else O k, n + 1 + 1 + 1, ⟨n, n + 1, n + 1 + 1, [], [], [], fun _ => ⟨0, ⟨0, 0, 0, 0, 0, 0, 0, 0⟩, 0, 0⟩⟩, rfl,
    ⟨⟨⟨_, _, c4, OwnE.nil _ _, OwnE.nil _ _, fun x (hx : none = some x) => (by cases hx), fun x (hx : none = some x) => (by cases hx)⟩, e4⟩, ⟨⟨_, c1, OwnE.nil _ _, fun x (hx : none = some x) => (by cases hx)⟩, e1, by simp, by simp, by simp [elsL], by simp [ensL]⟩, ⟨⟨_, c2, OwnE.nil _ _, fun x (hx : none = some x) => (by cases hx)⟩, e2, by simp, by simp, by simp [elsL], by simp [ensL]⟩, ⟨c3, e3⟩, ⟨by simp, List.nodup_nil⟩, ?_, by simp [Mm.live, ensL]⟩, rfl, hb, by rw [← hn]; exact hcol⟩
  exact ⟨⟨Int.le_refl 0, (by decide : (0 : Int) ≤ 1000000)⟩, ⟨Int.le_refl 0, (by decide : (0 : Int) ≤ 1000000)⟩, HOk.nil _ _, HOk.nil _ _, by simp [Mm.bd], List.Pairwise.nil, by simp [Mm.bd, Bd.live, plainH, Half.all, numsL]⟩
set_option maxHeartbeats 4000000 in
theorem new_calls (O : Nat → Nat) (q : Nat) (w : World) : Calls Tryz.prog 6 #[] w (NewP O q w) := by
  have h1 := newHalf_calls 1 (.inl rfl) w
  have h2 := newHalf_calls 2 (.inr rfl) (w.alloc (.cells #[betV 1, .slice none 0 0] 121))
  have H1 := hid h1
  have H2 := hid h2
  clear h1 h2
  have hmm := @run_makeMap Tryz.prog
  go_enter Tryz.func6, Tryz.ntmps6
  go_wp2_with fail
  refine H1.out.mono ?_
  rintro e w1 ⟨rfl, rfl⟩
  go_wp2_with fail
  refine H2.out.mono ?_
  rintro e w1 ⟨rfl, rfl⟩
  go_wp2
  exact bodyPost_ret (v := pt (w.heap.size + 1 + 1 + 1)) (by simp [results, Tryz.results6, go_sem]) rfl (new_fin O q w)
end Go.Proofs.YtepldjidkomclaaGreat.Bo
