/- within: the iterator over the pieces of a span. -/
import Derived.Test.YtnnbdjfeagcbdaaVis1
namespace Go.Proofs.Ytnnbdjfeagcbdaa
set_option linter.unusedSimpArgs false
set_option linter.unusedVariables false
open Go.RowKit Go.Shelf
attribute [local go_sem] Oper.semAt_some

abbrev GP := { x : Pc // x.Good }
def vals (l : List GP) : List Pc := l.map (·.1)
theorem vals_append (l : List GP) (x : GP) : vals (l ++ [x]) = vals l ++ [x.1] := by simp [vals]
theorem vals_length (l : List GP) : (vals l).length = l.length := by simp [vals]

set_option maxRecDepth 100000 in
set_option maxHeartbeats 2000000 in
theorem within1_in (F : Fence) (hF : Free F Try.prog) (hro : F.round = none) (n l B0 B1 B2 n₀ : Nat) (p0 : Option Addr) (t : T) (hg : t.Good) (a b : Int) (hab : 1 ≤ a ∧ a ≤ b ∧ b ≤ 1000000) (J Jx : List Pc → World → Prop)
    (hY : YieldsPc F l n₀ (visL t a b).length J Jx) (hJd : ∀ pre W, J pre W → J pre W.drew)
    (W : World) (h0 : W.cell? ⟨B0, 0, none⟩ = some (.pointer p0)) (h1 : W.cell? ⟨B1, 0, none⟩ = some (.int .i64 a)) (h2 : W.cell? ⟨B2, 0, none⟩ = some (.int .i64 b)) (hT : Tn n₀ W p0 t) (hJ : J [] W) :
    CallsIn F n Try.prog 102 #[.func (.yield l) #[] #[], .pointer (some ⟨B0, 0, none⟩), .pointer (some ⟨B1, 0, none⟩), .pointer (some ⟨B2, 0, none⟩)] W fun e W' => (∃ v, e = .returned v) ∧
      ((∃ ys, ys = visL t a b ∧ J ys W') ∨ (∃ pre, pre <+: visL t a b ∧ Jx pre W')) := by
  have hdd : ∀ k : Nat, (F.depth.isSome = true → 1 ≤ k) := fun k h => by rw [hF.depth] at h; cases h
  have hp := visit_in F hF hro l n₀ _ J Jx hY hJd a b hab t hg (n - 1) p0 [] W hT hJ (by simp)
  have hf : F.fn 103 := hF.fn _
  have HP := hid hp
  clear hp hY hJd hT hJ
  refine callsIn_of_wp Try.func102 rfl (hF.fn _) ?_ hro
  simp only [Try.ntmps102, List.size_toArray, List.length_cons, List.length_nil, Nat.reduceAdd, Nat.reduceSub, Array.replicate_succ, Array.replicate_zero, List.push_toArray, List.append_toArray, List.nil_append, List.cons_append]
  gi_wp2_with fail
  (try refine ⟨hdd _, ?_⟩)
  refine HP.out.mono ?_
  rintro e W1 (⟨rfl, hJ1, _⟩ | ⟨rfl, q, hq, hx⟩)
  · gi_wp2
    go_end0
    exact ⟨⟨_, rfl⟩, .inl ⟨_, rfl, by simpa using hJ1⟩⟩
  · gi_wp2
    go_end0
    exact ⟨⟨_, rfl⟩, .inr ⟨q, hq, by simpa using hx⟩⟩

set_option maxHeartbeats 1000000 in
theorem within_calls (p0 : Option Addr) (a b : Int) (w : World) :
    Calls Try.prog 69 #[.pointer p0, .int .i64 a, .int .i64 b] w fun e w' =>
      e = .returned (.func (.func 102) #[] #[.pointer (some ⟨w.heap.size, 0, none⟩), .pointer (some ⟨w.heap.size + 1, 0, none⟩), .pointer (some ⟨w.heap.size + 1 + 1, 0, none⟩)]) ∧
      w' = ((w.alloc (.cells #[.pointer p0] 111)).alloc (.cells #[.int .i64 a] 3)).alloc (.cells #[.int .i64 b] 3) := by
  go_enter Try.func69, Try.ntmps69
  go_wp2
  go_ret
  exact ⟨rfl, rfl⟩

/-- **The iterator's contract**: all pieces of the span, in order; or a part of them. -/
theorem within_stops (F : Fence) (hF : Free F Try.prog) (hro : F.round = none) (n B0 B1 B2 n₀ : Nat) (p0 : Option Addr) (t : T) (hg : t.Good) (a b : Int) (hab : 1 ≤ a ∧ a ≤ b ∧ b ≤ 1000000) (w : World)
    (l0 : B0 < w.heap.size) (l1 : B1 < w.heap.size) (l2 : B2 < w.heap.size) (hn₀ : n₀ ≤ w.heap.size)
    (h0 : w.cell? ⟨B0, 0, none⟩ = some (.pointer p0)) (h1 : w.cell? ⟨B1, 0, none⟩ = some (.int .i64 a)) (h2 : w.cell? ⟨B2, 0, none⟩ = some (.int .i64 b)) (hT : Tn n₀ w p0 t) :
    SeqStopsK F n Try.prog 102 #[.pointer (some ⟨B0, 0, none⟩), .pointer (some ⟨B1, 0, none⟩), .pointer (some ⟨B2, 0, none⟩)] (fun x : GP => #[x.1.val]) (Below n₀)
      (fun ys => vals ys = visL t a b) (fun pre => vals pre <+: visL t a b) (visL t a b).length w := fun l J Jx W hW hJ hJx hY h0' => by
  refine (within1_in F hF hro n l B0 B1 B2 n₀ p0 t hg a b hab (fun pre W => ∃ ys, vals ys = pre ∧ J ys W) (fun pre W => ∃ ys, vals ys = pre ∧ Jx ys W) ?_ ?_ W
    ((hW.cell (p := ⟨B0, 0, none⟩) l0).trans h0) ((hW.cell (p := ⟨B1, 0, none⟩) l1).trans h1) ((hW.cell (p := ⟨B2, 0, none⟩) l2).trans h2) (hT.below (hW.mono hn₀)) ⟨[], rfl, h0'⟩).mono ?_
  · rintro m pre x W1 hx ⟨ys, rfl, hj⟩ hl
    refine (yieldAt_anyDepth hF.depth m (hY ys ⟨x, hx⟩ W1 hj (by rw [vals_length] at hl; exact hl))).mono ?_
    rintro e W' (⟨he, hj', hk⟩ | ⟨he, hj'⟩)
    · exact .inl ⟨he, ⟨_, vals_append _ _, hj'⟩, hk⟩
    · exact .inr ⟨he, ⟨_, vals_append _ _, hj'⟩⟩
  · rintro pre W1 ⟨ys, hv, hj⟩
    exact ⟨ys, hv, hJ ys W1 W1.drew none hj ⟨rfl, rfl, rfl, Nat.le_refl _, fun _ _ _ => rfl⟩ (fun r h => by cases h)⟩
  · rintro e W' ⟨hv, ⟨_, rfl, ys, h, hj⟩ | ⟨_, hp, ys, rfl, hj⟩⟩
    · exact ⟨hv, .inl ⟨ys, h, hj⟩⟩
    · exact ⟨hv, .inr ⟨ys, hp, hj⟩⟩
end Go.Proofs.Ytnnbdjfeagcbdaa
