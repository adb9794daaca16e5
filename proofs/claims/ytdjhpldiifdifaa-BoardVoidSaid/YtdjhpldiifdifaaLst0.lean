/- Doubly linked lists in memory. No function of the program in sight. -/
import Derived.Test.YtdjhpldiifdifaaMem
namespace Go.Proofs.Ytdjhpldiifdifaa
set_option linter.unusedSimpArgs false
set_option linter.unusedVariables false
open Go.RowKit

@[reducible] def pt (b : Nat) : Value := .pointer (some ⟨b, 0, none⟩)
/-- A pointer to a block, or nil. -/
def op : Option Nat → Value
  | none => .pointer none
  | some b => pt b
theorem op_none : op none = .pointer none := rfl
theorem op_some (b : Nat) : op (some b) = .pointer (some ⟨b, 0, none⟩) := rfl
/-- The first element's block; the last one's. -/
def headO : List (Nat × Nat) → Option Nat → Option Nat
  | [], o => o
  | x :: _, _ => some x.1
def lastO : List (Nat × Nat) → Option Nat → Option Nat
  | [], o => o
  | x :: l, _ => lastO l (some x.1)
/-- Elements (element's block, item's block), linked behind one another. -/
def DL (w : World) : Option Nat → List (Nat × Nat) → Option Nat → Prop
  | _, [], _ => True
  | prev, x :: l, next => Cells w x.1 #[op prev, op (headO l next), pt x.2] 115 ∧ DL w (some x.1) l next
theorem headO_app (l m : List (Nat × Nat)) (o : Option Nat) : headO (l ++ m) o = headO l (headO m o) := by cases l <;> rfl
theorem lastO_app : ∀ (l m : List (Nat × Nat)) (o : Option Nat), lastO (l ++ m) o = lastO m (lastO l o)
  | [], _, _ => rfl
  | x :: l, m, _ => lastO_app l m (some x.1)
theorem DL.split {w : World} : ∀ {l m : List (Nat × Nat)} {a b : Option Nat}, DL w a (l ++ m) b ↔ DL w a l (headO m b) ∧ DL w (lastO l a) m b
  | [], m, a, b => by simp [DL, lastO]
  | x :: l, m, a, b => by
    simp only [List.cons_append, DL, lastO, headO_app]
    rw [DL.split (l := l) (m := m)]
    exact and_assoc.symm
theorem DL.kept {X : Nat → Prop} {w w' : World} (hk : Kept X w w') : ∀ {l : List (Nat × Nat)} {a b : Option Nat}, DL w a l b → (∀ x ∈ l, ¬ X x.1) → DL w' a l b
  | [], _, _, _, _ => trivial
  | x :: l, a, b, h, hx => ⟨h.1.kept hk (hx x (by simp)), DL.kept hk h.2 (fun y hy => hx y (List.mem_cons_of_mem _ hy))⟩
theorem DL.mem {w : World} : ∀ {l : List (Nat × Nat)} {a b : Option Nat}, DL w a l b → ∀ x ∈ l, ∃ cs, Cells w x.1 cs 115
  | [], _, _, _, x, hx => by simp at hx
  | y :: l, a, b, h, x, hx => by
    rcases List.mem_cons.1 hx with rfl | hx
    · exact ⟨_, h.1⟩
    · exact DL.mem h.2 x hx
/-- A level: its price and its queue. -/
structure Lst (w : World) (L : Nat) (p : Int) (es : List (Nat × Nat)) : Prop where
  c : Cells w L #[.int .i64 p, op (headO es none), op (lastO es none), .int .i64 es.length] 113
  l : DL w none es none
  n : (es.map Prod.fst).Nodup
/-- The blocks of a level. -/
def Lst.foot (L : Nat) (es : List (Nat × Nat)) (k : Nat) : Prop := k = L ∨ k ∈ es.map Prod.fst
theorem Lst.kept {X : Nat → Prop} {w w' : World} {L : Nat} {p : Int} {es : List (Nat × Nat)} (h : Lst w L p es) (hk : Kept X w w') (hx : ∀ k, Lst.foot L es k → ¬ X k) : Lst w' L p es :=
  ⟨h.c.kept hk (hx L (.inl rfl)), h.l.kept hk (fun x hm => hx x.1 (.inr (List.mem_map.2 ⟨x, hm, rfl⟩))), h.n⟩
theorem Lst.lt {w : World} {L : Nat} {p : Int} {es : List (Nat × Nat)} (h : Lst w L p es) : ∀ k, Lst.foot L es k → k < w.heap.size := by
  rintro k (rfl | hk)
  · exact h.c.lt
  · obtain ⟨x, hx, rfl⟩ := List.mem_map.1 hk
    obtain ⟨cs, hc⟩ := h.l.mem x hx
    exact hc.lt
theorem lastO_snoc (l : List (Nat × Nat)) (x : Nat × Nat) (o : Option Nat) : lastO (l ++ [x]) o = some x.1 := by rw [lastO_app]; rfl
theorem snoc_cases {α : Type} (l : List α) : l = [] ∨ ∃ L q, l = L ++ [q] := by
  rcases List.eq_nil_or_concat l with h | ⟨L, q, h⟩
  · exact .inl h
  · exact .inr ⟨L, q, by rw [h, List.concat_eq_append]⟩
theorem el_lv : (115 : TypeId) ≠ 113 := by decide
/-- An item came to the end of a list that was empty. -/
theorem Lst.push0 {w' : World} {L : Nat} {p : Int} {E i : Nat} (h1 : Cells w' L #[.int .i64 p, pt E, pt E, .int .i64 1] 113) (h2 : Cells w' E #[.pointer none, .pointer none, pt i] 115) : Lst w' L p ([] ++ [(E, i)]) :=
  ⟨h1, ⟨h2, trivial⟩, by simp⟩
/-- An item came to the end of a list. -/
theorem Lst.push1 {w w' : World} {L : Nat} {p : Int} {M : List (Nat × Nat)} {q : Nat × Nat} {E i : Nat} (h : Lst w L p (M ++ [q])) (hE : w.heap.size ≤ E) (hk : Kept (fun k => k = L ∨ k = q.1) w w')
    (h1 : Cells w' L #[.int .i64 p, op (headO (M ++ [q]) none), pt E, .int .i64 ((M ++ [q]).length + 1)] 113) (h2 : Cells w' E #[pt q.1, .pointer none, pt i] 115) (h3 : Cells w' q.1 #[op (lastO M none), pt E, pt q.2] 115) : Lst w' L p ((M ++ [q]) ++ [(E, i)]) := by
  obtain ⟨d1, d2⟩ := DL.split.1 h.l
  have hn := h.n
  rw [List.map_append, List.nodup_append] at hn
  refine ⟨?_, ?_, ?_⟩
  · have e : headO ((M ++ [q]) ++ [(E, i)]) none = headO (M ++ [q]) none := by cases M <;> rfl
    have e2 : (((M ++ [q]) ++ [(E, i)]).length : Int) = ((M ++ [q]).length : Int) + 1 := by rw [List.length_append]; rfl
    rw [lastO_snoc, e, e2]
    exact h1
  · rw [List.append_assoc]
    refine DL.split.2 ⟨d1.kept hk (fun x hx => ?_), h3, h2, trivial⟩
    rintro (h4 | h4)
    · obtain ⟨cs, hc⟩ := d1.mem x hx
      exact hc.ne h.c el_lv h4
    · exact hn.2.2 x.1 (List.mem_map.2 ⟨x, hx, rfl⟩) q.1 (by simp) h4
  · rw [List.map_append, List.nodup_append]
    refine ⟨by rw [List.map_append, List.nodup_append]; exact hn, by simp, fun a ha b hb => ?_⟩
    simp only [List.map_cons, List.map_nil, List.mem_cons, List.not_mem_nil, or_false] at hb
    have := h.lt a (.inr ha)
    omega
/-- An element was taken out. -/
theorem Lst.cut {w w' : World} {L : Nat} {p : Int} {pre post : List (Nat × Nat)} {x : Nat × Nat} (h : Lst w L p (pre ++ x :: post)) (hk : Kept (fun k => k = L ∨ k = x.1 ∨ some k = lastO pre none ∨ some k = headO post none) w w')
    (h1 : Cells w' L #[.int .i64 p, op (headO (pre ++ post) none), op (lastO (pre ++ post) none), .int .i64 ((pre ++ post).length)] 113)
    (h2 : ∀ M q, pre = M ++ [q] → Cells w' q.1 #[op (lastO M none), op (headO post none), pt q.2] 115)
    (h3 : ∀ q M, post = q :: M → Cells w' q.1 #[op (lastO pre none), op (headO M none), pt q.2] 115) : Lst w' L p (pre ++ post) := by
  have hn := h.n
  rw [List.map_append, List.map_cons] at hn
  obtain ⟨n1, n2, n3⟩ := List.nodup_append.1 hn
  obtain ⟨n4, n5⟩ := List.nodup_cons.1 n2
  obtain ⟨d1, d2⟩ := DL.split.1 h.l
  refine ⟨h1, DL.split.2 ⟨?_, ?_⟩, ?_⟩
  · rcases snoc_cases pre with rfl | ⟨M, q, rfl⟩
    · trivial
    · obtain ⟨e1, e2⟩ := DL.split.1 d1
      have nM := n1
      rw [List.map_append, List.nodup_append] at nM
      refine DL.split.2 ⟨e1.kept hk (fun y hy => ?_), h2 M q rfl, trivial⟩
      have hyM : y.1 ∈ M.map Prod.fst := List.mem_map.2 ⟨y, hy, rfl⟩
      rintro (h4 | h4 | h4 | h4)
      · obtain ⟨cs, hc⟩ := e1.mem y hy
        exact hc.ne h.c el_lv h4
      · exact n3 y.1 (by rw [List.map_append]; exact List.mem_append_left _ hyM) x.1 (by simp) h4
      · rw [lastO_snoc] at h4
        injection h4 with h4
        exact nM.2.2 y.1 hyM q.1 (by simp) h4
      · cases post with
        | nil => cases h4
        | cons z post =>
          injection h4 with h4
          exact n3 y.1 (by rw [List.map_append]; exact List.mem_append_left _ hyM) z.1 (by simp) h4
  · cases post with
    | nil => trivial
    | cons z post =>
      refine ⟨h3 z post rfl, d2.2.2.kept hk (fun y hy => ?_)⟩
      have hyP : y.1 ∈ post.map Prod.fst := List.mem_map.2 ⟨y, hy, rfl⟩
      rintro (h4 | h4 | h4 | h4)
      · obtain ⟨cs, hc⟩ := d2.2.2.mem y hy
        exact hc.ne h.c el_lv h4
      · exact n4 (by rw [← h4]; exact List.mem_cons_of_mem _ hyP)
      · rcases snoc_cases pre with rfl | ⟨M, q, rfl⟩
        · cases h4
        · rw [lastO_snoc] at h4
          injection h4 with h4
          exact n3 q.1 (by simp) y.1 (List.mem_cons_of_mem _ (List.mem_cons_of_mem _ hyP)) h4.symm
      · injection h4 with h4
        exact (List.nodup_cons.1 n5).1 (by rw [← h4]; exact hyP)
  · rw [List.map_append, List.nodup_append]
    exact ⟨n1, n5, fun a ha b hb => n3 a ha b (List.mem_cons_of_mem _ hb)⟩
end Go.Proofs.Ytdjhpldiifdifaa
