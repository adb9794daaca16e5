/- What visiting a tree yields. Pieces as sorted lists: splitting, visiting. No program in sight. -/
import Derived.RangeFuncNested
import Derived.RangeFuncBound
import Derived.RangeFuncCalls
import Derived.RangeFuncLeaves
import Derived.Shelf.Abstract
import Derived.Shelf.RegionOpen
import Derived.OwnWalkIn
import Derived.TacticsInMore
import Derived.LoopNIn
import Derived.LoopIn
import Derived.Test.YtepldjidkomclaaGreatJATree4
namespace Go.Proofs.YtepldjidkomclaaGreat.St
set_option linter.unusedSimpArgs false
set_option linter.unusedVariables false
open Go.RowKit Go.Shelf
def Pc.Good (p : Pc) : Prop := 1 ≤ p.from_ ∧ p.from_ ≤ p.to ∧ p.to ≤ 1000000
def Pc.cut (p : Pc) (a b : Int) : Pc := ⟨max a p.from_, min b p.to, p.cell⟩
def visL : T → Int → Int → List Pc
  | .nil, _, _ => []
  | .node l r p _, a, b => (if a < p.from_ then visL l a b else []) ++ (if a ≤ p.to ∧ p.from_ ≤ b then [p.cut a b] else []) ++ (if b ≤ p.to then [] else visL r a b)
def Tn (n₀ : Nat) (w : World) : Option Addr → T → Prop
  | p, .nil => p = none
  | p, .node l r pc h => ∃ b pl pr, p = some ⟨b, 0, none⟩ ∧ b < n₀ ∧ w.heap[b]? = some (nodeObj pl pr pc h) ∧ Tn n₀ w pl l ∧ Tn n₀ w pr r
theorem Tn.of_tree {w W : World} {n₀ : Nat} (hn : w.heap.size ≤ n₀) (hb : Below n₀ w W) : ∀ {t : T} {p : Option Addr}, TreeAt w p t → Tn n₀ W p t
  | .nil, _, h => h
  | .node l r pc h, _, ⟨b, pl, pr, hp, hk, hl, hr⟩ => by
    have lt : b < w.heap.size := (Array.getElem?_eq_some_iff.1 hk).1
    exact ⟨b, pl, pr, hp, by omega, (hb.block b (by omega)).trans hk, Tn.of_tree hn hb hl, Tn.of_tree hn hb hr⟩
theorem Tn.below {n₀ : Nat} {A B : World} (h : Below n₀ A B) : ∀ {p : Option Addr} {t : T}, Tn n₀ A p t → Tn n₀ B p t
  | _, .nil, ht => ht
  | _, .node _ _ _ _, ⟨b, pl, pr, hp, hb, hk, hl, hr⟩ => ⟨b, pl, pr, hp, hb, (h.block b hb).trans hk, Tn.below h hl, Tn.below h hr⟩
def T.Good : T → Prop
  | .nil => True
  | .node l r p _ => l.Good ∧ r.Good ∧ p.Good
theorem room_of_none {F : Fence} (hd : F.depth = none) (k : Nat) : F.room k := fun d h => by rw [hd] at h; cases h
theorem roundIn_anyDepth {F : Fence} (hd : F.depth = none) {m m' : Nat} {P : Program} {l : Nat} {f : FuncId} {tmps : Array Value} {assign body : Code} {w : World} {R : Ending → World → Prop}
    (h : RoundIn F m P l f tmps assign body w R) : RoundIn F m' P l f tmps assign body w R := ⟨h.1, fun c cs _ => h.2 c cs (room_of_none hd _)⟩
theorem yieldAt_anyDepth {F : Fence} (hd : F.depth = none) {m : Nat} (m' : Nat) {P : Program} {l : Nat} {args : Array Value} {W : World} {R : Ending → World → Prop} (h : YieldAt F m P l args W R) : YieldAt F m' P l args W R := by
  obtain ⟨fn, tmps, assign, body, hy, hR⟩ := h
  exact ⟨fn, tmps, assign, body, hy, roundIn_anyDepth hd hR⟩
end Go.Proofs.YtepldjidkomclaaGreat.St
namespace Go.Proofs.YtepldjidkomclaaGreat.St
set_option linter.unusedSimpArgs false
set_option linter.unusedVariables false
def splitP : List Pc → Int → List Pc × List Pc
  | [], _ => ([], [])
  | p :: ps, a => if a ≤ p.from_ then ([], p :: ps) else if p.to < a then (p :: (splitP ps a).1, (splitP ps a).2) else ([⟨p.from_, a - 1, p.cell⟩], ⟨a, p.to, p.cell⟩ :: ps)
def cutP (a b : Int) (p : Pc) : Option Pc := if a ≤ p.to ∧ p.from_ ≤ b then some (p.cut a b) else none
def visP (l : List Pc) (a b : Int) : List Pc := l.filterMap (cutP a b)
structure Sorted (l : List Pc) : Prop where
  rise : l.Pairwise (fun p q => p.to < q.from_)
  good : ∀ p ∈ l, p.Good
def ToOk (l : List Pc) : Prop := ∀ q ∈ l, 0 ≤ q.to ∧ q.to ≤ 1000000000
theorem splitP_left (p : Pc) (r : List Pc) (a : Int) (h : a ≤ p.from_) : ∀ l, splitP (l ++ p :: r) a = ((splitP l a).1, (splitP l a).2 ++ p :: r)
  | [] => by simp [splitP, h]
  | q :: l => by
    have ih := splitP_left p r a h l
    simp only [List.cons_append, splitP]
    split
    · rfl
    · split
      · rw [ih]
      · rfl
theorem splitP_right (r : List Pc) (a : Int) : ∀ l : List Pc, (∀ q ∈ l, q.from_ ≤ q.to ∧ q.to < a) → splitP (l ++ r) a = (l ++ (splitP r a).1, (splitP r a).2)
  | [], _ => rfl
  | q :: l, h => by
    have ih := splitP_right r a l (fun x hx => h x (List.mem_cons_of_mem _ hx))
    have hq := h q (List.mem_cons_self ..)
    simp only [List.cons_append, splitP]
    rw [if_neg (by omega), if_pos hq.2, ih]
theorem Sorted.left {l r : List Pc} (h : Sorted (l ++ r)) : Sorted l := ⟨(List.pairwise_append.1 h.rise).1, fun p hp => h.good p (by simp [hp])⟩
theorem Sorted.right {l r : List Pc} (h : Sorted (l ++ r)) : Sorted r := ⟨(List.pairwise_append.1 h.rise).2.1, fun p hp => h.good p (by simp [hp])⟩
theorem Sorted.tail {p : Pc} {r : List Pc} (h : Sorted (p :: r)) : Sorted r := ⟨(List.pairwise_cons.1 h.rise).2, fun q hq => h.good q (by simp [hq])⟩
theorem Sorted.before {l : List Pc} {p : Pc} {r : List Pc} (h : Sorted (l ++ p :: r)) : ∀ q ∈ l, q.from_ ≤ q.to ∧ q.to < p.from_ := fun q hq =>
  ⟨(h.good q (by simp [hq])).2.1, (List.pairwise_append.1 h.rise).2.2 q hq p (by simp)⟩
theorem Sorted.behind {p : Pc} {r : List Pc} (h : Sorted (p :: r)) : ∀ q ∈ r, p.to < q.from_ := fun q hq => (List.pairwise_cons.1 h.rise).1 q hq
theorem splitT_eq (a : Int) : ∀ t : T, Sorted t.toList → splitT t a = splitP t.toList a
  | .nil, _ => rfl
  | .node l r p _, h => by
    simp only [T.toList] at h ⊢
    have il := splitT_eq a l h.left
    have ir := splitT_eq a r h.right.tail
    have hp := h.good p (by simp)
    unfold splitT
    by_cases h1 : a ≤ p.from_
    · rw [if_pos h1, splitP_left p _ a h1, il]
    · rw [if_neg h1, splitP_right _ a _ (fun q hq => by have := h.before q hq; omega)]
      by_cases h2 : p.to < a
      · rw [if_pos h2, ir]; simp only [splitP]; rw [if_neg h1, if_pos h2]
      · rw [if_neg h2]; simp only [splitP]; rw [if_neg h1, if_neg h2]
theorem visP_append (l r : List Pc) (a b : Int) : visP (l ++ r) a b = visP l a b ++ visP r a b := by simp [visP]
theorem visP_cons (p : Pc) (r : List Pc) (a b : Int) : visP (p :: r) a b = (if a ≤ p.to ∧ p.from_ ≤ b then [p.cut a b] else []) ++ visP r a b := by
  simp only [visP, List.filterMap_cons, cutP]; split <;> split <;> simp_all
theorem visP_low (l : List Pc) (a b : Int) (h : ∀ q ∈ l, q.to < a) : visP l a b = [] := by
  rw [visP, List.filterMap_eq_nil_iff]; intro q hq; simp only [cutP]; rw [if_neg]; have := h q hq; omega
theorem visP_high (l : List Pc) (a b : Int) (h : ∀ q ∈ l, b < q.from_) : visP l a b = [] := by
  rw [visP, List.filterMap_eq_nil_iff]; intro q hq; simp only [cutP]; rw [if_neg]; have := h q hq; omega
theorem visL_eq (a b : Int) : ∀ t : T, Sorted t.toList → visL t a b = visP t.toList a b
  | .nil, _ => rfl
  | .node l r p _, h => by
    simp only [T.toList] at h ⊢
    have il := visL_eq a b l h.left
    have ir := visL_eq a b r h.right.tail
    rw [visP_append, visP_cons, visL, il, ir]
    have e1 : (if a < p.from_ then visP l.toList a b else []) = visP l.toList a b := by
      split
      · rfl
      · rw [visP_low]; intro q hq; have := h.before q hq; omega
    have e2 : (if b ≤ p.to then [] else visP r.toList a b) = visP r.toList a b := by
      split
      · rw [visP_high]; intro q hq; have := h.right.behind q hq; omega
      · rfl
    rw [e1, e2, List.append_assoc]
theorem good_iff : ∀ t : T, (∀ p ∈ t.toList, p.Good) → t.Good
  | .nil, _ => trivial
  | .node l r p _, h => ⟨good_iff l (fun q hq => h q (by simp [T.toList, hq])), good_iff r (fun q hq => h q (by simp [T.toList, hq])), h p (by simp [T.toList])⟩
theorem visP_all (l : List Pc) (h : ∀ p ∈ l, p.Good) : visP l 1 1000000 = l := by
  induction l with
  | nil => rfl
  | cons p l ih =>
    have hp := h p (by simp)
    rw [visP_cons, ih (fun q hq => h q (by simp [hq]))]
    simp only [Pc.Good] at hp
    rw [if_pos (by omega)]
    obtain ⟨f, t, c⟩ := p
    simp only [Pc.cut, List.singleton_append, List.cons.injEq, Pc.mk.injEq, and_true] at hp ⊢
    omega
theorem splitP_length (l : List Pc) (a : Int) : (splitP l a).1.length ≤ l.length + 1 ∧ (splitP l a).2.length ≤ l.length + 1 := by
  induction l with
  | nil => simp [splitP]
  | cons p l ih => simp only [splitP]; split <;> (try split) <;> simp <;> omega
theorem splitP_sorted (l : List Pc) (a : Int) (h : Sorted l) : Sorted (splitP l a).1 ∧ Sorted (splitP l a).2 ∧ (∀ p ∈ (splitP l a).1, p.to < a) ∧ (∀ p ∈ (splitP l a).2, a ≤ p.from_) := by
  induction l with
  | nil => exact ⟨h, h, by simp [splitP], by simp [splitP]⟩
  | cons p l ih =>
    obtain ⟨i1, i2, i3, i4⟩ := ih h.tail
    have hp := h.good p (by simp)
    simp only [Pc.Good] at hp
    simp only [splitP]
    split
    · rename_i h1
      exact ⟨⟨List.Pairwise.nil, by simp⟩, h, by simp, fun q hq => by
        rcases List.mem_cons.1 hq with rfl | hq
        · exact h1
        · have := h.behind q hq; omega⟩
    · split
      · rename_i h1 h2
        refine ⟨⟨List.pairwise_cons.2 ⟨fun q hq => ?_, i1.rise⟩, fun q hq => ?_⟩, i2, fun q hq => ?_, i4⟩
        · -- what the rest has below a lies behind p
          have key : ∀ (m : List Pc), (∀ x ∈ m, p.to < x.from_) → ∀ q ∈ (splitP m a).1, p.to < q.from_ := by
            intro m
            induction m with
            | nil => intro _ q hq; simp [splitP] at hq
            | cons y m ihm =>
              intro hm q hq
              simp only [splitP] at hq
              split at hq
              · simp at hq
              · split at hq
                · rcases List.mem_cons.1 hq with rfl | hq
                  · exact hm _ (by simp)
                  · exact ihm (fun x hx => hm x (by simp [hx])) q hq
                · simp at hq; subst hq; exact hm y (by simp)
          exact key l (fun x hx => h.behind x hx) q hq
        · rcases List.mem_cons.1 hq with rfl | hq
          · exact h.good _ (by simp)
          · exact i1.good q hq
        · rcases List.mem_cons.1 hq with rfl | hq
          · exact h2
          · exact i3 q hq
      · rename_i h1 h2
        refine ⟨⟨by simp, fun q hq => ?_⟩, ⟨List.pairwise_cons.2 ⟨fun q hq => h.behind q hq, h.tail.rise⟩, fun q hq => ?_⟩, fun q hq => ?_, fun q hq => ?_⟩
        · simp at hq; subst hq; simp only [Pc.Good]; omega
        · rcases List.mem_cons.1 hq with rfl | hq
          · simp only [Pc.Good]; omega
          · exact h.good q (by simp [hq])
        · simp at hq; subst hq; simp only; omega
        · rcases List.mem_cons.1 hq with rfl | hq
          · simp
          · have := h.behind q hq; omega
theorem appP_toOk (l : List Pc) (p : Pc) (h : ToOk l) (hp : 0 ≤ p.to ∧ p.to ≤ 1000000000) : ToOk (appP l p) := by
  induction l with
  | nil => intro q hq; simp [appP] at hq; subst hq; exact hp
  | cons a l ih =>
    cases l with
    | nil =>
      rw [appP_one]
      intro q hq
      split at hq
      · simp at hq; subst hq; exact hp
      · simp at hq; rcases hq with rfl | rfl
        · exact h _ (by simp)
        · exact hp
    | cons b l =>
      rw [appP_cons _ _ _ (by simp)]
      intro q hq
      rcases List.mem_cons.1 hq with rfl | hq
      · exact h _ (by simp)
      · exact ih (fun x hx => h x (List.mem_cons_of_mem _ hx)) q hq
theorem Sorted.toOk {l : List Pc} (h : Sorted l) : ToOk l := fun q hq => by have := h.good q hq; simp only [Pc.Good] at this; omega
theorem joinP_toOk (l r : List Pc) (h : ToOk l) (hr : ToOk r) : ToOk (joinP l r) := by
  cases r with
  | nil => exact h
  | cons p r =>
    intro q hq
    simp only [joinP, List.mem_append] at hq
    rcases hq with hq | hq
    · exact appP_toOk l p h (hr p (by simp)) q hq
    · exact hr q (by simp [hq])
theorem joinP_length (l r : List Pc) : (joinP l r).length ≤ l.length + r.length := by
  cases r with
  | nil => simp [joinP]
  | cons p r => have := appP_length l p; simp [joinP]; omega
def ownP (g : Cl → Cl) (l : List Pc) : List Pc := l.foldl (fun acc p => appP acc ⟨p.from_, p.to, g p.cell⟩) []
theorem ownP_snoc (g : Cl → Cl) (l : List Pc) (p : Pc) : ownP g (l ++ [p]) = appP (ownP g l) ⟨p.from_, p.to, g p.cell⟩ := by simp [ownP]
theorem ownP_facts (g : Cl → Cl) (l : List Pc) (h : ∀ p ∈ l, p.Good) : (ownP g l).length ≤ l.length ∧ ToOk (ownP g l) := by
  have key : ∀ (l : List Pc) (acc : List Pc), (∀ p ∈ l, p.Good) → ToOk acc → (l.foldl (fun acc p => appP acc ⟨p.from_, p.to, g p.cell⟩) acc).length ≤ acc.length + l.length ∧ ToOk (l.foldl (fun acc p => appP acc ⟨p.from_, p.to, g p.cell⟩) acc) := by
    intro l
    induction l with
    | nil => intro acc _ h; exact ⟨by simp, h⟩
    | cons p l ih =>
      intro acc hl hacc
      have hp := hl p (by simp)
      simp only [Pc.Good] at hp
      have := ih (appP acc ⟨p.from_, p.to, g p.cell⟩) (fun q hq => hl q (by simp [hq])) (appP_toOk acc _ hacc (by simp only; omega))
      have hlen := appP_length acc ⟨p.from_, p.to, g p.cell⟩
      simp only [List.foldl_cons, List.length_cons]
      exact ⟨by omega, this.2⟩
  have := key l [] h (by intro q hq; simp at hq)
  simpa [ownP] using this
def changedP (l : List Pc) (a c : Int) (g : Cl → Cl) : List Pc :=
  joinP (joinP (splitP l a).1 (ownP g (splitP (splitP l a).2 (a + c)).1)) (splitP (splitP l a).2 (a + c)).2
end Go.Proofs.YtepldjidkomclaaGreat.St
