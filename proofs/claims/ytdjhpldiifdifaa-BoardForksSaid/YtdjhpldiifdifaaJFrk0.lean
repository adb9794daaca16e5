/- board.Fork in plain Lean: a side whose entries come in one by one, in their order, is the same side. No program in sight. -/
import Derived.Test.YtdjhpldiifdifaaJBd0
namespace Go.Proofs.Ytdjhpldiifdifaa
set_option linter.unusedSimpArgs false
set_option linter.unusedVariables false

def addAll (s : Int) (h : Half) (l : List En) : Half := l.foldl (fun h e => addH s e h) h
theorem addAll_nil (s : Int) (h : Half) : addAll s h [] = h := rfl
theorem addAll_cons (s : Int) (h : Half) (e : En) (l : List En) : addAll s h (e :: l) = addAll s (addH s e h) l := rfl
theorem addAll_snoc (s : Int) (h : Half) (l : List En) (e : En) : addAll s h (l ++ [e]) = addH s e (addAll s h l) := by simp [addAll, List.foldl_append]
theorem addAll_append (s : Int) (h : Half) (l m : List En) : addAll s h (l ++ m) = addAll s (addAll s h l) m := by simp [addAll, List.foldl_append]
theorem addAll_ok {s n : Int} : ∀ (l : List En) {h : Half}, HOk s n h → (∀ e ∈ l, EnOk s n e) → HOk s n (addAll s h l)
  | [], _, hh, _ => hh
  | e :: l, _, hh, hl => addAll_ok l (addH_ok (hl e List.mem_cons_self) hh) (fun x hx => hl x (List.mem_cons_of_mem _ hx))
theorem better_asym {s a b : Int} (h : better s a b = true) : ¬ a = b ∧ better s b a = false := by
  unfold better at *
  by_cases hs : s = 1 <;> simp only [hs, if_true, if_false, decide_eq_true_eq, decide_eq_false_iff_not] at * <;> omega
theorem addH_end {s : Int} {e : En} : ∀ {h : Half}, (∀ x ∈ h, better s x.1 e.o.p = true) → addH s e h = h ++ [(e.o.p, [e])]
  | [], _ => rfl
  | (p, q) :: r, hb => by
    have h1 := better_asym (hb (p, q) List.mem_cons_self)
    unfold addH
    rw [if_neg h1.1, if_neg (by rw [h1.2]; simp), addH_end (fun x hx => hb x (List.mem_cons_of_mem _ hx))]
    rfl
theorem addH_last {s p : Int} {e : En} {q : List En} (hp : e.o.p = p) : ∀ {h : Half}, (∀ x ∈ h, better s x.1 p = true) → addH s e (h ++ [(p, q)]) = h ++ [(p, q ++ [e])]
  | [], _ => by
    show addH s e [(p, q)] = _
    unfold addH
    rw [if_pos hp.symm]
    rfl
  | (p', q') :: r, hb => by
    have h1 := better_asym (hb (p', q') List.mem_cons_self)
    rw [List.cons_append]
    unfold addH
    rw [hp, if_neg h1.1, if_neg (by rw [h1.2]; simp), addH_last hp (fun x hx => hb x (List.mem_cons_of_mem _ hx))]
    rfl
theorem addAll_level {s p : Int} {acc : Half} (hb : ∀ x ∈ acc, better s x.1 p = true) : ∀ (q q0 : List En), (∀ e ∈ q, e.o.p = p) → addAll s (acc ++ [(p, q0)]) q = acc ++ [(p, q0 ++ q)]
  | [], q0, _ => by simp [addAll_nil]
  | e :: q, q0, hq => by
    rw [addAll_cons, addH_last (hq e List.mem_cons_self) hb, addAll_level hb q (q0 ++ [e]) (fun x hx => hq x (List.mem_cons_of_mem _ hx))]
    simp
theorem addAll_all {s n : Int} : ∀ (h acc : Half), HOk s n (acc ++ h) → addAll s acc h.all = acc ++ h
  | [], acc, _ => by rw [all_nil, addAll_nil, List.append_nil]
  | (p, q) :: r, acc, hh => by
    have hm : (p, q) ∈ acc ++ (p, q) :: r := List.mem_append_right _ List.mem_cons_self
    have hb : ∀ x ∈ acc, better s x.1 p = true := fun x hx => (List.pairwise_append.1 hh.sorted).2.2 x hx (p, q) List.mem_cons_self
    have hq := hh.full _ hm
    have hp : ∀ e ∈ q, e.o.p = p := hh.price _ hm
    rw [all_cons, addAll_append]
    cases q with
    | nil => exact absurd rfl hq
    | cons e q =>
      have e1 : addAll s acc (e :: q) = acc ++ [(p, e :: q)] := by
        have hpe := hp e List.mem_cons_self
        rw [addAll_cons, addH_end (by rw [hpe]; exact hb), hpe]
        exact addAll_level hb q [e] (fun x hx => hp x (List.mem_cons_of_mem _ hx))
      rw [e1, addAll_all r (acc ++ [(p, e :: q)]) (by simpa using hh)]
      simp
theorem addAll_same {s n : Int} {h : Half} (hh : HOk s n h) : addAll s [] h.all = h := addAll_all h [] hh
/-- The numbers of what came in. -/
theorem addAll_perm (s : Int) : ∀ (l : List En) (h : Half), (addAll s h l).all.Perm (l ++ h.all)
  | [], h => List.Perm.refl _
  | e :: l, h => by
    rw [addAll_cons]
    refine (addAll_perm s l (addH s e h)).trans ?_
    exact ((addH_all s e h).append_left l).trans List.perm_middle
end Go.Proofs.Ytdjhpldiifdifaa
