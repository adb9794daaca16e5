/- The board in plain Lean: what holds at every board; a meeting and its measure. No program in sight. -/
import Derived.Test.YtdjhpldiifdifaaBd0
namespace Go.Proofs.Ytdjhpldiifdifaa
set_option linter.unusedSimpArgs false
set_option linter.unusedVariables false

theorem inB2_iff {x lo hi : Int} : inB2 x lo hi = true ↔ lo ≤ x ∧ x ≤ hi := by unfold inB2; simp
/-- An entry of a side that rests. -/
structure EnOk (side nums : Int) (e : En) : Prop where
  n : 1 ≤ e.n ∧ e.n ≤ nums
  ok : e.o.ok = true
  s : e.o.s = side
  l : 1 ≤ e.l ∧ e.l ≤ e.o.q
  h : 1 ≤ e.h ∧ e.h ≤ e.l
  f : e.o.k = 1
  pk : e.h < e.l → 1 ≤ e.o.pk
theorem EnOk.mono {side nums nums' : Int} {e : En} (h : EnOk side nums e) (hn : nums ≤ nums') : EnOk side nums' e := ⟨by have := h.n; omega, h.ok, h.s, h.l, h.h, h.f, h.pk⟩
/-- A side of a board. -/
structure HOk (side nums : Int) (h : Half) : Prop where
  full : ∀ x ∈ h, x.2 ≠ []
  ent : ∀ x ∈ h, ∀ e ∈ x.2, EnOk side nums e
  price : ∀ x ∈ h, ∀ e ∈ x.2, e.o.p = x.1
  sorted : h.Pairwise fun a b => better side a.1 b.1 = true
theorem HOk.mono {side nums nums' : Int} {h : Half} (hh : HOk side nums h) (hn : nums ≤ nums') : HOk side nums' h := ⟨hh.full, fun x hx e he => (hh.ent x hx e he).mono hn, hh.price, hh.sorted⟩
theorem HOk.nil (side nums : Int) : HOk side nums [] := ⟨by simp, by simp, by simp, List.Pairwise.nil⟩
theorem HOk.tail {side nums : Int} {x : Int × List En} {h : Half} (hh : HOk side nums (x :: h)) : HOk side nums h :=
  ⟨fun y hy => hh.full y (List.mem_cons_of_mem _ hy), fun y hy => hh.ent y (List.mem_cons_of_mem _ hy), fun y hy => hh.price y (List.mem_cons_of_mem _ hy), (List.pairwise_cons.1 hh.sorted).2⟩
theorem HOk.cons {side nums : Int} {p : Int} {q : List En} {h : Half} (hh : HOk side nums h) (h1 : q ≠ []) (h2 : ∀ e ∈ q, EnOk side nums e ∧ e.o.p = p) (h3 : ∀ x ∈ h, better side p x.1 = true) : HOk side nums ((p, q) :: h) := by
  refine ⟨fun x hx => ?_, fun x hx e he => ?_, fun x hx e he => ?_, List.pairwise_cons.2 ⟨h3, hh.sorted⟩⟩
  · rcases List.mem_cons.1 hx with rfl | hx
    · exact h1
    · exact hh.full x hx
  · rcases List.mem_cons.1 hx with rfl | hx
    · exact (h2 e he).1
    · exact hh.ent x hx e he
  · rcases List.mem_cons.1 hx with rfl | hx
    · exact (h2 e he).2
    · exact hh.price x hx e he
theorem HOk.head {side nums : Int} {p : Int} {q : List En} {h : Half} (hh : HOk side nums ((p, q) :: h)) : q ≠ [] ∧ (∀ e ∈ q, EnOk side nums e ∧ e.o.p = p) ∧ ∀ x ∈ h, better side p x.1 = true :=
  ⟨hh.full (p, q) List.mem_cons_self, fun e he => ⟨hh.ent (p, q) List.mem_cons_self e he, hh.price (p, q) List.mem_cons_self e he⟩, (List.pairwise_cons.1 hh.sorted).1⟩
theorem all_cons (p : Int) (q : List En) (h : Half) : Half.all ((p, q) :: h) = q ++ h.all := rfl
theorem all_nil : Half.all [] = [] := rfl
theorem HOk.mem {side nums : Int} {h : Half} (hh : HOk side nums h) : ∀ e ∈ h.all, EnOk side nums e := by
  intro e he
  obtain ⟨x, hx, hex⟩ := List.mem_flatMap.1 he
  exact hh.ent x hx e hex
/-- The front of a side, or none. -/
theorem HOk.cases {side nums : Int} {h : Half} (hh : HOk side nums h) : (h = [] ∧ frontH h = none) ∨ ∃ p y q r, h = (p, y :: q) :: r ∧ frontH h = some y ∧ y.o.p = p ∧ EnOk side nums y := by
  match h, hh with
  | [], _ => exact .inl ⟨rfl, rfl⟩
  | (p, []) :: r, hh => exact absurd rfl hh.head.1
  | (p, y :: q) :: r, hh => exact .inr ⟨p, y, q, r, rfl, rfl, (hh.head.2.1 y (by simp)).2, (hh.head.2.1 y (by simp)).1⟩
theorem popH_ok {side nums : Int} {p : Int} {y : En} {q : List En} {r : Half} (hh : HOk side nums ((p, y :: q) :: r)) : HOk side nums (popH ((p, y :: q) :: r)) ∧ Half.all ((p, y :: q) :: r) = y :: (popH ((p, y :: q) :: r)).all := by
  unfold popH
  cases q with
  | nil => exact ⟨hh.tail, by simp [all_cons]⟩
  | cons z q =>
    simp only [List.isEmpty_cons, Bool.false_eq_true, if_false]
    exact ⟨hh.tail.cons (by simp) (fun e he => hh.head.2.1 e (List.mem_cons_of_mem _ he)) hh.head.2.2, by simp [all_cons]⟩
theorem setH_ok {side nums : Int} {p : Int} {y z : En} {q : List En} {r : Half} (hh : HOk side nums ((p, y :: q) :: r)) (hz : EnOk side nums z) (hp : z.o.p = p) : HOk side nums (setH z ((p, y :: q) :: r)) ∧ (setH z ((p, y :: q) :: r)).all = z :: (popH ((p, y :: q) :: r)).all := by
  refine ⟨hh.tail.cons (by simp) (fun e he => ?_) hh.head.2.2, ?_⟩
  · rcases List.mem_cons.1 he with rfl | he
    · exact ⟨hz, hp⟩
    · exact hh.head.2.1 e (List.mem_cons_of_mem _ he)
  · have := (popH_ok hh).2
    rw [all_cons] at this
    simp only [List.cons_append, List.cons.injEq, true_and] at this
    rw [← this]
    rfl
theorem better_trans {side a b c : Int} (h : better side a b = true) (k : better side b c = true) : better side a c = true := by
  unfold better at *
  by_cases hs : side = 1 <;> simp only [hs, if_true, if_false, decide_eq_true_eq] at * <;> omega
theorem better_not {side a b : Int} (h : ¬ a = b) (k : better side a b = false) : better side b a = true := by
  unfold better at *
  by_cases hs : side = 1 <;> simp only [hs, if_true, if_false, decide_eq_true_eq, decide_eq_false_iff_not] at * <;> omega
theorem addH_all (side : Int) (e : En) : ∀ h : Half, (addH side e h).all.Perm (e :: h.all)
  | [] => by simp [addH, all_cons, all_nil]
  | (p, q) :: r => by
    unfold addH
    split
    · rw [all_cons, all_cons, List.append_assoc]
      exact List.perm_middle
    · split
      · exact List.Perm.refl _
      · rw [all_cons, all_cons]
        exact ((addH_all side e r).append_left q).trans List.perm_middle
theorem addH_first {side : Int} {e : En} : ∀ {h : Half}, ∀ x ∈ addH side e h, x.1 = e.o.p ∨ ∃ y ∈ h, y.1 = x.1
  | [], x, hx => by simp [addH] at hx; exact .inl (by rw [hx])
  | (p, q) :: r, x, hx => by
    unfold addH at hx
    split at hx
    · rename_i hp
      rcases List.mem_cons.1 hx with rfl | hx
      · exact .inl hp
      · exact .inr ⟨x, List.mem_cons_of_mem _ hx, rfl⟩
    · split at hx
      · rcases List.mem_cons.1 hx with rfl | hx
        · exact .inl rfl
        · exact .inr ⟨x, hx, rfl⟩
      · rcases List.mem_cons.1 hx with rfl | hx
        · exact .inr ⟨(p, q), by simp, rfl⟩
        · rcases addH_first x hx with h | ⟨y, h1, h2⟩
          · exact .inl h
          · exact .inr ⟨y, List.mem_cons_of_mem _ h1, h2⟩
theorem addH_ok {side nums : Int} {e : En} (he : EnOk side nums e) : ∀ {h : Half}, HOk side nums h → HOk side nums (addH side e h)
  | [], _ => (HOk.nil side nums).cons (by simp) (fun x hx => by simp at hx; subst hx; exact ⟨he, rfl⟩) (by simp)
  | (p, q) :: r, hh => by
    unfold addH
    split
    · rename_i hp
      refine hh.tail.cons (by simp) (fun x hx => ?_) hh.head.2.2
      rcases List.mem_append.1 hx with hx | hx
      · exact hh.head.2.1 x hx
      · simp at hx; subst hx; exact ⟨he, hp.symm⟩
    · rename_i hp
      split
      · rename_i hb
        refine hh.cons (by simp) (fun x hx => by simp at hx; subst hx; exact ⟨he, rfl⟩) (fun x hx => ?_)
        rcases List.mem_cons.1 hx with rfl | hx
        · exact hb
        · exact better_trans hb (hh.head.2.2 x hx)
      · rename_i hb
        refine (addH_ok he hh.tail).cons hh.head.1 hh.head.2.1 (fun x hx => ?_)
        rcases addH_first x hx with h | ⟨y, h1, h2⟩
        · rw [h]; exact better_not (fun h => hp h.symm) (by simpa using hb)
        · rw [← h2]; exact hh.head.2.2 y h1
/-- The measure of entries. -/
def sizeL (l : List En) : Nat := (l.map fun e => e.l.toNat + 1).sum
theorem sizeL_cons (e : En) (l : List En) : sizeL (e :: l) = e.l.toNat + 1 + sizeL l := rfl
theorem sizeL_perm {l m : List En} (h : l.Perm m) : sizeL l = sizeL m := (h.map fun e : En => e.l.toNat + 1).sum_nat
theorem sizeH_eq (h : Half) : sizeH h = sizeL h.all := rfl
/-- What a number has among entries. -/
def sumL (n : Int) : List En → Int
  | [] => 0
  | e :: l => (if e.n = n then e.l else 0) + sumL n l
theorem sumL_perm {n : Int} {l m : List En} (h : l.Perm m) : sumL n l = sumL n m := by
  induction h with
  | nil => rfl
  | cons x _ ih => simp only [sumL, ih]
  | swap x y l => simp only [sumL]; omega
  | trans _ _ ih1 ih2 => exact ih1.trans ih2
theorem sumL_append (n : Int) : ∀ l m : List En, sumL n (l ++ m) = sumL n l + sumL n m
  | [], m => by simp [sumL]
  | e :: l, m => by simp only [List.cons_append, sumL, sumL_append n l m]; omega
/-- What events take from a number. -/
def takesE (n : Int) (e : Ev) : Int :=
  if e.w = 1 then (if e.o = n then e.q else 0) + (if e.x = n then e.q else 0)
  else if e.w = 3 ∨ e.w = 4 ∨ e.w = 5 ∨ e.w = 6 then (if e.o = n then e.q else 0) else 0
def takes (n : Int) : List Ev → Int
  | [] => 0
  | e :: l => takesE n e + takes n l
theorem takes_append (n : Int) : ∀ l m : List Ev, takes n (l ++ m) = takes n l + takes n m
  | [], m => by simp [takes]
  | e :: l, m => by simp only [List.cons_append, takes, takes_append n l m]; omega
theorem takes_one (n : Int) (e : Ev) : takes n [e] = takesE n e := by simp [takes]
/-- An event of a board whose numbers go so far. -/
def EvOk (nums : Int) (e : Ev) : Prop := (1 ≤ e.o ∧ e.o ≤ nums) ∧ (0 ≤ e.x ∧ e.x ≤ nums) ∧ 1 ≤ e.q ∧ e.q ≤ 1000000000 ∧ (e.w = 1 → 1 ≤ e.x)
/-- Numbers of which some were struck. -/
def SubN (l m : List Int) : Prop := ∃ d, (l ++ d).Perm m
theorem SubN.refl (l : List Int) : SubN l l := ⟨[], by simp⟩
theorem SubN.trans {l m k : List Int} (h : SubN l m) (g : SubN m k) : SubN l k := by
  obtain ⟨d, hd⟩ := h
  obtain ⟨e, he⟩ := g
  exact ⟨d ++ e, by rw [← List.append_assoc]; exact (hd.append_right e).trans he⟩
theorem SubN.of_perm {l m : List Int} (h : l.Perm m) : SubN l m := ⟨[], by simpa using h⟩
theorem SubN.app {l m l' m' : List Int} (h : SubN l m) (g : SubN l' m') : SubN (l ++ l') (m ++ m') := by
  obtain ⟨d, hd⟩ := h
  obtain ⟨e, he⟩ := g
  refine ⟨d ++ e, List.Perm.trans ?_ (hd.append he)⟩
  simp only [List.append_assoc]
  refine List.Perm.append_left l ?_
  rw [← List.append_assoc, ← List.append_assoc]
  exact (List.perm_append_comm (l₁ := l') (l₂ := d)).append_right e
theorem SubN.nodup {l m : List Int} (h : SubN l m) (hm : m.Nodup) : l.Nodup := by
  obtain ⟨d, hd⟩ := h
  exact (List.nodup_append.1 (hd.nodup_iff.2 hm)).1
theorem SubN.mem {l m : List Int} (h : SubN l m) {n : Int} (hn : n ∈ l) : n ∈ m := by
  obtain ⟨d, hd⟩ := h
  exact hd.mem_iff.1 (List.mem_append_left d hn)
theorem SubN.len {l m : List Int} (h : SubN l m) : l.length ≤ m.length := by
  obtain ⟨d, hd⟩ := h
  have := hd.length_eq
  rw [List.length_append] at this
  omega
def numsL (l : List En) : List Int := l.map En.n
theorem numsL_perm {l m : List En} (h : l.Perm m) : (numsL l).Perm (numsL m) := h.map _
theorem numsL_append (l m : List En) : numsL (l ++ m) = numsL l ++ numsL m := List.map_append
theorem sub_pop (y : En) (l : List En) : SubN (numsL l) (numsL (y :: l)) := ⟨[y.n], List.perm_append_comm⟩

/-- A trade with the front. -/
theorem tradeH_ok {side nums : Int} {p : Int} {y : En} {q : List En} {r : Half} (hh : HOk side nums ((p, y :: q) :: r)) {k : Int} (h1 : 1 ≤ k) (h2 : k ≤ y.h) :
    HOk side nums (tradeH side y k ((p, y :: q) :: r)) ∧ (∀ n, sumL n (tradeH side y k ((p, y :: q) :: r)).all + (if y.n = n then k else 0) = sumL n (Half.all ((p, y :: q) :: r))) ∧
    sizeH (tradeH side y k ((p, y :: q) :: r)) + 1 ≤ sizeH ((p, y :: q) :: r) ∧ SubN (numsL (tradeH side y k ((p, y :: q) :: r)).all) (numsL (Half.all ((p, y :: q) :: r))) := by
  obtain ⟨yn, yo, yside, yl, yh, yf, ypk⟩ := (hh.head.2.1 y (by simp)).1
  have yp := (hh.head.2.1 y (by simp)).2
  obtain ⟨hp, hall⟩ := popH_ok hh
  rw [sizeH_eq, sizeH_eq, hall]
  unfold tradeH
  by_cases c1 : 0 < y.h - k
  · rw [if_pos c1]
    have key : EnOk side nums { y with l := y.l - k, h := y.h - k } := ⟨yn, yo, yside, by simp only; omega, by simp only; omega, yf, fun h => ypk (by simp only at h; omega)⟩
    obtain ⟨g1, g2⟩ := setH_ok hh key yp
    rw [g2]
    refine ⟨g1, fun n => ?_, ?_, SubN.refl _⟩
    · simp only [sumL]; split <;> omega
    · rw [sizeL_cons, sizeL_cons]; simp only; omega
  · rw [if_neg c1]
    by_cases c2 : y.l - k = 0
    · rw [if_pos c2]
      refine ⟨hp, fun n => ?_, ?_, sub_pop _ _⟩
      · simp only [sumL]; split <;> omega
      · rw [sizeL_cons]; omega
    · rw [if_neg c2]
      have hpk := ypk (by omega)
      have key : EnOk side nums { y with l := y.l - k, h := min y.o.pk (y.l - k) } := ⟨yn, yo, yside, by simp only; omega, by simp only; omega, yf, fun _ => hpk⟩
      have hperm := addH_all side { y with l := y.l - k, h := min y.o.pk (y.l - k) } (popH ((p, y :: q) :: r))
      refine ⟨addH_ok key hp, fun n => ?_, ?_, SubN.of_perm (by have := numsL_perm hperm; simpa [numsL] using this)⟩
      · rw [sumL_perm hperm]; simp only [sumL]; split <;> omega
      · rw [sizeL_perm hperm, sizeL_cons, sizeL_cons]; simp only; omega
/-- What holds at a meeting. -/
structure MtOk (side nums xn : Int) (s : Mt) : Prop where
  left : 0 ≤ s.left ∧ s.left ≤ 1000000000
  ok : HOk side nums s.h
  last : 0 ≤ s.last ∧ s.last ≤ 1000000
  evs : ∀ e ∈ s.evs, EvOk nums e
/-- What a number has at a meeting, with what it lost. -/
def tot (n xn : Int) (s : Mt) : Int := takes n s.evs + sumL n s.h.all + (if xn = n then s.left else 0)
theorem okP {o : Od} (h : o.ok = true) (hk : o.k = 1) : 1 ≤ o.p ∧ o.p ≤ 1000000 := by
  unfold Od.ok at h
  rw [if_pos hk] at h
  simp only [Bool.and_eq_true] at h
  exact inB2_iff.1 h.1.2
theorem okQ {o : Od} (h : o.ok = true) : 1 ≤ o.q ∧ o.q ≤ 1000000000 := by
  unfold Od.ok at h
  simp only [Bool.and_eq_true] at h
  exact inB2_iff.1 h.1.1.1.2
theorem meet1_ok {side nums xn : Int} {o : Od} {y : En} {s : Mt} (hs : MtOk side nums xn s) (hx : 1 ≤ xn ∧ xn ≤ nums) (hl : 0 < s.left) (hy : frontH s.h = some y) :
    MtOk side nums xn (meet1 o xn side y s) ∧ (∀ n, tot n xn (meet1 o xn side y s) = tot n xn s) ∧ sizeH (meet1 o xn side y s).h + 1 ≤ sizeH s.h ∧ SubN (numsL (meet1 o xn side y s).h.all) (numsL s.h.all) ∧ (meet1 o xn side y s).evs.length = s.evs.length + 1 := by
  obtain ⟨left, h, last, evs⟩ := s
  obtain ⟨hs1, hs2, hs3, hs4⟩ := hs
  simp only at hs1 hs2 hs3 hs4 hl hy
  rcases hs2.cases with ⟨_, h2⟩ | ⟨p, y', q, r, rfl, h2, hp, he⟩
  · rw [h2] at hy; cases hy
  · rw [h2] at hy
    cases hy
    obtain ⟨yn, yo, yside, yl, yh, yf, ypk⟩ := he
    have hq := okQ yo
    have hpp := okP yo yf
    unfold meet1
    by_cases hm : y.o.m = o.m
    · rw [if_pos hm]
      obtain ⟨g1, g2⟩ := popH_ok hs2
      refine ⟨⟨hs1, g1, hs3, fun e he => ?_⟩, fun n => ?_, ?_, ?_, by simp⟩
      · rcases List.mem_append.1 he with he | he
        · exact hs4 e he
        · simp only [List.mem_cons, List.not_mem_nil, or_false] at he
          subst he
          exact ⟨yn, ⟨by simp only; omega, by simp only; omega⟩, by simp only; omega, by simp only; omega, fun h => by simp at h⟩
      · unfold tot
        simp only
        rw [takes_append, takes_one, g2]
        simp only [sumL, takesE]
        simp
        split <;> (try split) <;> omega
      · rw [sizeH_eq, sizeH_eq]; simp only; rw [g2, sizeL_cons]; omega
      · simp only; rw [g2]; exact sub_pop _ _
    · rw [if_neg hm]
      obtain ⟨g1, g2, g3, g4⟩ := tradeH_ok hs2 (k := min left y.h) (by omega) (by omega)
      refine ⟨⟨by simp only; omega, g1, by simp only; omega, fun e he => ?_⟩, fun n => ?_, g3, g4, by simp⟩
      · rcases List.mem_append.1 he with he | he
        · exact hs4 e he
        · simp only [List.mem_cons, List.not_mem_nil, or_false] at he
          subst he
          exact ⟨hx, ⟨by simp only; omega, by simp only; omega⟩, by simp only; omega, by simp only; omega, fun _ => by simp only; omega⟩
      · unfold tot
        simp only
        rw [takes_append, takes_one]
        have := g2 n
        simp only [takesE]
        simp
        split at this <;> split <;> (try split) <;> omega
/-- The whole meeting. -/
theorem meetF_ok {side nums xn : Int} {o : Od} (hx : 1 ≤ xn ∧ xn ≤ nums) : ∀ (k : Nat) (s : Mt), MtOk side nums xn s →
    MtOk side nums xn (meetF o xn side k s) ∧ (∀ n, tot n xn (meetF o xn side k s) = tot n xn s) ∧ SubN (numsL (meetF o xn side k s).h.all) (numsL s.h.all) ∧ (meetF o xn side k s).evs.length + sizeH (meetF o xn side k s).h ≤ s.evs.length + sizeH s.h ∧ (meetF o xn side k s).left ≤ s.left
  | 0, s, hs => ⟨hs, fun _ => rfl, SubN.refl _, Nat.le_refl _, Int.le_refl _⟩
  | k + 1, s, hs => by
    have nop : MtOk side nums xn s ∧ (∀ n, tot n xn s = tot n xn s) ∧ SubN (numsL s.h.all) (numsL s.h.all) ∧ s.evs.length + sizeH s.h ≤ s.evs.length + sizeH s.h ∧ s.left ≤ s.left := ⟨hs, fun _ => rfl, SubN.refl _, Nat.le_refl _, Int.le_refl _⟩
    unfold meetF
    by_cases hl : 0 < s.left
    · rw [if_pos hl]
      cases hf : frontH s.h with
      | none => exact nop
      | some y =>
        simp only
        by_cases hg : o.good y.o.p = true
        · rw [if_pos hg]
          obtain ⟨g1, g2, g3, g4, g5⟩ := meet1_ok (o := o) hs hx hl hf
          obtain ⟨k1, k2, k3, k4, k5⟩ := meetF_ok hx k (meet1 o xn side y s) g1
          refine ⟨k1, fun n => (k2 n).trans (g2 n), k3.trans g4, by omega, Int.le_trans k5 ?_⟩
          unfold meet1
          split
          · exact Int.le_refl _
          · have hh := hs.ok
            rcases hh.cases with ⟨_, h2⟩ | ⟨p, y', q, r, hr, h2, hp, he⟩
            · rw [h2] at hf; cases hf
            · rw [h2] at hf; cases hf
              have := he.h
              simp only; omega
        · rw [if_neg hg]; exact nop
    · rw [if_neg hl]; exact nop
end Go.Proofs.Ytdjhpldiifdifaa
