/- The board in plain Lean: an order comes in; waiting orders come in; what a number has and loses. No program in sight. -/
import Derived.Test.YtdjhpldiifdifaaBd1
namespace Go.Proofs.Ytdjhpldiifdifaa
set_option linter.unusedSimpArgs false
set_option linter.unusedVariables false

/-- An entry that waits. -/
structure WOk (nums : Int) (e : En) : Prop where
  n : 1 ≤ e.n ∧ e.n ≤ nums
  ok : e.o.ok = true
  l : e.l = e.o.q
  h : e.h = 0
  t : e.o.t ≠ 0
theorem WOk.mono {nums nums' : Int} {e : En} (h : WOk nums e) (hn : nums ≤ nums') : WOk nums' e := ⟨by have := h.n; omega, h.ok, h.l, h.h, h.t⟩
/-- A board. -/
structure BdOk (S : Bd) : Prop where
  nums : 0 ≤ S.nums ∧ S.nums ≤ 1000000
  last : 0 ≤ S.last ∧ S.last ≤ 1000000
  buy : HOk 1 S.nums S.buy
  sell : HOk 2 S.nums S.sell
  wait : ∀ e ∈ S.wait, WOk S.nums e
  rise : S.wait.Pairwise fun a b => a.n < b.n
  once : (numsL S.live).Nodup
theorem sideB_iff {s : Int} : sideB s = true ↔ s = 1 ∨ s = 2 := by unfold sideB; simp
theorem okS {o : Od} (h : o.ok = true) : o.s = 1 ∨ o.s = 2 := by
  unfold Od.ok at h
  simp only [Bool.and_eq_true] at h
  exact sideB_iff.1 h.1.1.1.1.1.2
theorem okT {o : Od} (h : o.ok = true) : 0 ≤ o.t ∧ o.t ≤ 1000000 := by
  unfold Od.ok at h
  simp only [Bool.and_eq_true] at h
  exact inB2_iff.1 h.1.1.2
theorem okF {o : Od} (h : o.ok = true) : 1 ≤ o.f ∧ o.f ≤ 4 := by
  unfold Od.ok at h
  simp only [Bool.and_eq_true] at h
  exact inB2_iff.1 h.1.1.1.1.2
/-- What rests is a limit order. -/
theorem okK {o : Od} (h : o.ok = true) (hf : o.f = 1 ∨ o.f = 4) : o.k = 1 := by
  unfold Od.ok at h
  simp only [Bool.and_eq_true] at h
  have h2 := h.1.2
  by_cases h1 : o.k = 1
  · exact h1
  · rw [if_neg h1] at h2
    by_cases h3 : o.k = 2
    · rw [if_pos h3] at h2
      simp at h2
      omega
    · rw [if_neg h3] at h2; cases h2
theorem okPk {o : Od} (h : o.ok = true) : o.pk = 0 ∨ 1 ≤ o.pk ∧ o.pk ≤ o.q := by
  unfold Od.ok at h
  simp only [Bool.and_eq_true] at h
  have h2 := h.2
  simp only [Bool.or_eq_true, Bool.and_eq_true, decide_eq_true_eq] at h2
  rcases h2 with h2 | h2
  · exact .inl h2
  · exact .inr (inB2_iff.1 h2.1)
theorem BdOk.half {S : Bd} (h : BdOk S) {s : Int} (hs : s = 1 ∨ s = 2) : HOk s S.nums (S.half s) := by
  rcases hs with rfl | rfl
  · exact h.buy
  · exact h.sell
/-- A side is another one. -/
theorem put_live {S : Bd} {s : Int} (hs : s = 1 ∨ s = 2) (h : Half) : (∀ n, sumL n (S.put s h).live + sumL n (S.half s).all = sumL n S.live + sumL n h.all) ∧ sizeL (S.put s h).live + sizeL (S.half s).all = sizeL S.live + sizeL h.all := by
  have ap : ∀ l m : List En, sizeL (l ++ m) = sizeL l + sizeL m := fun l m => by unfold sizeL; simp
  rcases hs with rfl | rfl
  · refine ⟨fun n => ?_, ?_⟩
    · simp only [Bd.put, Bd.half, Bd.live, if_true, sumL_append]; omega
    · simp only [Bd.put, Bd.half, Bd.live, if_true, ap]; omega
  · have h2 : ¬ (2 : Int) = 1 := by decide
    refine ⟨fun n => ?_, ?_⟩
    · simp only [Bd.put, Bd.half, Bd.live, if_neg h2, sumL_append]; omega
    · simp only [Bd.put, Bd.half, Bd.live, if_neg h2, ap]; omega
theorem put_sub {S : Bd} {s : Int} (hs : s = 1 ∨ s = 2) {h : Half} (hh : SubN (numsL h.all) (numsL (S.half s).all)) : SubN (numsL (S.put s h).live) (numsL S.live) := by
  rcases hs with rfl | rfl
  · simp only [Bd.put, Bd.half, Bd.live, if_true, numsL_append] at *
    exact hh.app (SubN.refl _)
  · have h2 : ¬ (2 : Int) = 1 := by decide
    simp only [Bd.put, Bd.half, Bd.live, if_neg h2, numsL_append] at *
    exact (SubN.refl _).app (hh.app (SubN.refl _))
theorem put_new {S : Bd} {s : Int} (hs : s = 1 ∨ s = 2) {h : Half} {n : Int} (hh : (numsL h.all).Perm (n :: numsL (S.half s).all)) : (numsL (S.put s h).live).Perm (n :: numsL S.live) := by
  rcases hs with rfl | rfl
  · simp only [Bd.put, Bd.half, Bd.live, if_true, numsL_append] at *
    exact hh.append_right _
  · have h2 : ¬ (2 : Int) = 1 := by decide
    simp only [Bd.put, Bd.half, Bd.live, if_neg h2, numsL_append] at *
    exact ((hh.append_right _).append_left _).trans List.perm_middle
theorem put_ok {S : Bd} (h : BdOk S) {s : Int} (hs : s = 1 ∨ s = 2) {g : Half} (hg : HOk s S.nums g) (hn : (numsL (S.put s g).live).Nodup) : BdOk (S.put s g) := by
  rcases hs with rfl | rfl
  · exact ⟨h.nums, h.last, hg, h.sell, h.wait, h.rise, hn⟩
  · exact ⟨h.nums, h.last, h.buy, hg, h.wait, h.rise, hn⟩
theorem put_half {S : Bd} {s : Int} (hs : s = 1 ∨ s = 2) (g : Half) : (S.put s g).half s = g ∧ (S.put s g).half (3 - s) = S.half (3 - s) ∧ (S.put (3 - s) g).half s = S.half s ∧ (S.put s g).nums = S.nums ∧ (S.put s g).last = S.last ∧ (S.put s g).wait = S.wait := by
  rcases hs with rfl | rfl <;> exact ⟨rfl, rfl, rfl, rfl, rfl, rfl⟩
theorem other_side {s : Int} (h : s = 1 ∨ s = 2) : 3 - s = 1 ∨ 3 - s = 2 := by omega

/-- What comes out of an order that comes in. -/
structure ComeOk (S : Bd) (n : Int) (left : Int) (evs : List Ev) (R : Bd × List Ev) : Prop where
  ok : BdOk R.1
  nums : R.1.nums = S.nums
  wait : R.1.wait = S.wait
  evok : ∀ e ∈ R.2, EvOk S.nums e
  tot : ∀ m, takes m R.2 + sumL m R.1.live = takes m evs + sumL m S.live + (if n = m then left else 0)
  sub : SubN (numsL R.1.live) (n :: numsL S.live)
  size : R.2.length + sizeL R.1.live ≤ evs.length + sizeL S.live + left.toNat + 2
theorem cons_sub (n : Int) (l : List Int) : SubN l (n :: l) := ⟨[n], List.perm_append_comm⟩
theorem come_end {S : Bd} (hS : BdOk S) {n left : Int} (hn : 1 ≤ n ∧ n ≤ S.nums) (hl : 1 ≤ left ∧ left ≤ 1000000000) {evs : List Ev} (he : ∀ e ∈ evs, EvOk S.nums e) {w : Int} (hw : w = 3 ∨ w = 4 ∨ w = 6) : ComeOk S n left evs (S, evs ++ [⟨w, n, 0, 0, left⟩]) := by
  refine ⟨hS, rfl, rfl, fun e hm => ?_, fun m => ?_, cons_sub _ _, ?_⟩
  · rcases List.mem_append.1 hm with hm | hm
    · exact he e hm
    · simp only [List.mem_cons, List.not_mem_nil, or_false] at hm
      subst hm
      exact ⟨hn, ⟨by simp only; omega, by have := hS.nums; simp only; omega⟩, by simp only; omega, by simp only; omega, fun h => by simp only at h; omega⟩
  · simp only
    rw [takes_append, takes_one]
    simp only [takesE]
    rcases hw with rfl | rfl | rfl <;> simp <;> omega
  · simp; omega
theorem comeF_ok {S : Bd} (hS : BdOk S) {n left : Int} {o : Od} (ho : o.ok = true) (hn : 1 ≤ n ∧ n ≤ S.nums) (hnew : n ∉ numsL S.live) (hl : 1 ≤ left ∧ left ≤ o.q) {evs : List Ev} (he : ∀ e ∈ evs, EvOk S.nums e) : ComeOk S n left evs (comeF S n o left evs) := by
  have hs := okS ho
  have hso := other_side hs
  have hq := okQ ho
  unfold comeF
  by_cases c1 : o.f = 4 ∧ meetsH o (S.half (3 - o.s)) = true
  · rw [if_pos c1]; exact come_end hS hn (by omega) he (.inr (.inr rfl))
  · rw [if_neg c1]
    by_cases c2 : o.f = 3 ∧ needF o (S.half (3 - o.s)).all left ≠ 0
    · rw [if_pos c2]; exact come_end hS hn (by omega) he (.inr (.inl rfl))
    · rw [if_neg c2]
      have hm0 : MtOk (3 - o.s) S.nums n ⟨left, S.half (3 - o.s), S.last, evs⟩ := ⟨by simp only; omega, hS.half hso, hS.last, he⟩
      obtain ⟨g1, g2, g3, g4, g5⟩ := meetF_ok (o := o) hn (sizeH (S.half (3 - o.s))) _ hm0
      obtain ⟨r, hr⟩ : ∃ r, r = meetF o n (3 - o.s) (sizeH (S.half (3 - o.s))) ⟨left, S.half (3 - o.s), S.last, evs⟩ := ⟨_, rfl⟩
      rw [← hr] at g1 g2 g3 g4 g5 ⊢
      simp only at g3 g4 g5
      have hsub := put_sub (S := S) hso g3
      have hB1 : BdOk (S.put (3 - o.s) r.h) := put_ok hS hso g1.ok (hsub.nodup hS.once)
      have pl := put_live (S := S) hso r.h
      have ph := put_half (S := S) hso r.h
      have h33 : 3 - (3 - o.s) = o.s := by omega
      rw [h33] at ph
      obtain ⟨S1, hS1⟩ : ∃ S1 : Bd, S1 = { S.put (3 - o.s) r.h with last := r.last } := ⟨_, rfl⟩
      have hlive : S1.live = (S.put (3 - o.s) r.h).live := by rw [hS1]; rfl
      have hB : BdOk S1 := by rw [hS1]; exact ⟨hB1.nums, g1.last, hB1.buy, hB1.sell, hB1.wait, hB1.rise, hB1.once⟩
      have hN : S1.nums = S.nums := by rw [hS1]; exact ph.2.2.2.1
      have hW : S1.wait = S.wait := by rw [hS1]; exact ph.2.2.2.2.2
      have hH : S1.half o.s = S.half o.s := by rw [hS1]; exact ph.2.1
      simp only
      rw [← hS1]
      have tot1 : ∀ m, takes m r.evs + sumL m S1.live + (if n = m then r.left else 0) = takes m evs + sumL m S.live + (if n = m then left else 0) := fun m => by
        have a := g2 m
        have b := pl.1 m
        unfold tot at a
        simp only at a
        rw [hlive]
        omega
      have sub1 : SubN (numsL S1.live) (numsL S.live) := by rw [hlive]; exact hsub
      have size1 : r.evs.length + sizeL S1.live ≤ evs.length + sizeL S.live := by
        have b := pl.2
        rw [sizeH_eq, sizeH_eq] at g4
        rw [hlive]
        omega
      have hr0 := g1.left
      by_cases c3 : r.left = 0
      · rw [if_pos c3]
        exact ⟨hB, hN, hW, g1.evs, fun m => by have := tot1 m; simp only; split at this <;> split <;> omega, sub1.trans (cons_sub _ _), by simp only; omega⟩
      · rw [if_neg c3]
        by_cases c4 : o.f = 1 ∨ o.f = 4
        · rw [if_pos c4]
          have hpk := okPk ho
          obtain ⟨sh, hsh⟩ : ∃ sh, sh = (if 0 < o.pk then min o.pk r.left else r.left) := ⟨_, rfl⟩
          rw [← hsh]
          have hsh2 : 1 ≤ sh ∧ sh ≤ r.left ∧ (sh < r.left → 1 ≤ o.pk) := by
            rw [hsh]; split <;> omega
          have key : EnOk o.s S.nums ⟨n, o, r.left, sh⟩ := ⟨hn, ho, rfl, by simp only; omega, by simp only; omega, okK ho c4, hsh2.2.2⟩
          have hold : HOk o.s S.nums (S1.half o.s) := by rw [hH]; exact hS.half hs
          have hperm := addH_all o.s ⟨n, o, r.left, sh⟩ (S1.half o.s)
          have hnp := put_new (S := S1) hs (h := addH o.s ⟨n, o, r.left, sh⟩ (S1.half o.s)) (n := n) (by have := numsL_perm hperm; simpa [numsL] using this)
          have hpl := put_live (S := S1) hs (addH o.s ⟨n, o, r.left, sh⟩ (S1.half o.s))
          have hph := put_half (S := S1) hs (addH o.s ⟨n, o, r.left, sh⟩ (S1.half o.s))
          have hnew1 : n ∉ numsL S1.live := fun h => hnew (sub1.mem h)
          refine ⟨put_ok hB hs (by rw [hN]; exact addH_ok key hold) (hnp.nodup_iff.2 (List.nodup_cons.2 ⟨hnew1, hB.once⟩)), hph.2.2.2.1.trans hN, hph.2.2.2.2.2.trans hW, fun e hm => ?_, fun m => ?_, ?_, ?_⟩
          · rcases List.mem_append.1 hm with hm | hm
            · exact g1.evs e hm
            · simp only [List.mem_cons, List.not_mem_nil, or_false] at hm
              subst hm
              exact ⟨hn, ⟨by simp only; omega, by have := hS.nums; simp only; omega⟩, by simp only; omega, by simp only; omega, fun h => by simp at h⟩
          · have a := tot1 m
            have b := hpl.1 m
            have c := sumL_perm (n := m) hperm
            simp only [sumL] at c
            simp only
            rw [takes_append, takes_one]
            simp only [takesE]
            simp
            split at a <;> split at c <;> split <;> omega
          · exact (SubN.of_perm hnp).trans ((SubN.refl [n]).app sub1)
          · have b := hpl.2
            have c := sizeL_perm hperm
            rw [sizeL_cons] at c
            simp only [List.length_append, List.length_cons, List.length_nil]
            simp only at c
            omega
        · rw [if_neg c4]
          refine ⟨hB, hN, hW, fun e hm => ?_, fun m => ?_, sub1.trans (cons_sub _ _), ?_⟩
          · rcases List.mem_append.1 hm with hm | hm
            · exact g1.evs e hm
            · simp only [List.mem_cons, List.not_mem_nil, or_false] at hm
              subst hm
              exact ⟨hn, ⟨by simp only; omega, by have := hS.nums; simp only; omega⟩, by simp only; omega, by simp only; omega, fun h => by simp at h⟩
          · have a := tot1 m
            simp only
            rw [takes_append, takes_one]
            simp only [takesE]
            simp
            split at a <;> split <;> omega
          · simp only [List.length_append, List.length_cons, List.length_nil]
            omega
end Go.Proofs.Ytdjhpldiifdifaa
