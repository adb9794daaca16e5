/- The board in plain Lean: Enter and Cancel whole: what a number has and loses. No program in sight. -/
import Derived.Test.YtdjhpldiifdifaaBd2
namespace Go.Proofs.Ytdjhpldiifdifaa
set_option linter.unusedSimpArgs false
set_option linter.unusedVariables false

theorem find_split {α : Type} {p : α → Bool} : ∀ {l : List α} {x : α}, l.find? p = some x → ∃ pre post, l = pre ++ x :: post ∧ l.findIdx p = pre.length ∧ l.eraseIdx (l.findIdx p) = pre ++ post ∧ p x = true
  | [], x, h => by simp at h
  | a :: l, x, h => by
    by_cases ha : p a = true
    · rw [List.find?_cons_of_pos ha] at h
      cases h
      refine ⟨[], l, rfl, ?_, ?_, ha⟩
      · simp [List.findIdx_cons, ha]
      · simp [List.findIdx_cons, ha]
    · rw [List.find?_cons_of_neg ha] at h
      obtain ⟨pre, post, h1, h2, h3, h4⟩ := find_split h
      have e : (a :: l).findIdx p = l.findIdx p + 1 := by
        simp only [Bool.not_eq_true] at ha
        simp [List.findIdx_cons, ha]
      refine ⟨a :: pre, post, by rw [h1]; rfl, by rw [e, h2]; rfl, ?_, h4⟩
      rw [e, List.eraseIdx_cons_succ, h3]
      rfl
/-- A waiting entry goes. -/
theorem wait_off {S : Bd} (hS : BdOk S) {pre post : List En} {x : En} (hw : S.wait = pre ++ x :: post) : BdOk { S with wait := pre ++ post } ∧ (S.live).Perm (x :: Bd.live { S with wait := pre ++ post }) := by
  have hp : (S.live).Perm (x :: Bd.live { S with wait := pre ++ post }) := by
    unfold Bd.live
    rw [hw]
    simp only
    have h1 : (pre ++ x :: post).Perm (x :: (pre ++ post)) := List.perm_middle
    exact (((h1.append_left S.sell.all).trans List.perm_middle).append_left S.buy.all).trans List.perm_middle
  refine ⟨⟨hS.nums, hS.last, hS.buy, hS.sell, fun e he => hS.wait e ?_, ?_, ?_⟩, hp⟩
  · rw [hw]
    rcases List.mem_append.1 he with h | h
    · exact List.mem_append_left _ h
    · exact List.mem_append_right _ (List.mem_cons_of_mem _ h)
  · have := hS.rise
    rw [hw, List.pairwise_append] at this
    obtain ⟨a, b, c⟩ := this
    exact List.pairwise_append.2 ⟨a, (List.pairwise_cons.1 b).2, fun u hu v hv => c u hu v (List.mem_cons_of_mem _ hv)⟩
  · have := (numsL_perm hp).nodup_iff.1 hS.once
    exact (List.nodup_cons.1 this).2
theorem stopsF_ok : ∀ (k : Nat) {S : Bd} {evs : List Ev}, BdOk S → (∀ e ∈ evs, EvOk S.nums e) →
    BdOk (stopsF k S evs).1 ∧ (stopsF k S evs).1.nums = S.nums ∧ (∀ e ∈ (stopsF k S evs).2, EvOk S.nums e) ∧ (∀ m, takes m (stopsF k S evs).2 + sumL m (stopsF k S evs).1.live = takes m evs + sumL m S.live) ∧ SubN (numsL (stopsF k S evs).1.live) (numsL S.live) ∧
    (stopsF k S evs).2.length + sizeL (stopsF k S evs).1.live ≤ evs.length + sizeL S.live + 2 * k
  | 0, S, evs, hS, he => ⟨hS, rfl, he, fun _ => rfl, SubN.refl _, Nat.le_refl _⟩
  | k + 1, S, evs, hS, he => by
    unfold stopsF
    cases hf : S.wait.find? (dueB S.last) with
    | none => exact ⟨hS, rfl, he, fun _ => rfl, SubN.refl _, by simp only; omega⟩
    | some x =>
      obtain ⟨pre, post, hw, _, herase, _⟩ := find_split hf
      simp only
      rw [herase]
      obtain ⟨hS1, hperm⟩ := wait_off hS hw
      have hx : WOk S.nums x := hS.wait x (by rw [hw]; simp)
      have hq := okQ hx.ok
      have hnp := numsL_perm hperm
      have hnew : x.n ∉ numsL (Bd.live { S with wait := pre ++ post }) := (List.nodup_cons.1 (hnp.nodup_iff.1 hS.once)).1
      have hev : ∀ e ∈ evs ++ [⟨7, x.n, 0, 0, x.l⟩], EvOk S.nums e := fun e hm => by
        rcases List.mem_append.1 hm with hm | hm
        · exact he e hm
        · simp only [List.mem_cons, List.not_mem_nil, or_false] at hm
          subst hm
          have := hx.n; have := hx.l
          exact ⟨hx.n, ⟨by simp only; omega, by simp only; omega⟩, by simp only; omega, by simp only; omega, fun h => by simp at h⟩
      have C := comeF_ok (S := { S with wait := pre ++ post }) hS1 (n := x.n) (left := x.l) (o := x.o) hx.ok hx.n hnew (by have := hx.l; omega) (evs := evs ++ [⟨7, x.n, 0, 0, x.l⟩]) hev
      obtain ⟨R, hR⟩ : ∃ R, R = comeF { S with wait := pre ++ post } x.n x.o x.l (evs ++ [⟨7, x.n, 0, 0, x.l⟩]) := ⟨_, rfl⟩
      rw [← hR] at C ⊢
      obtain ⟨k1, k2, k3, k4, k5, k6⟩ := stopsF_ok k C.ok (evs := R.2) (by rw [C.nums]; exact C.evok)
      have hn : R.1.nums = S.nums := C.nums
      rw [hn] at k2 k3
      refine ⟨k1, k2, k3, fun m => ?_, k5.trans (C.sub.trans (SubN.of_perm hnp.symm)), ?_⟩
      · have a := k4 m
        have b := C.tot m
        have c := sumL_perm (n := m) hperm
        simp only [sumL] at c
        rw [takes_append, takes_one] at b
        simp only [takesE] at b
        simp at b
        split at c <;> simp_all <;> omega
      · have b := C.size
        have c := sizeL_perm hperm
        rw [sizeL_cons] at c
        simp only [List.length_append, List.length_cons, List.length_nil] at b
        omega
/-- What Enter comes to. -/
theorem enterF_ok {S : Bd} (hS : BdOk S) (hn : S.nums < 1000000) {o : Od} (ho : o.ok = true) :
    BdOk (enterF S o).1 ∧ (enterF S o).1.nums = S.nums + 1 ∧ (∀ e ∈ (enterF S o).2, EvOk (S.nums + 1) e) ∧ (∀ m, takes m (enterF S o).2 + sumL m (enterF S o).1.live = sumL m S.live + (if m = S.nums + 1 then o.q else 0)) ∧
    (enterF S o).2.length ≤ 3 * sizeL S.live + 2000000010 := by
  have hN := hS.nums
  have hq := okQ ho
  have hnew : S.nums + 1 ∉ numsL S.live := fun h => by
    obtain ⟨e, he, hen⟩ := List.mem_map.1 h
    have : 1 ≤ e.n ∧ e.n ≤ S.nums := by
      unfold Bd.live at he
      rcases List.mem_append.1 he with he | he
      · exact (hS.buy.mem e he).n
      · rcases List.mem_append.1 he with he | he
        · exact (hS.sell.mem e he).n
        · exact (hS.wait e he).n
    omega
  have hS1 : BdOk { S with nums := S.nums + 1 } := ⟨by simp only; omega, hS.last, hS.buy.mono (by simp only; omega), hS.sell.mono (by simp only; omega), fun e he => (hS.wait e he).mono (by simp only; omega), hS.rise, hS.once⟩
  unfold enterF
  by_cases ht : o.t = 0
  · rw [if_pos ht]
    have C := comeF_ok (S := { S with nums := S.nums + 1 }) hS1 (n := S.nums + 1) (left := o.q) (o := o) ho ⟨by omega, by simp only; omega⟩ hnew (by omega) (evs := []) (by simp)
    obtain ⟨R, hR⟩ : ∃ R, R = comeF { S with nums := S.nums + 1 } (S.nums + 1) o o.q [] := ⟨_, rfl⟩
    rw [← hR] at C ⊢
    simp only
    obtain ⟨k1, k2, k3, k4, _, k6⟩ := stopsF_ok R.1.wait.length C.ok (evs := R.2) (by rw [C.nums]; exact C.evok)
    have hn2 : R.1.nums = S.nums + 1 := C.nums
    rw [hn2] at k2 k3
    refine ⟨k1, k2, k3, fun m => ?_, ?_⟩
    · have a := k4 m
      have b := C.tot m
      have e : sumL m (Bd.live { S with nums := S.nums + 1 }) = sumL m S.live := rfl
      rw [e] at b
      simp only [takes] at b
      by_cases hm : m = S.nums + 1
      · subst hm; simp at b ⊢; omega
      · rw [if_neg hm]; rw [if_neg (fun h => hm h.symm)] at b; omega
    · have b := C.size
      have e : sizeL (Bd.live { S with nums := S.nums + 1 }) = sizeL S.live := rfl
      rw [e] at b
      have wl : R.1.wait.length ≤ sizeL S.live := by
        have h1 : R.1.wait = S.wait := C.wait
        rw [h1]
        have ap : ∀ l m : List En, sizeL (l ++ m) = sizeL l + sizeL m := fun l m => by unfold sizeL; simp
        have le : ∀ l : List En, l.length ≤ sizeL l := fun l => by
          induction l with
          | nil => exact Nat.zero_le _
          | cons a l ih => rw [sizeL_cons, List.length_cons]; omega
        unfold Bd.live
        rw [ap, ap]
        have := le S.wait
        omega
      simp only [List.length_nil] at b
      omega
  · rw [if_neg ht]
    simp only
    have hW : WOk (S.nums + 1) ⟨S.nums + 1, o, o.q, 0⟩ := ⟨by simp only; omega, ho, rfl, rfl, ht⟩
    have hp : (Bd.live { S with nums := S.nums + 1, wait := S.wait ++ [⟨S.nums + 1, o, o.q, 0⟩] }).Perm (⟨S.nums + 1, o, o.q, 0⟩ :: S.live) := by
      unfold Bd.live
      simp only
      have h1 : (S.wait ++ [(⟨S.nums + 1, o, o.q, 0⟩ : En)]).Perm (⟨S.nums + 1, o, o.q, 0⟩ :: S.wait) := List.perm_append_comm
      exact (((h1.append_left S.sell.all).trans List.perm_middle).append_left S.buy.all).trans List.perm_middle
    have hnp := numsL_perm hp
    have hS2 : BdOk { S with nums := S.nums + 1, wait := S.wait ++ [⟨S.nums + 1, o, o.q, 0⟩] } := by
      refine ⟨hS1.nums, hS1.last, hS1.buy, hS1.sell, fun e he => ?_, ?_, hnp.nodup_iff.2 (List.nodup_cons.2 ⟨hnew, hS.once⟩)⟩
      · rcases List.mem_append.1 he with he | he
        · exact hS1.wait e he
        · simp only [List.mem_cons, List.not_mem_nil, or_false] at he
          subst he; exact hW
      · refine List.pairwise_append.2 ⟨hS.rise, by simp, fun u hu v hv => ?_⟩
        simp only [List.mem_cons, List.not_mem_nil, or_false] at hv
        subst hv
        have := (hS.wait u hu).n
        simp only; omega
    obtain ⟨kk, hkk⟩ : ∃ kk, kk = (S.wait ++ [(⟨S.nums + 1, o, o.q, 0⟩ : En)]).length := ⟨_, rfl⟩
    rw [← hkk]
    obtain ⟨k1, k2, k3, k4, _, k6⟩ := stopsF_ok kk hS2 (evs := [⟨8, S.nums + 1, 0, 0, o.q⟩]) (fun e he => by
      simp only [List.mem_cons, List.not_mem_nil, or_false] at he
      subst he
      exact ⟨⟨by simp only; omega, by simp only; omega⟩, ⟨by simp only; omega, by simp only; omega⟩, by simp only; omega, by simp only; omega, fun h => by simp at h⟩)
    refine ⟨k1, k2, k3, fun m => ?_, ?_⟩
    · have a := k4 m
      have b := sumL_perm (n := m) hp
      simp only [sumL] at b
      rw [takes_one] at a
      simp only [takesE] at a
      simp at a
      rw [a, b]
      by_cases hm : m = S.nums + 1
      · subst hm; simp; omega
      · rw [if_neg hm, if_neg (fun h => hm h.symm)]; omega
    · have c := sizeL_perm hp
      rw [sizeL_cons] at c
      have wl : S.wait.length ≤ sizeL S.live := by
        have ap : ∀ l m : List En, sizeL (l ++ m) = sizeL l + sizeL m := fun l m => by unfold sizeL; simp
        have le : ∀ l : List En, l.length ≤ sizeL l := fun l => by
          induction l with
          | nil => exact Nat.zero_le _
          | cons a l ih => rw [sizeL_cons, List.length_cons]; omega
        unfold Bd.live
        rw [ap, ap]
        have := le S.wait
        omega
      simp only [List.length_append, List.length_cons, List.length_nil] at hkk k6
      simp only at c k6
      omega
theorem filter_off {l : List En} {e : En} (hn : (numsL l).Nodup) (he : e ∈ l) : l.Perm (e :: l.filter fun y => decide (y.n ≠ e.n)) := by
  induction l with
  | nil => simp at he
  | cons a l ih =>
    have hn2 := List.nodup_cons.1 (show (a.n :: numsL l).Nodup from hn)
    rcases List.mem_cons.1 he with rfl | he
    · have : (e :: l).filter (fun y => decide (y.n ≠ e.n)) = l := by
        rw [List.filter_cons, if_neg (by simp), List.filter_eq_self.2]
        intro y hy
        have : y.n ≠ e.n := fun h => hn2.1 (by rw [← h]; exact List.mem_map.2 ⟨y, hy, rfl⟩)
        simp [this]
      rw [this]
    · have hne : a.n ≠ e.n := fun h => hn2.1 (by rw [h]; exact List.mem_map.2 ⟨e, he, rfl⟩)
      rw [List.filter_cons, if_pos (by simp [hne])]
      exact ((ih hn2.2 he).cons a).trans (List.Perm.swap _ _ _)
theorem takeH_ok {side nums : Int} {e : En} : ∀ {h : Half}, HOk side nums h → (numsL h.all).Nodup → e ∈ h.all → HOk side nums (takeH e h) ∧ h.all.Perm (e :: (takeH e h).all) ∧ ∀ x ∈ takeH e h, ∃ y ∈ h, y.1 = x.1
  | [], _, _, he => by simp [all_nil] at he
  | (p, q) :: r, hh, hn, he => by
    rw [all_cons, numsL_append] at hn
    obtain ⟨n1, n2, n3⟩ := List.nodup_append.1 hn
    rw [all_cons] at he
    unfold takeH
    by_cases hp : p = e.o.p
    · rw [if_pos hp]
      have hq : e ∈ q := by
        rcases List.mem_append.1 he with h | h
        · exact h
        · exfalso
          obtain ⟨x, hx, hex⟩ := List.mem_flatMap.1 h
          have h1 := hh.head.2.2 x hx
          have h2 := hh.tail.price x hx e hex
          rw [← h2, hp] at h1
          unfold better at h1
          by_cases hs : side = 1 <;> simp [hs] at h1
      have hperm := filter_off n1 hq
      have hperm2 : (Half.all ((p, q) :: r)).Perm (e :: ((q.filter fun y => decide (y.n ≠ e.n)) ++ Half.all r)) := by
        rw [all_cons]
        exact hperm.append_right _
      by_cases hem : (q.filter fun y => decide (y.n ≠ e.n)).isEmpty = true
      · rw [if_pos hem]
        rw [List.isEmpty_iff.1 hem] at hperm2
        exact ⟨hh.tail, by simpa using hperm2, fun x hx => ⟨x, List.mem_cons_of_mem _ hx, rfl⟩⟩
      · rw [if_neg hem]
        refine ⟨hh.tail.cons (fun h => hem (by rw [h]; rfl)) (fun y hy => hh.head.2.1 y (List.mem_filter.1 hy).1) hh.head.2.2, ?_, fun x hx => ?_⟩
        · rw [all_cons]; exact hperm2
        · rcases List.mem_cons.1 hx with rfl | hx
          · exact ⟨(p, q), by simp, rfl⟩
          · exact ⟨x, List.mem_cons_of_mem _ hx, rfl⟩
    · rw [if_neg hp]
      have hr : e ∈ Half.all r := by
        rcases List.mem_append.1 he with h | h
        · exact absurd (hh.head.2.1 e h).2.symm hp
        · exact h
      obtain ⟨g1, g2, g3⟩ := takeH_ok hh.tail n2 hr
      refine ⟨g1.cons hh.head.1 hh.head.2.1 (fun x hx => ?_), ?_, fun x hx => ?_⟩
      · obtain ⟨y, h1, h2⟩ := g3 x hx
        rw [← h2]; exact hh.head.2.2 y h1
      · rw [all_cons, all_cons]
        exact (g2.append_left q).trans List.perm_middle
      · rcases List.mem_cons.1 hx with rfl | hx
        · exact ⟨(p, q), by simp, rfl⟩
        · obtain ⟨y, h1, h2⟩ := g3 x hx
          exact ⟨y, List.mem_cons_of_mem _ h1, h2⟩
end Go.Proofs.Ytdjhpldiifdifaa
