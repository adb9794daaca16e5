/- list.push, list.remove. -/
import Derived.Test.YtdjhpldiifdifaaJMem
namespace Go.Proofs.Ytdjhpldiifdifaa
set_option linter.unusedSimpArgs false
set_option linter.unusedVariables false
open Go.RowKit

/-- What push comes to. -/
def Pushed (w : World) (L : Nat) (p : Int) (es : List (Nat × Nat)) (i : Nat) (e : Ending) (w' : World) : Prop :=
  ∃ E, e = .returned (pt E) ∧ w.heap.size ≤ E ∧ Lst w' L p (es ++ [(E, i)]) ∧ Kept (Lst.foot L es) w w'

theorem el_new (b : Nat) (w : World) (h : w.heap.size = b) (o : Obj) : (w.alloc o).heap[b]? = some o := by subst h; exact heap_alloc_new w o

set_option maxRecDepth 100000 in
set_option maxHeartbeats 2000000 in
theorem push_calls (w : World) (L : Nat) (p : Int) (es : List (Nat × Nat)) (i : Nat) (h : Lst w L p es) (hlen : es.length ≤ 1000000000) :
    Calls Try.prog 89 #[.pointer (some ⟨L, 1, none⟩), pt i] w (Pushed w L p es i) := by
  rcases snoc_cases es with rfl | ⟨M, q, rfl⟩
  · have hc := h.c
    have hL := hc.lt
    have c1 : w.cell? ⟨L, 1, none⟩ = some (.pointer none) := by rw [hc.cell]; rfl
    have c2 : w.cell? ⟨L, 2, none⟩ = some (.pointer none) := by rw [hc.cell]; rfl
    have c3 : w.cell? ⟨L, 3, none⟩ = some (.int .i64 0) := by rw [hc.cell]; rfl
    have f1 : w.frozen? ⟨L, 1, none⟩ = false := hc.frozen 1
    have f2 : w.frozen? ⟨L, 2, none⟩ = false := hc.frozen 2
    have f3 : w.frozen? ⟨L, 3, none⟩ = false := hc.frozen 3
    have H := hid h
    have HC := hid hc
    clear h hc
    go_enter Try.func89, Try.ntmps89
    go_wp2
    go_ret
    have h1 := (((HC.out.set 1 (pt w.heap.size)).set 2 (pt w.heap.size)).set 3 (.int .i64 1)).alloc (.cells #[.pointer none, .pointer none, pt i] 115)
    have h2 := Cells.new (((w.setCell ⟨L, 1, none⟩ (pt w.heap.size)).setCell ⟨L, 2, none⟩ (pt w.heap.size)).setCell ⟨L, 3, none⟩ (.int .i64 1)) #[.pointer none, .pointer none, pt i] 115
    rw [size_setCell, size_setCell, size_setCell] at h2
    have hk : Kept (Lst.foot L []) w ((((w.setCell ⟨L, 1, none⟩ (pt w.heap.size)).setCell ⟨L, 2, none⟩ (pt w.heap.size)).setCell ⟨L, 3, none⟩ (.int .i64 1)).alloc (.cells #[.pointer none, .pointer none, pt i] 115)) :=
      ((((Kept.refl _ w).set (C := L) (.inl rfl) 1 _).set (C := L) (.inl rfl) 2 _).set (C := L) (.inl rfl) 3 _).alloc _
    exact ⟨_, rfl, Nat.le_refl _, Lst.push0 h1 h2, hk⟩
  · have hc := h.c
    have hL := hc.lt
    obtain ⟨d1, d2⟩ := DL.split.1 h.l
    have hq : Cells w q.1 #[op (lastO M none), .pointer none, pt q.2] 115 := d2.1
    have hqL : q.1 ≠ L := hq.ne hc (by decide)
    have c1 : w.cell? ⟨L, 1, none⟩ = some (op (headO (M ++ [q]) none)) := by rw [hc.cell]; rfl
    have c2 : w.cell? ⟨L, 2, none⟩ = some (.pointer (some ⟨q.1, 0, none⟩)) := by rw [hc.cell, lastO_snoc]; rfl
    have c3 : w.cell? ⟨L, 3, none⟩ = some (.int .i64 (M ++ [q]).length) := by rw [hc.cell]; rfl
    have q1 : w.cell? ⟨q.1, 1, none⟩ = some (.pointer none) := by rw [hq.cell]; rfl
    obtain ⟨u1, c1⟩ : ∃ u, w.cell? ⟨L, 1, none⟩ = some u := ⟨_, c1⟩
    have hql := hq.lt
    have f1 : w.frozen? ⟨L, 2, none⟩ = false := hc.frozen 2
    have f2 : w.frozen? ⟨L, 3, none⟩ = false := hc.frozen 3
    have f3 : w.frozen? ⟨q.1, 1, none⟩ = false := hq.frozen 1
    have H := hid h
    have HC := hid hc
    have HQ := hid hq
    clear h hc hq d1 d2
    have hn : (M ++ [q]).length = M.length + 1 := by simp
    generalize hz : (M ++ [q]).length = z at *
    obtain ⟨Q, it⟩ := q
    simp only at c2 q1 hqL hql f3
    go_enter Try.func89, Try.ntmps89
    go_wp2
    go_ret
    have hz' : (M.length : Int) + 1 + 1 = ((M ++ [(Q, it)]).length : Int) + 1 := by rw [hz]; omega
    rw [hz']
    have h1 := (((HC.out.set_far 1 (pt w.heap.size) (C := Q) (Ne.symm hqL)).set 2 (pt w.heap.size)).set 3 (.int .i64 (((M ++ [(Q, it)]).length : Int) + 1))).alloc (.cells #[pt Q, .pointer none, pt i] 115)
    have h3 := (((HQ.out.set 1 (pt w.heap.size)).set_far 2 (pt w.heap.size) (C := L) hqL).set_far 3 (.int .i64 (((M ++ [(Q, it)]).length : Int) + 1)) (C := L) hqL).alloc (.cells #[pt Q, .pointer none, pt i] 115)
    have h2 := Cells.new (((w.setCell ⟨Q, 1, none⟩ (pt w.heap.size)).setCell ⟨L, 2, none⟩ (pt w.heap.size)).setCell ⟨L, 3, none⟩ (.int .i64 (((M ++ [(Q, it)]).length : Int) + 1))) #[pt Q, .pointer none, pt i] 115
    rw [size_setCell, size_setCell, size_setCell] at h2
    have hk : Kept (fun k => k = L ∨ k = Q) w ((((w.setCell ⟨Q, 1, none⟩ (pt w.heap.size)).setCell ⟨L, 2, none⟩ (pt w.heap.size)).setCell ⟨L, 3, none⟩ (.int .i64 (((M ++ [(Q, it)]).length : Int) + 1))).alloc (.cells #[pt Q, .pointer none, pt i] 115)) :=
      ((((Kept.refl _ w).set (C := Q) (.inr rfl) 1 _).set (C := L) (.inl rfl) 2 _).set (C := L) (.inl rfl) 3 _).alloc _
    refine ⟨_, rfl, Nat.le_refl _, Lst.push1 H.out (Nat.le_refl _) hk h1 h2 h3, hk.mono fun k hk => ?_⟩
    rcases hk with rfl | rfl
    · exact .inl rfl
    · exact .inr (by simp)

/-- What remove comes to. -/
def Removed (w : World) (L : Nat) (p : Int) (es : List (Nat × Nat)) (es' : List (Nat × Nat)) (e : Ending) (w' : World) : Prop :=
  e = .returned (.tuple #[]) ∧ Lst w' L p es' ∧ Kept (Lst.foot L es) w w'
theorem Removed.mk {w w' : World} {L : Nat} {p : Int} {pre post : List (Nat × Nat)} {x : Nat × Nat} (h : Lst w L p (pre ++ x :: post)) (hk : Kept (fun k => k = L ∨ k = x.1 ∨ some k = lastO pre none ∨ some k = headO post none) w w')
    (h1 : Cells w' L #[.int .i64 p, op (headO (pre ++ post) none), op (lastO (pre ++ post) none), .int .i64 ((pre ++ post).length)] 113)
    (h2 : ∀ M q, pre = M ++ [q] → Cells w' q.1 #[op (lastO M none), op (headO post none), pt q.2] 115)
    (h3 : ∀ q M, post = q :: M → Cells w' q.1 #[op (lastO pre none), op (headO M none), pt q.2] 115) : Removed w L p (pre ++ x :: post) (pre ++ post) (.returned (.tuple #[])) w' := by
  refine ⟨rfl, h.cut hk h1 h2 h3, hk.mono fun k hk => ?_⟩
  rcases hk with rfl | rfl | hk | hk
  · exact .inl rfl
  · exact .inr (by simp)
  · rcases snoc_cases pre with rfl | ⟨M, q, rfl⟩
    · cases hk
    · rw [lastO_snoc] at hk
      injection hk with hk
      exact .inr (by simp [hk])
  · cases post with
    | nil => cases hk
    | cons q M =>
      injection hk with hk
      exact .inr (by simp [hk])

set_option maxRecDepth 100000 in
set_option maxHeartbeats 4000000 in
theorem remove_calls (w : World) (L : Nat) (p : Int) (pre post : List (Nat × Nat)) (x : Nat × Nat) (h : Lst w L p (pre ++ x :: post)) (hlen : (pre ++ x :: post).length ≤ 1000000000) :
    Calls Try.prog 90 #[.pointer (some ⟨L, 1, none⟩), pt x.1] w (Removed w L p (pre ++ x :: post) (pre ++ post)) := by
  obtain ⟨X, it⟩ := x
  have hc := h.c
  have hL := hc.lt
  obtain ⟨d1, d2⟩ := DL.split.1 h.l
  have hx : Cells w X #[op (lastO pre none), op (headO post none), pt it] 115 := d2.1
  have hxL : X ≠ L := hx.ne hc (by decide)
  have hXl := hx.lt
  have hn := h.n
  rw [List.map_append, List.map_cons] at hn
  obtain ⟨n1, n2, n3⟩ := List.nodup_append.1 hn
  obtain ⟨n4, n5⟩ := List.nodup_cons.1 n2
  have l1 : w.cell? ⟨L, 1, none⟩ = some (op (headO (pre ++ (X, it) :: post) none)) := by rw [hc.cell]; rfl
  have l2 : w.cell? ⟨L, 2, none⟩ = some (op (lastO (pre ++ (X, it) :: post) none)) := by rw [hc.cell]; rfl
  have l3 : w.cell? ⟨L, 3, none⟩ = some (.int .i64 (pre ++ (X, it) :: post).length) := by rw [hc.cell]; rfl
  obtain ⟨u1, l1⟩ : ∃ u, w.cell? ⟨L, 1, none⟩ = some u := ⟨_, l1⟩
  obtain ⟨u2, l2⟩ : ∃ u, w.cell? ⟨L, 2, none⟩ = some u := ⟨_, l2⟩
  have f1 : w.frozen? ⟨L, 1, none⟩ = false := hc.frozen 1
  have f2 : w.frozen? ⟨L, 2, none⟩ = false := hc.frozen 2
  have f3 : w.frozen? ⟨L, 3, none⟩ = false := hc.frozen 3
  have f4 : w.frozen? ⟨X, 0, none⟩ = false := hx.frozen 0
  have f5 : w.frozen? ⟨X, 1, none⟩ = false := hx.frozen 1
  have x0 : w.cell? ⟨X, 0, none⟩ = some (op (lastO pre none)) := by rw [hx.cell]; rfl
  have x1 : w.cell? ⟨X, 1, none⟩ = some (op (headO post none)) := by rw [hx.cell]; rfl
  have hz : ((pre ++ (X, it) :: post).length : Int) = ((pre ++ post).length : Int) + 1 := by simp; omega
  rw [hz] at l3
  have hlen' : (pre ++ post).length ≤ 1000000000 := by simp only [List.length_append, List.length_cons] at hlen ⊢; omega
  have H := hid h
  have HC := hid hc
  have HX := hid hx
  have HN3 := hid n3
  have HN4 := hid n4
  clear hn n1 n2 n3 n4 n5 h hc hx hz hlen
  generalize hR : Removed w L p (pre ++ (X, it) :: post) (pre ++ post) = R
  have HR := hid hR
  clear hR
  generalize ha : (pre ++ post).length = a at *
  have HA := hid ha
  clear ha
  rcases snoc_cases pre with rfl | ⟨M, ⟨Q, qi⟩, rfl⟩ <;> rcases post with _ | ⟨⟨Z, zi⟩, post⟩
  · clear d1 d2
    simp only [headO, lastO, op] at x0 x1
    go_enter Try.func90, Try.ntmps90
    go_wp2
    go_end0
    have hR := HR.out
    subst hR
    have ha := HA.out
    refine Removed.mk (pre := []) (post := []) H.out ?_ ?_ (fun M q e => absurd e (by simp)) (fun q M e => absurd e (by simp))
    · exact ((((((Kept.refl _ w).set (C := L) (.inl rfl) 1 _).set (C := L) (.inl rfl) 2 _).set (C := X) (.inr (.inl rfl)) 0 _).set (C := X) (.inr (.inl rfl)) 1 _).set (C := L) (.inl rfl) 3 _)
    · rw [ha]
      have h1 := ((((HC.out.set 1 (.pointer none)).set 2 (.pointer none)).set_far 0 (.pointer none) (Ne.symm hxL)).set_far 1 (.pointer none) (Ne.symm hxL)).set 3 (.int .i64 a)
      exact h1
  · have hz : Cells w Z #[pt X, op (headO post none), pt zi] 115 := d2.2.1
    clear d1 d2
    have hzl := hz.lt
    have z0 : w.cell? ⟨Z, 0, none⟩ = some (pt X) := by rw [hz.cell]; rfl
    have fz : w.frozen? ⟨Z, 0, none⟩ = false := hz.frozen 0
    have hZL : Z ≠ L := hz.ne HC.out (by decide)
    have hZX : Z ≠ X := fun e => HN4.out (by simp [e])
    have HZ := hid hz
    clear hz
    simp only [headO, lastO, op] at x0 x1
    go_enter Try.func90, Try.ntmps90
    go_wp2
    go_region
    go_wp2
    go_end0
    have hR := HR.out
    subst hR
    have ha := HA.out
    refine Removed.mk (pre := []) (post := (Z, zi) :: post) H.out ?_ ?_ (fun M q e => absurd e (by simp)) (fun q M e => ?_)
    · exact ((((((Kept.refl _ w).set (C := L) (.inl rfl) 1 _).set (C := Z) (.inr (.inr (.inr rfl))) 0 _).set (C := X) (.inr (.inl rfl)) 0 _).set (C := X) (.inr (.inl rfl)) 1 _).set (C := L) (.inl rfl) 3 _).drew
    · rw [ha]
      have h1 := (((((HC.out.set 1 (pt Z)).set_far 0 (.pointer none) (Ne.symm hZL)).set_far 0 (.pointer none) (Ne.symm hxL)).set_far 1 (.pointer none) (Ne.symm hxL)).set 3 (.int .i64 a)).drew
      exact h1
    · obtain ⟨e1, e2⟩ := List.cons.inj e
      subst e1
      subst e2
      have h1 := (((((HZ.out.set_far 1 (pt Z) hZL).set 0 (.pointer none)).set_far 0 (.pointer none) hZX).set_far 1 (.pointer none) hZX).set_far 3 (.int .i64 a) hZL).drew
      exact h1
  · obtain ⟨e1, e2⟩ := DL.split.1 d1
    have hq : Cells w Q #[op (lastO M none), pt X, pt qi] 115 := e2.1
    clear d1 d2 e1 e2
    have hql := hq.lt
    have q1 : w.cell? ⟨Q, 1, none⟩ = some (pt X) := by rw [hq.cell]; rfl
    have fq : w.frozen? ⟨Q, 1, none⟩ = false := hq.frozen 1
    have hQL : Q ≠ L := hq.ne HC.out (by decide)
    have hQX : Q ≠ X := HN3.out Q (by simp) X (by simp)
    have HQ := hid hq
    clear hq
    simp only [headO, lastO_snoc, op] at x0 x1
    go_enter Try.func90, Try.ntmps90
    go_wp2
    go_region
    go_wp2
    go_end0
    have hR := HR.out
    subst hR
    have ha := HA.out
    refine Removed.mk (pre := M ++ [(Q, qi)]) (post := []) H.out ?_ ?_ (fun M' q e => ?_) (fun q M e => absurd e (by simp))
    · exact ((((((Kept.refl _ w).set (C := Q) (.inr (.inr (.inl (by rw [lastO_snoc])))) 1 _).set (C := L) (.inl rfl) 2 _).set (C := X) (.inr (.inl rfl)) 0 _).set (C := X) (.inr (.inl rfl)) 1 _).set (C := L) (.inl rfl) 3 _).drew
    · rw [ha, List.append_nil, lastO_snoc]
      have e : headO ((M ++ [(Q, qi)]) ++ [(X, it)]) none = headO (M ++ [(Q, qi)]) none := by cases M <;> rfl
      rw [← e]
      have h1 := (((((HC.out.set_far 1 (.pointer none) (Ne.symm hQL)).set 2 (pt Q)).set_far 0 (.pointer none) (Ne.symm hxL)).set_far 1 (.pointer none) (Ne.symm hxL)).set 3 (.int .i64 a)).drew
      exact h1
    · obtain ⟨e1, e2⟩ := List.append_inj' e rfl
      have e2 := (List.cons.inj e2).1
      subst e1
      subst e2
      have h1 := (((((HQ.out.set 1 (.pointer none)).set_far 2 (pt Q) hQL).set_far 0 (.pointer none) hQX).set_far 1 (.pointer none) hQX).set_far 3 (.int .i64 a) hQL).drew
      exact h1
  · obtain ⟨e1, e2⟩ := DL.split.1 d1
    have hq : Cells w Q #[op (lastO M none), pt X, pt qi] 115 := e2.1
    have hz : Cells w Z #[pt X, op (headO post none), pt zi] 115 := d2.2.1
    clear d1 d2 e1 e2
    have hql := hq.lt
    have hzl := hz.lt
    have q1 : w.cell? ⟨Q, 1, none⟩ = some (pt X) := by rw [hq.cell]; rfl
    have fq : w.frozen? ⟨Q, 1, none⟩ = false := hq.frozen 1
    have hQL : Q ≠ L := hq.ne HC.out (by decide)
    have hQX : Q ≠ X := HN3.out Q (by simp) X (by simp)
    have z0 : w.cell? ⟨Z, 0, none⟩ = some (pt X) := by rw [hz.cell]; rfl
    have fz : w.frozen? ⟨Z, 0, none⟩ = false := hz.frozen 0
    have hZL : Z ≠ L := hz.ne HC.out (by decide)
    have hZX : Z ≠ X := fun e => HN4.out (by simp [e])
    have hQZ : Q ≠ Z := HN3.out Q (by simp) Z (by simp)
    have HQ := hid hq
    have HZ := hid hz
    clear hq hz
    simp only [headO, lastO_snoc, op] at x0 x1
    go_enter Try.func90, Try.ntmps90
    go_wp2
    go_region
    go_wp2
    go_region
    go_wp2
    go_end0
    have hR := HR.out
    subst hR
    have ha := HA.out
    refine Removed.mk (pre := M ++ [(Q, qi)]) (post := (Z, zi) :: post) H.out ?_ ?_ (fun M' q e => ?_) (fun q M' e => ?_)
    · exact (((((((Kept.refl _ w).set (C := Q) (.inr (.inr (.inl (by rw [lastO_snoc])))) 1 _).set (C := Z) (.inr (.inr (.inr rfl))) 0 _).set (C := X) (.inr (.inl rfl)) 0 _).set (C := X) (.inr (.inl rfl)) 1 _).set (C := L) (.inl rfl) 3 _).drew).drew
    · rw [ha]
      have e : headO ((M ++ [(Q, qi)]) ++ (Z, zi) :: post) none = headO ((M ++ [(Q, qi)]) ++ (X, it) :: (Z, zi) :: post) none := by cases M <;> rfl
      have e2 : lastO ((M ++ [(Q, qi)]) ++ (Z, zi) :: post) none = lastO ((M ++ [(Q, qi)]) ++ (X, it) :: (Z, zi) :: post) none := by rw [lastO_app (M ++ [(Q, qi)]), lastO_app (M ++ [(Q, qi)])]; rfl
      rw [e, e2]
      have h1 := ((((((HC.out.set_far 1 (pt Z) (Ne.symm hQL)).set_far 0 (pt Q) (Ne.symm hZL)).set_far 0 (.pointer none) (Ne.symm hxL)).set_far 1 (.pointer none) (Ne.symm hxL)).set 3 (.int .i64 a)).drew).drew
      exact h1
    · obtain ⟨e1, e2⟩ := List.append_inj' e rfl
      have e2 := (List.cons.inj e2).1
      subst e1
      subst e2
      have h1 := ((((((HQ.out.set 1 (pt Z)).set_far 0 (pt Q) hQZ).set_far 0 (.pointer none) hQX).set_far 1 (.pointer none) hQX).set_far 3 (.int .i64 a) hQL).drew).drew
      exact h1
    · obtain ⟨e1, e2⟩ := List.cons.inj e
      subst e1
      subst e2
      rw [lastO_snoc]
      have h1 := ((((((HZ.out.set_far 1 (pt Z) (Ne.symm hQZ)).set 0 (pt Q)).set_far 0 (.pointer none) hZX).set_far 1 (.pointer none) hZX).set_far 3 (.int .i64 a) hZL).drew).drew
      exact h1
end Go.Proofs.Ytdjhpldiifdifaa
