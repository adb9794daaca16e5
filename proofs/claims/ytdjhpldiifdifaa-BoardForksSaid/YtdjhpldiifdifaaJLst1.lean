/- list.push, list.remove. A side of the board in memory. No function of the program in sight. -/
import Derived.Test.YtdjhpldiifdifaaJMem
import Derived.Test.YtdjhpldiifdifaaJBd0
namespace Go.Proofs.Ytdjhpldiifdifaa
set_option linter.unusedSimpArgs false
set_option linter.unusedVariables false
open Go.RowKit

/-- What push comes to. -/
def Pushed (w : World) (L : Nat) (p : Int) (es : List (Nat × Nat)) (i : Nat) (e : Ending) (w' : World) : Prop :=
  ∃ E, e = .returned (pt E) ∧ w.heap.size ≤ E ∧ Lst w' L p (es ++ [(E, i)]) ∧ Kept (Lst.foot L es) w w'

theorem el_new (b : Nat) (w : World) (h : w.heap.size = b) (o : Obj) : (w.alloc o).heap[b]? = some o := by subst h; exact heap_alloc_new w o

set_option maxRecDepth 100000 in
set_option maxHeartbeats 2000000 in
theorem push_calls (w : World) (L : Nat) (p : Int) (es : List (Nat × Nat)) (i : Nat) (h : Lst w L p es) (hlen : es.length ≤ 1000000000) :
    Calls Try.prog 89 #[.pointer (some ⟨L, 1, none⟩), pt i] w (Pushed w L p es i) := by
  rcases snoc_cases es with rfl | ⟨M, q, rfl⟩
  · have hc := h.c
    have hL := hc.lt
    have c1 : w.cell? ⟨L, 1, none⟩ = some (.pointer none) := by rw [hc.cell]; rfl
    have c2 : w.cell? ⟨L, 2, none⟩ = some (.pointer none) := by rw [hc.cell]; rfl
    have c3 : w.cell? ⟨L, 3, none⟩ = some (.int .i64 0) := by rw [hc.cell]; rfl
    have f1 : w.frozen? ⟨L, 1, none⟩ = false := hc.frozen 1
    have f2 : w.frozen? ⟨L, 2, none⟩ = false := hc.frozen 2
    have f3 : w.frozen? ⟨L, 3, none⟩ = false := hc.frozen 3
    have H := hid h
    have HC := hid hc
    clear h hc
    go_enter Try.func89, Try.ntmps89
    go_wp2
    go_ret
    have h1 := (((HC.out.set 1 (pt w.heap.size)).set 2 (pt w.heap.size)).set 3 (.int .i64 1)).alloc (.cells #[.pointer none, .pointer none, pt i] 115)
    have h2 := Cells.new (((w.setCell ⟨L, 1, none⟩ (pt w.heap.size)).setCell ⟨L, 2, none⟩ (pt w.heap.size)).setCell ⟨L, 3, none⟩ (.int .i64 1)) #[.pointer none, .pointer none, pt i] 115
    rw [size_setCell, size_setCell, size_setCell] at h2
    have hk : Kept (Lst.foot L []) w ((((w.setCell ⟨L, 1, none⟩ (pt w.heap.size)).setCell ⟨L, 2, none⟩ (pt w.heap.size)).setCell ⟨L, 3, none⟩ (.int .i64 1)).alloc (.cells #[.pointer none, .pointer none, pt i] 115)) :=
      ((((Kept.refl _ w).set (C := L) (.inl rfl) 1 _).set (C := L) (.inl rfl) 2 _).set (C := L) (.inl rfl) 3 _).alloc _
    exact ⟨_, rfl, Nat.le_refl _, Lst.push0 h1 h2, hk⟩
  · have hc := h.c
    have hL := hc.lt
    obtain ⟨d1, d2⟩ := DL.split.1 h.l
    have hq : Cells w q.1 #[op (lastO M none), .pointer none, pt q.2] 115 := d2.1
    have hqL : q.1 ≠ L := hq.ne hc (by decide)
    have c1 : w.cell? ⟨L, 1, none⟩ = some (op (headO (M ++ [q]) none)) := by rw [hc.cell]; rfl
    have c2 : w.cell? ⟨L, 2, none⟩ = some (.pointer (some ⟨q.1, 0, none⟩)) := by rw [hc.cell, lastO_snoc]; rfl
    have c3 : w.cell? ⟨L, 3, none⟩ = some (.int .i64 (M ++ [q]).length) := by rw [hc.cell]; rfl
    have q1 : w.cell? ⟨q.1, 1, none⟩ = some (.pointer none) := by rw [hq.cell]; rfl
    obtain ⟨u1, c1⟩ : ∃ u, w.cell? ⟨L, 1, none⟩ = some u := ⟨_, c1⟩
    have hql := hq.lt
    have f1 : w.frozen? ⟨L, 2, none⟩ = false := hc.frozen 2
    have f2 : w.frozen? ⟨L, 3, none⟩ = false := hc.frozen 3
    have f3 : w.frozen? ⟨q.1, 1, none⟩ = false := hq.frozen 1
    have H := hid h
    have HC := hid hc
    have HQ := hid hq
    clear h hc hq d1 d2
    have hn : (M ++ [q]).length = M.length + 1 := by simp
    generalize hz : (M ++ [q]).length = z at *
    obtain ⟨Q, it⟩ := q
    simp only at c2 q1 hqL hql f3
    go_enter Try.func89, Try.ntmps89
    go_wp2
    go_ret
    have hz' : (M.length : Int) + 1 + 1 = ((M ++ [(Q, it)]).length : Int) + 1 := by rw [hz]; omega
    rw [hz']
    have h1 := (((HC.out.set_far 1 (pt w.heap.size) (C := Q) (Ne.symm hqL)).set 2 (pt w.heap.size)).set 3 (.int .i64 (((M ++ [(Q, it)]).length : Int) + 1))).alloc (.cells #[pt Q, .pointer none, pt i] 115)
    have h3 := (((HQ.out.set 1 (pt w.heap.size)).set_far 2 (pt w.heap.size) (C := L) hqL).set_far 3 (.int .i64 (((M ++ [(Q, it)]).length : Int) + 1)) (C := L) hqL).alloc (.cells #[pt Q, .pointer none, pt i] 115)
    have h2 := Cells.new (((w.setCell ⟨Q, 1, none⟩ (pt w.heap.size)).setCell ⟨L, 2, none⟩ (pt w.heap.size)).setCell ⟨L, 3, none⟩ (.int .i64 (((M ++ [(Q, it)]).length : Int) + 1))) #[pt Q, .pointer none, pt i] 115
    rw [size_setCell, size_setCell, size_setCell] at h2
    have hk : Kept (fun k => k = L ∨ k = Q) w ((((w.setCell ⟨Q, 1, none⟩ (pt w.heap.size)).setCell ⟨L, 2, none⟩ (pt w.heap.size)).setCell ⟨L, 3, none⟩ (.int .i64 (((M ++ [(Q, it)]).length : Int) + 1))).alloc (.cells #[pt Q, .pointer none, pt i] 115)) :=
      ((((Kept.refl _ w).set (C := Q) (.inr rfl) 1 _).set (C := L) (.inl rfl) 2 _).set (C := L) (.inl rfl) 3 _).alloc _
    refine ⟨_, rfl, Nat.le_refl _, Lst.push1 H.out (Nat.le_refl _) hk h1 h2 h3, hk.mono fun k hk => ?_⟩
    rcases hk with rfl | rfl
    · exact .inl rfl
    · exact .inr (by simp)

/-- What remove comes to. -/
def Removed (w : World) (L : Nat) (p : Int) (es : List (Nat × Nat)) (es' : List (Nat × Nat)) (e : Ending) (w' : World) : Prop :=
  e = .returned (.tuple #[]) ∧ Lst w' L p es' ∧ Kept (Lst.foot L es) w w'
theorem Removed.mk {w w' : World} {L : Nat} {p : Int} {pre post : List (Nat × Nat)} {x : Nat × Nat} (h : Lst w L p (pre ++ x :: post)) (hk : Kept (fun k => k = L ∨ k = x.1 ∨ some k = lastO pre none ∨ some k = headO post none) w w')
    (h1 : Cells w' L #[.int .i64 p, op (headO (pre ++ post) none), op (lastO (pre ++ post) none), .int .i64 ((pre ++ post).length)] 113)
    (h2 : ∀ M q, pre = M ++ [q] → Cells w' q.1 #[op (lastO M none), op (headO post none), pt q.2] 115)
    (h3 : ∀ q M, post = q :: M → Cells w' q.1 #[op (lastO pre none), op (headO M none), pt q.2] 115) : Removed w L p (pre ++ x :: post) (pre ++ post) (.returned (.tuple #[])) w' := by
  refine ⟨rfl, h.cut hk h1 h2 h3, hk.mono fun k hk => ?_⟩
  rcases hk with rfl | rfl | hk | hk
  · exact .inl rfl
  · exact .inr (by simp)
  · rcases snoc_cases pre with rfl | ⟨M, q, rfl⟩
    · cases hk
    · rw [lastO_snoc] at hk
      injection hk with hk
      exact .inr (by simp [hk])
  · cases post with
    | nil => cases hk
    | cons q M =>
      injection hk with hk
      exact .inr (by simp [hk])

set_option maxRecDepth 100000 in
set_option maxHeartbeats 4000000 in
theorem remove_calls (w : World) (L : Nat) (p : Int) (pre post : List (Nat × Nat)) (x : Nat × Nat) (h : Lst w L p (pre ++ x :: post)) (hlen : (pre ++ x :: post).length ≤ 1000000000) :
    Calls Try.prog 90 #[.pointer (some ⟨L, 1, none⟩), pt x.1] w (Removed w L p (pre ++ x :: post) (pre ++ post)) := by
  obtain ⟨X, it⟩ := x
  have hc := h.c
  have hL := hc.lt
  obtain ⟨d1, d2⟩ := DL.split.1 h.l
  have hx : Cells w X #[op (lastO pre none), op (headO post none), pt it] 115 := d2.1
  have hxL : X ≠ L := hx.ne hc (by decide)
  have hXl := hx.lt
  have hn := h.n
  rw [List.map_append, List.map_cons] at hn
  obtain ⟨n1, n2, n3⟩ := List.nodup_append.1 hn
  obtain ⟨n4, n5⟩ := List.nodup_cons.1 n2
  have l1 : w.cell? ⟨L, 1, none⟩ = some (op (headO (pre ++ (X, it) :: post) none)) := by rw [hc.cell]; rfl
  have l2 : w.cell? ⟨L, 2, none⟩ = some (op (lastO (pre ++ (X, it) :: post) none)) := by rw [hc.cell]; rfl
  have l3 : w.cell? ⟨L, 3, none⟩ = some (.int .i64 (pre ++ (X, it) :: post).length) := by rw [hc.cell]; rfl
  obtain ⟨u1, l1⟩ : ∃ u, w.cell? ⟨L, 1, none⟩ = some u := ⟨_, l1⟩
  obtain ⟨u2, l2⟩ : ∃ u, w.cell? ⟨L, 2, none⟩ = some u := ⟨_, l2⟩
  have f1 : w.frozen? ⟨L, 1, none⟩ = false := hc.frozen 1
  have f2 : w.frozen? ⟨L, 2, none⟩ = false := hc.frozen 2
  have f3 : w.frozen? ⟨L, 3, none⟩ = false := hc.frozen 3
  have f4 : w.frozen? ⟨X, 0, none⟩ = false := hx.frozen 0
  have f5 : w.frozen? ⟨X, 1, none⟩ = false := hx.frozen 1
  have x0 : w.cell? ⟨X, 0, none⟩ = some (op (lastO pre none)) := by rw [hx.cell]; rfl
  have x1 : w.cell? ⟨X, 1, none⟩ = some (op (headO post none)) := by rw [hx.cell]; rfl
  have hz : ((pre ++ (X, it) :: post).length : Int) = ((pre ++ post).length : Int) + 1 := by simp; omega
  rw [hz] at l3
  have hlen' : (pre ++ post).length ≤ 1000000000 := by simp only [List.length_append, List.length_cons] at hlen ⊢; omega
  have H := hid h
  have HC := hid hc
  have HX := hid hx
  have HN3 := hid n3
  have HN4 := hid n4
  clear hn n1 n2 n3 n4 n5 h hc hx hz hlen
  generalize hR : Removed w L p (pre ++ (X, it) :: post) (pre ++ post) = R
  have HR := hid hR
  clear hR
  generalize ha : (pre ++ post).length = a at *
  have HA := hid ha
  clear ha
  rcases snoc_cases pre with rfl | ⟨M, ⟨Q, qi⟩, rfl⟩ <;> rcases post with _ | ⟨⟨Z, zi⟩, post⟩
  · clear d1 d2
    simp only [headO, lastO, op] at x0 x1
    go_enter Try.func90, Try.ntmps90
    go_wp2
    go_end0
    have hR := HR.out
    subst hR
    have ha := HA.out
    refine Removed.mk (pre := []) (post := []) H.out ?_ ?_ (fun M q e => absurd e (by simp)) (fun q M e => absurd e (by simp))
    · exact ((((((Kept.refl _ w).set (C := L) (.inl rfl) 1 _).set (C := L) (.inl rfl) 2 _).set (C := X) (.inr (.inl rfl)) 0 _).set (C := X) (.inr (.inl rfl)) 1 _).set (C := L) (.inl rfl) 3 _)
    · rw [ha]
      have h1 := ((((HC.out.set 1 (.pointer none)).set 2 (.pointer none)).set_far 0 (.pointer none) (Ne.symm hxL)).set_far 1 (.pointer none) (Ne.symm hxL)).set 3 (.int .i64 a)
      exact h1
  · have hz : Cells w Z #[pt X, op (headO post none), pt zi] 115 := d2.2.1
    clear d1 d2
    have hzl := hz.lt
    have z0 : w.cell? ⟨Z, 0, none⟩ = some (pt X) := by rw [hz.cell]; rfl
    have fz : w.frozen? ⟨Z, 0, none⟩ = false := hz.frozen 0
    have hZL : Z ≠ L := hz.ne HC.out (by decide)
    have hZX : Z ≠ X := fun e => HN4.out (by simp [e])
    have HZ := hid hz
    clear hz
    simp only [headO, lastO, op] at x0 x1
    go_enter Try.func90, Try.ntmps90
    go_wp2
    go_region
    go_wp2
    go_end0
    have hR := HR.out
    subst hR
    have ha := HA.out
    refine Removed.mk (pre := []) (post := (Z, zi) :: post) H.out ?_ ?_ (fun M q e => absurd e (by simp)) (fun q M e => ?_)
    · exact ((((((Kept.refl _ w).set (C := L) (.inl rfl) 1 _).set (C := Z) (.inr (.inr (.inr rfl))) 0 _).set (C := X) (.inr (.inl rfl)) 0 _).set (C := X) (.inr (.inl rfl)) 1 _).set (C := L) (.inl rfl) 3 _).drew
    · rw [ha]
      have h1 := (((((HC.out.set 1 (pt Z)).set_far 0 (.pointer none) (Ne.symm hZL)).set_far 0 (.pointer none) (Ne.symm hxL)).set_far 1 (.pointer none) (Ne.symm hxL)).set 3 (.int .i64 a)).drew
      exact h1
    · obtain ⟨e1, e2⟩ := List.cons.inj e
      subst e1
      subst e2
      have h1 := (((((HZ.out.set_far 1 (pt Z) hZL).set 0 (.pointer none)).set_far 0 (.pointer none) hZX).set_far 1 (.pointer none) hZX).set_far 3 (.int .i64 a) hZL).drew
      exact h1
  · obtain ⟨e1, e2⟩ := DL.split.1 d1
    have hq : Cells w Q #[op (lastO M none), pt X, pt qi] 115 := e2.1
    clear d1 d2 e1 e2
    have hql := hq.lt
    have q1 : w.cell? ⟨Q, 1, none⟩ = some (pt X) := by rw [hq.cell]; rfl
    have fq : w.frozen? ⟨Q, 1, none⟩ = false := hq.frozen 1
    have hQL : Q ≠ L := hq.ne HC.out (by decide)
    have hQX : Q ≠ X := HN3.out Q (by simp) X (by simp)
    have HQ := hid hq
    clear hq
    simp only [headO, lastO_snoc, op] at x0 x1
    go_enter Try.func90, Try.ntmps90
    go_wp2
    go_region
    go_wp2
    go_end0
    have hR := HR.out
    subst hR
    have ha := HA.out
    refine Removed.mk (pre := M ++ [(Q, qi)]) (post := []) H.out ?_ ?_ (fun M' q e => ?_) (fun q M e => absurd e (by simp))
    · exact ((((((Kept.refl _ w).set (C := Q) (.inr (.inr (.inl (by rw [lastO_snoc])))) 1 _).set (C := L) (.inl rfl) 2 _).set (C := X) (.inr (.inl rfl)) 0 _).set (C := X) (.inr (.inl rfl)) 1 _).set (C := L) (.inl rfl) 3 _).drew
    · rw [ha, List.append_nil, lastO_snoc]
      have e : headO ((M ++ [(Q, qi)]) ++ [(X, it)]) none = headO (M ++ [(Q, qi)]) none := by cases M <;> rfl
      rw [← e]
      have h1 := (((((HC.out.set_far 1 (.pointer none) (Ne.symm hQL)).set 2 (pt Q)).set_far 0 (.pointer none) (Ne.symm hxL)).set_far 1 (.pointer none) (Ne.symm hxL)).set 3 (.int .i64 a)).drew
      exact h1
    · obtain ⟨e1, e2⟩ := List.append_inj' e rfl
      have e2 := (List.cons.inj e2).1
      subst e1
      subst e2
      have h1 := (((((HQ.out.set 1 (.pointer none)).set_far 2 (pt Q) hQL).set_far 0 (.pointer none) hQX).set_far 1 (.pointer none) hQX).set_far 3 (.int .i64 a) hQL).drew
      exact h1
  · obtain ⟨e1, e2⟩ := DL.split.1 d1
    have hq : Cells w Q #[op (lastO M none), pt X, pt qi] 115 := e2.1
    have hz : Cells w Z #[pt X, op (headO post none), pt zi] 115 := d2.2.1
    clear d1 d2 e1 e2
    have hql := hq.lt
    have hzl := hz.lt
    have q1 : w.cell? ⟨Q, 1, none⟩ = some (pt X) := by rw [hq.cell]; rfl
    have fq : w.frozen? ⟨Q, 1, none⟩ = false := hq.frozen 1
    have hQL : Q ≠ L := hq.ne HC.out (by decide)
    have hQX : Q ≠ X := HN3.out Q (by simp) X (by simp)
    have z0 : w.cell? ⟨Z, 0, none⟩ = some (pt X) := by rw [hz.cell]; rfl
    have fz : w.frozen? ⟨Z, 0, none⟩ = false := hz.frozen 0
    have hZL : Z ≠ L := hz.ne HC.out (by decide)
    have hZX : Z ≠ X := fun e => HN4.out (by simp [e])
    have hQZ : Q ≠ Z := HN3.out Q (by simp) Z (by simp)
    have HQ := hid hq
    have HZ := hid hz
    clear hq hz
    simp only [headO, lastO_snoc, op] at x0 x1
    go_enter Try.func90, Try.ntmps90
    go_wp2
    go_region
    go_wp2
    go_region
    go_wp2
    go_end0
    have hR := HR.out
    subst hR
    have ha := HA.out
    refine Removed.mk (pre := M ++ [(Q, qi)]) (post := (Z, zi) :: post) H.out ?_ ?_ (fun M' q e => ?_) (fun q M' e => ?_)
    · exact (((((((Kept.refl _ w).set (C := Q) (.inr (.inr (.inl (by rw [lastO_snoc])))) 1 _).set (C := Z) (.inr (.inr (.inr rfl))) 0 _).set (C := X) (.inr (.inl rfl)) 0 _).set (C := X) (.inr (.inl rfl)) 1 _).set (C := L) (.inl rfl) 3 _).drew).drew
    · rw [ha]
      have e : headO ((M ++ [(Q, qi)]) ++ (Z, zi) :: post) none = headO ((M ++ [(Q, qi)]) ++ (X, it) :: (Z, zi) :: post) none := by cases M <;> rfl
      have e2 : lastO ((M ++ [(Q, qi)]) ++ (Z, zi) :: post) none = lastO ((M ++ [(Q, qi)]) ++ (X, it) :: (Z, zi) :: post) none := by rw [lastO_app (M ++ [(Q, qi)]), lastO_app (M ++ [(Q, qi)])]; rfl
      rw [e, e2]
      have h1 := ((((((HC.out.set_far 1 (pt Z) (Ne.symm hQL)).set_far 0 (pt Q) (Ne.symm hZL)).set_far 0 (.pointer none) (Ne.symm hxL)).set_far 1 (.pointer none) (Ne.symm hxL)).set 3 (.int .i64 a)).drew).drew
      exact h1
    · obtain ⟨e1, e2⟩ := List.append_inj' e rfl
      have e2 := (List.cons.inj e2).1
      subst e1
      subst e2
      have h1 := ((((((HQ.out.set 1 (pt Z)).set_far 0 (pt Q) hQZ).set_far 0 (.pointer none) hQX).set_far 1 (.pointer none) hQX).set_far 3 (.int .i64 a) hQL).drew).drew
      exact h1
    · obtain ⟨e1, e2⟩ := List.cons.inj e
      subst e1
      subst e2
      rw [lastO_snoc]
      have h1 := ((((((HZ.out.set_far 1 (pt Z) (Ne.symm hQZ)).set 0 (pt Q)).set_far 0 (.pointer none) hZX).set_far 1 (.pointer none) hZX).set_far 3 (.int .i64 a) hZL).drew).drew
      exact h1
end Go.Proofs.Ytdjhpldiifdifaa
namespace Go.Proofs.Ytdjhpldiifdifaa
set_option linter.unusedSimpArgs false
set_option linter.unusedVariables false
open Go.RowKit

/-- A level: its price, its block, its elements (element's block, entry's block). -/
abbrev Lv := Int × Nat × List (Nat × Nat)
def bw (b : Bool) : Value := .bool b
/-- An entry in memory. -/
def EnC (w : World) (E : Nat) (e : En) (waits : Bool) (place : Option Nat) : Prop :=
  Cells w E #[.int .i64 e.n, .int .i64 e.o.m, .int .i64 e.o.s, .int .i64 e.o.k, .int .i64 e.o.f, .int .i64 e.o.p, .int .i64 e.o.t, .int .i64 e.o.q, .int .i64 e.o.pk, .int .i64 e.l, .int .i64 e.h, .bool waits, op place] 99
theorem EnC.lt {w : World} {E : Nat} {e : En} {b : Bool} {p : Option Nat} (h : EnC w E e b p) : E < w.heap.size := Cells.lt h
theorem EnC.kept {X : Nat → Prop} {w w' : World} {E : Nat} {e : En} {b : Bool} {p : Option Nat} (h : EnC w E e b p) (hk : Kept X w w') (hx : ¬ X E) : EnC w' E e b p := Cells.kept h hk hx
/-- The function that tells which price is better. -/
def betF (side : Int) : Nat := if side = 1 then 68 else 69
def betV (side : Int) : Value := .func (.func (betF side)) #[] #[]
/-- The plain side. -/
def plainH (ls : List Lv) (en : Nat → En) : Half := ls.map fun x => (x.1, x.2.2.map fun y => en y.2)
/-- The blocks of the elements, the entries. -/
def elsL (ls : List Lv) : List Nat := ls.flatMap fun x => x.2.2.map Prod.fst
def ensL (ls : List Lv) : List Nat := ls.flatMap fun x => x.2.2.map Prod.snd
/-- A level of colour c. -/
def LvOk (O : Nat → Nat) (c : Nat) (w : World) (en : Nat → En) (x : Lv) : Prop := Lst w x.2.1 x.1 x.2.2 ∧ O x.2.1 = c ∧ ∀ y ∈ x.2.2, O y.1 = c ∧ O y.2 = c ∧ EnC w y.2 (en y.2) false (some y.1)
structure HlfC (O : Nat → Nat) (c : Nat) (w : World) (H : Nat) (side : Int) (ls : List Lv) (en : Nat → En) : Prop where
  cell : ∃ v, Cells w H #[betV side, v] 136 ∧ OwnE (fun b : Nat => [pt b]) 1 108 0 w v (ls.map fun x => x.2.1) ∧ ∀ b, v.ownBlock = some b → O b = c
  col : O H = c
  lv : ∀ x ∈ ls, LvOk O c w en x
  nodL : (ls.map fun x => x.2.1).Nodup
  nodE : (elsL ls).Nodup
  nodN : (ensL ls).Nodup
theorem HlfC.lt {O : Nat → Nat} {c : Nat} {w : World} {H : Nat} {side : Int} {ls : List Lv} {en : Nat → En} (h : HlfC O c w H side ls en) : H < w.heap.size := by
  obtain ⟨v, h1, _⟩ := h.cell
  exact h1.lt
theorem Lst.keptC {X : Nat → Prop} {w w' : World} {L : Nat} {p : Int} {es : List (Nat × Nat)} (h : Lst w L p es) (hk : Kept X w w') (h1 : ¬ X L) (h2 : ∀ y ∈ es, ¬ X y.1) : Lst w' L p es :=
  h.kept hk fun k hf => by
    rcases hf with rfl | hf
    · exact h1
    · obtain ⟨y, hy, rfl⟩ := List.mem_map.1 hf
      exact h2 y hy
/-- A side stays where its colour is left alone; the entries' numbers are those that there were. -/
theorem HlfC.kept {O O' : Nat → Nat} {c : Nat} {w w' : World} {H : Nat} {side : Int} {ls : List Lv} {en en' : Nat → En} (h : HlfC O c w H side ls en) {X : Nat → Prop} (hk : Kept X w w') (hX : ∀ k, k < w.heap.size → O k = c → ¬ X k ∧ O' k = c)
    (hen : ∀ E ∈ ensL ls, en' E = en E) : HlfC O' c w' H side ls en' := by
  obtain ⟨v, h1, h2, h3⟩ := h.cell
  have hb : ∀ b, v.ownBlock = some b → b < w.heap.size := by
    intro b hb
    rcases h2.2 with ⟨rfl, _⟩ | ⟨g, cap, cur, rfl, _, hg, _⟩
    · cases hb
    · injection hb with hb
      subst hb
      exact (Array.getElem?_eq_some_iff.1 hg).1
  refine ⟨⟨v, h1.kept hk (hX H h1.lt h.col).1, OwnE.kept h2 hk (fun b hb' => (hX b (hb b hb') (h3 b hb')).1), fun b hb' => (hX b (hb b hb') (h3 b hb')).2⟩, (hX H h1.lt h.col).2, fun x hx => ?_, h.nodL, h.nodE, h.nodN⟩
  obtain ⟨a1, a2, a3⟩ := h.lv x hx
  have hLlt := a1.c.lt
  refine ⟨a1.keptC hk (hX _ hLlt a2).1 (fun y hy => ?_), (hX _ hLlt a2).2, fun y hy => ?_⟩
  · obtain ⟨b1, b2, b3⟩ := a3 y hy
    obtain ⟨cs, hc⟩ := a1.l.mem y hy
    exact (hX _ hc.lt b1).1
  · obtain ⟨b1, b2, b3⟩ := a3 y hy
    obtain ⟨cs, hc⟩ := a1.l.mem y hy
    refine ⟨(hX _ hc.lt b1).2, (hX _ b3.lt b2).2, ?_⟩
    rw [hen y.2 (List.mem_flatMap.2 ⟨x, hx, List.mem_map.2 ⟨y, hy, rfl⟩⟩)]
    exact b3.kept hk (hX _ b3.lt b2).1
theorem HlfC.step {C : Nat → Prop} {O O' : Nat → Nat} {c : Nat} {w w' : World} {H : Nat} {side : Int} {ls : List Lv} {en en' : Nat → En} (h : HlfC O c w H side ls en) (hs : Step C O w O' w') (hc : ¬ C c) (hen : ∀ E ∈ ensL ls, en' E = en E) : HlfC O' c w' H side ls en' :=
  h.kept hs.kept (fun k hk hO => ⟨by show ¬ C (O k); rw [hO]; exact hc, by rw [(hs.old k hk (by rw [hO]; exact hc)).2, hO]⟩) hen
theorem HlfC.below {O : Nat → Nat} {c : Nat} {w w' : World} {H : Nat} {side : Int} {ls : List Lv} {en : Nat → En} (h : HlfC O c w H side ls en) (hb : Below w.heap.size w w') : HlfC O c w' H side ls en :=
  h.kept (Kept.of_below (X := fun _ => False) hb) (fun k _ hO => ⟨not_false, hO⟩) (fun _ _ => rfl)
/-- The levels' row, read. -/
theorem HlfC.row {O : Nat → Nat} {c : Nat} {w : World} {H : Nat} {side : Int} {ls : List Lv} {en : Nat → En} (h : HlfC O c w H side ls en) : ∃ p cap b, Cells w H #[betV side, .slice p ls.length cap] 136 ∧ (0 < ls.length → p = some ⟨b, 0, none⟩ ∧ O b = c) ∧ b < w.heap.size ∧
    (∀ (k : Nat) (hk : k < ls.length), w.cell? ⟨b, k, none⟩ = some (pt ls[k].2.1)) ∧ OwnE (fun b : Nat => [pt b]) 1 108 0 w (.slice p ls.length cap) (ls.map fun x => x.2.1) ∧ ∀ b', (Value.slice p ls.length cap).ownBlock = some b' → O b' = c := by
  obtain ⟨v, h1, h2, h3⟩ := h.cell
  obtain ⟨p, cap, b, rfl, hp, hc⟩ := OwnE.cells (sz := 1) (fun _ => rfl) h2
  rw [List.length_map] at h1 hp
  have hlt := h1.lt
  have h2' : OwnE (fun b : Nat => [pt b]) 1 108 0 w (.slice p ls.length cap) (ls.map fun x => x.2.1) := by have := h2; rwa [List.length_map] at this
  have h3' : ∀ b', (Value.slice p ls.length cap).ownBlock = some b' → O b' = c := by have := h3; rwa [List.length_map] at this
  by_cases h0 : 0 < ls.length
  · refine ⟨p, cap, b, h1, fun _ => ⟨(hp h0).1, h3' b (by rw [(hp h0).1]; rfl)⟩, (hp h0).2.2, fun k hk => ?_, h2', h3'⟩
    have := hc k (by simpa using hk) 0 (by omega)
    simpa using this
  · exact ⟨p, cap, H, h1, fun h => absurd h h0, hlt, fun k hk => by omega, h2', h3'⟩
theorem HlfC.level {O : Nat → Nat} {c : Nat} {w : World} {H : Nat} {side : Int} {ls : List Lv} {en : Nat → En} (h : HlfC O c w H side ls en) (k : Nat) (hk : k < ls.length) : w.cell? ⟨ls[k].2.1, 0, none⟩ = some (.int .i64 ls[k].1) ∧ ls[k].2.1 < w.heap.size := by
  have := (h.lv ls[k] (List.getElem_mem hk)).1.c
  exact ⟨by rw [this.cell]; rfl, this.lt⟩
theorem LvOk.kept {O O' : Nat → Nat} {c : Nat} {w w' : World} {en en' : Nat → En} {x : Lv} (h : LvOk O c w en x) {P : Nat → Prop} (hk : Kept P w w') (h1 : ¬ P x.2.1) (h2 : ∀ y ∈ x.2.2, ¬ P y.1 ∧ ¬ P y.2) (hO : ∀ k, k < w.heap.size → O k = c → O' k = c) (hen : ∀ y ∈ x.2.2, en' y.2 = en y.2) : LvOk O' c w' en' x := by
  obtain ⟨a1, a2, a3⟩ := h
  refine ⟨a1.keptC hk h1 (fun y hy => (h2 y hy).1), hO _ a1.c.lt a2, fun y hy => ?_⟩
  obtain ⟨b1, b2, b3⟩ := a3 y hy
  obtain ⟨cs, hc⟩ := a1.l.mem y hy
  refine ⟨hO _ hc.lt b1, hO _ b3.lt b2, ?_⟩
  rw [hen y hy]
  exact b3.kept hk (h2 y hy).2
theorem LvOk.el {O : Nat → Nat} {c : Nat} {w : World} {en : Nat → En} {x : Lv} (h : LvOk O c w en x) {y : Nat × Nat} (hy : y ∈ x.2.2) : ∃ cs, Cells w y.1 cs 115 := h.1.l.mem y hy
/-- A side stays where none of its blocks is changed. -/
theorem HlfC.keptG {O O' : Nat → Nat} {c : Nat} {w w' : World} {H : Nat} {side : Int} {ls : List Lv} {en en' : Nat → En} (h : HlfC O c w H side ls en) {P : Nat → Prop} (hk : Kept P w w') (hH : ¬ P H) (hrow : ∀ b cs, O b = c → Cells w b cs 108 → ¬ P b)
    (hlv : ∀ x ∈ ls, ¬ P x.2.1 ∧ ∀ y ∈ x.2.2, ¬ P y.1 ∧ ¬ P y.2) (hO : ∀ k, k < w.heap.size → O k = c → O' k = c) (hen : ∀ x ∈ ls, ∀ y ∈ x.2.2, en' y.2 = en y.2) : HlfC O' c w' H side ls en' := by
  obtain ⟨v, h1, h2, h3⟩ := h.cell
  have hb : ∀ b, v.ownBlock = some b → ∃ cs, Cells w b cs 108 := by
    intro b hb
    rcases h2.2 with ⟨rfl, _⟩ | ⟨g, cap, cur, rfl, _, hg, _⟩
    · cases hb
    · injection hb with hb
      subst hb
      exact ⟨cur, hg⟩
  refine ⟨⟨v, h1.kept hk hH, OwnE.kept h2 hk (fun b hb' => ?_), fun b hb' => ?_⟩, hO _ h1.lt h.col, fun x hx => (h.lv x hx).kept hk (hlv x hx).1 (hlv x hx).2 hO (hen x hx), h.nodL, h.nodE, h.nodN⟩
  · obtain ⟨cs, hc⟩ := hb b hb'
    exact hrow b cs (h3 b hb') hc
  · obtain ⟨cs, hc⟩ := hb b hb'
    exact hO _ hc.lt (h3 b hb')
theorem flat_mid (f : Lv → List Nat) (pre post : List Lv) (z : Lv) : ((pre ++ z :: post).flatMap f).Perm (f z ++ (pre ++ post).flatMap f) := by
  rw [List.flatMap_append, List.flatMap_cons, List.flatMap_append]
  exact (List.perm_append_comm_assoc _ _ _)
theorem nod_mid {f : Lv → List Nat} {pre post : List Lv} {z : Lv} : ((pre ++ z :: post).flatMap f).Nodup ↔ (f z).Nodup ∧ ((pre ++ post).flatMap f).Nodup ∧ ∀ a ∈ f z, a ∉ (pre ++ post).flatMap f := by
  rw [(flat_mid f pre post z).nodup_iff, List.nodup_append]
  exact ⟨fun ⟨h1, h2, h3⟩ => ⟨h1, h2, fun a ha hb => h3 a ha a hb rfl⟩, fun ⟨h1, h2, h3⟩ => ⟨h1, h2, fun a ha b hb e => h3 a ha (e ▸ hb)⟩⟩
theorem nodL_mid {pre post : List Lv} {z : Lv} : ((pre ++ z :: post).map fun x => x.2.1).Nodup ↔ ((pre ++ post).map fun x => x.2.1).Nodup ∧ ∀ x ∈ pre ++ post, x.2.1 ≠ z.2.1 := by
  have hp : ((pre ++ z :: post).map fun x => x.2.1).Perm (z.2.1 :: (pre ++ post).map fun x => x.2.1) := by simp
  rw [hp.nodup_iff, List.nodup_cons]
  constructor
  · rintro ⟨h1, h2⟩
    exact ⟨h2, fun x hx e => h1 (List.mem_map.2 ⟨x, hx, e⟩)⟩
  · rintro ⟨h1, h2⟩
    exact ⟨fun hm => by obtain ⟨x, hx, e⟩ := List.mem_map.1 hm; exact h2 x hx e, h1⟩
theorem mem_els {ls : List Lv} {x : Lv} {y : Nat × Nat} (hx : x ∈ ls) (hy : y ∈ x.2.2) : y.1 ∈ elsL ls := List.mem_flatMap.2 ⟨x, hx, List.mem_map.2 ⟨y, hy, rfl⟩⟩
theorem mem_ens {ls : List Lv} {x : Lv} {y : Nat × Nat} (hx : x ∈ ls) (hy : y ∈ x.2.2) : y.2 ∈ ensL ls := List.mem_flatMap.2 ⟨x, hx, List.mem_map.2 ⟨y, hy, rfl⟩⟩
theorem mid_of {pre post : List Lv} {z x : Lv} (h : x ∈ pre ++ post) : x ∈ pre ++ z :: post := by
  rcases List.mem_append.1 h with h | h
  · exact List.mem_append_left _ h
  · exact List.mem_append_right _ (List.mem_cons_of_mem _ h)
theorem mid_cases {pre post : List Lv} {z x : Lv} (h : x ∈ pre ++ z :: post) : x = z ∨ x ∈ pre ++ post := by
  rcases List.mem_append.1 h with h | h
  · exact .inr (List.mem_append_left _ h)
  · rcases List.mem_cons.1 h with h | h
    · exact .inl h
    · exact .inr (List.mem_append_right _ h)
/-- An element was taken out of a level's queue. -/
theorem HlfC.cutE {O : Nat → Nat} {c : Nat} {w w' : World} {H : Nat} {side : Int} {pre post : List Lv} {p : Int} {L E X : Nat} {q1 q2 : List (Nat × Nat)} {en : Nat → En} (h : HlfC O c w H side (pre ++ (p, L, q1 ++ (E, X) :: q2) :: post) en)
    (hl : Lst w' L p (q1 ++ q2)) (hk : Kept (Lst.foot L (q1 ++ (E, X) :: q2)) w w') : HlfC O c w' H side (pre ++ (p, L, q1 ++ q2) :: post) en ∧ EnC w' X (en X) false (some E) ∧ X ∉ ensL (pre ++ (p, L, q1 ++ q2) :: post) ∧ O X = c := by
  obtain ⟨v, h1, h2, h3⟩ := h.cell
  obtain ⟨a1, a2, a3⟩ := h.lv (p, L, q1 ++ (E, X) :: q2) (by simp)
  simp only at a1 a2 a3
  have hft : ∀ b cs t, Cells w b cs t → t ≠ 113 → t ≠ 115 → ¬ Lst.foot L (q1 ++ (E, X) :: q2) b := by
    rintro b cs t hb n1 n2 (rfl | hm)
    · exact hb.ne a1.c n1 rfl
    · obtain ⟨y, hy, rfl⟩ := List.mem_map.1 hm
      obtain ⟨cs', hc⟩ := a1.l.mem y hy
      exact hb.ne hc n2 rfl
  have hsub : ∀ y ∈ q1 ++ q2, y ∈ q1 ++ (E, X) :: q2 := fun y hy => by
    rcases List.mem_append.1 hy with hy | hy
    · exact List.mem_append_left _ hy
    · exact List.mem_append_right _ (List.mem_cons_of_mem _ hy)
  have nE := nod_mid.1 h.nodE
  have nN := nod_mid.1 h.nodN
  have nL := nodL_mid.1 h.nodL
  simp only at nE nN nL
  have eX := a3 (E, X) (by simp)
  refine ⟨⟨⟨v, h1.kept hk (hft _ _ _ h1 (by decide) (by decide)), ?_, h3⟩, h.col, fun x hx => ?_, ?_, ?_, ?_⟩, eX.2.2.kept hk (hft _ _ _ eX.2.2 (by decide) (by decide)), ?_, eX.2.1⟩
  · have h2' : OwnE (fun b : Nat => [pt b]) 1 108 0 w v ((pre ++ (p, L, q1 ++ q2) :: post).map fun x => x.2.1) := by simpa using h2
    refine OwnE.kept h2' hk (fun b hb => ?_)
    rcases h2.2 with ⟨rfl, _⟩ | ⟨g, cap, cur, rfl, _, hg, _⟩
    · cases hb
    · injection hb with hb
      subst hb
      exact hft _ cur _ hg (by decide) (by decide)
  · rcases mid_cases hx with rfl | hx
    · refine ⟨hl, a2, fun y hy => ?_⟩
      obtain ⟨b1, b2, b3⟩ := a3 y (hsub y hy)
      exact ⟨b1, b2, b3.kept hk (hft _ _ _ b3 (by decide) (by decide))⟩
    · have hx' := h.lv x (mid_of hx)
      refine hx'.kept hk ?_ (fun y hy => ⟨?_, ?_⟩) (fun _ _ h => h) (fun _ _ => rfl)
      · rintro (e | hm)
        · exact nL.2 x hx e
        · obtain ⟨y, hy, e⟩ := List.mem_map.1 hm
          obtain ⟨cs', hc⟩ := a1.l.mem y hy
          rw [e] at hc
          exact hx'.1.c.ne hc (by decide) rfl
      · obtain ⟨cs', hc⟩ := hx'.el hy
        rintro (e | hm)
        · rw [e] at hc
          exact hc.ne a1.c (by decide) rfl
        · exact nE.2.2 y.1 hm (mem_els hx hy)
      · exact hft _ _ _ (hx'.2.2 y hy).2.2 (by decide) (by decide)
  · exact nodL_mid.2 nL
  · refine nod_mid.2 ⟨?_, nE.2.1, fun a ha => nE.2.2 a ?_⟩
    · have := nE.1
      simp only [List.map_append, List.map_cons] at this ⊢
      exact ((List.perm_middle.nodup_iff).1 this |> List.nodup_cons.1).2
    · obtain ⟨y, hy, rfl⟩ := List.mem_map.1 ha
      exact List.mem_map.2 ⟨y, hsub y hy, rfl⟩
  · refine nod_mid.2 ⟨?_, nN.2.1, fun a ha => nN.2.2 a ?_⟩
    · have := nN.1
      simp only [List.map_append, List.map_cons] at this ⊢
      exact ((List.perm_middle.nodup_iff).1 this |> List.nodup_cons.1).2
    · obtain ⟨y, hy, rfl⟩ := List.mem_map.1 ha
      exact List.mem_map.2 ⟨y, hsub y hy, rfl⟩
  · intro hm
    have hm := (flat_mid _ _ _ _).mem_iff.1 hm
    rcases List.mem_append.1 hm with hm | hm
    · have := nN.1
      simp only [List.map_append, List.map_cons] at this
      have := (List.nodup_cons.1 ((List.perm_middle.nodup_iff).1 this)).1
      exact this (by simpa [List.map_append] using hm)
    · exact nN.2.2 X (by simp) hm
/-- An empty level was taken out. -/
theorem HlfC.offL {O O' : Nat → Nat} {c : Nat} {w w' : World} {H : Nat} {side : Int} {pre post : List Lv} {z : Lv} {en : Nat → En} (h : HlfC O c w H side (pre ++ z :: post) en) {P : Nat → Prop} (hk : Kept P w w') (hP : ∀ b cs t, Cells w b cs t → P b → t = 108 ∨ b = H)
    (hc : ∃ v, Cells w' H #[betV side, v] 136 ∧ OwnE (fun b : Nat => [pt b]) 1 108 0 w' v ((pre ++ post).map fun x => x.2.1) ∧ ∀ b, v.ownBlock = some b → O' b = c) (hO : ∀ k, k < w.heap.size → O k = c → O' k = c) : HlfC O' c w' H side (pre ++ post) en := by
  have hH : ∃ cs, Cells w H cs 136 := by obtain ⟨v, h1, _⟩ := h.cell; exact ⟨_, h1⟩
  obtain ⟨csH, hH⟩ := hH
  have hft : ∀ b cs t, Cells w b cs t → t ≠ 108 → t ≠ 136 → ¬ P b := by
    intro b cs t hb n1 n2 hp
    rcases hP b cs t hb hp with e | e
    · exact n1 e
    · exact hb.ne hH n2 e
  refine ⟨hc, hO _ hH.lt h.col, fun x hx => ?_, (nodL_mid.1 h.nodL).1, (nod_mid.1 h.nodE).2.1, (nod_mid.1 h.nodN).2.1⟩
  have hx' := h.lv x (mid_of hx)
  refine hx'.kept hk (hft _ _ _ hx'.1.c (by decide) (by decide)) (fun y hy => ⟨?_, hft _ _ _ (hx'.2.2 y hy).2.2 (by decide) (by decide)⟩) hO (fun _ _ => rfl)
  obtain ⟨cs', hc⟩ := hx'.el hy
  exact hft _ _ _ hc (by decide) (by decide)
/-- An empty level was put in. -/
theorem HlfC.inL {O O' : Nat → Nat} {c : Nat} {w w' : World} {H : Nat} {side : Int} {pre post : List Lv} {p : Int} {L : Nat} {en : Nat → En} (h : HlfC O c w H side (pre ++ post) en) {P : Nat → Prop} (hk : Kept P w w') (hP : ∀ b cs t, Cells w b cs t → P b → t = 108 ∨ b = H)
    (hc : ∃ v, Cells w' H #[betV side, v] 136 ∧ OwnE (fun b : Nat => [pt b]) 1 108 0 w' v ((pre ++ (p, L, []) :: post).map fun x => x.2.1) ∧ ∀ b, v.ownBlock = some b → O' b = c)
    (hl : Lst w' L p []) (hL : w.heap.size ≤ L) (hOL : O' L = c) (hO : ∀ k, k < w.heap.size → O k = c → O' k = c) : HlfC O' c w' H side (pre ++ (p, L, []) :: post) en := by
  have hH : ∃ cs, Cells w H cs 136 := by obtain ⟨v, h1, _⟩ := h.cell; exact ⟨_, h1⟩
  obtain ⟨csH, hH⟩ := hH
  have hft : ∀ b cs t, Cells w b cs t → t ≠ 108 → t ≠ 136 → ¬ P b := by
    intro b cs t hb n1 n2 hp
    rcases hP b cs t hb hp with e | e
    · exact n1 e
    · exact hb.ne hH n2 e
  refine ⟨hc, hO _ hH.lt h.col, fun x hx => ?_, nodL_mid.2 ⟨h.nodL, fun x hx => ?_⟩, nod_mid.2 ⟨List.nodup_nil, h.nodE, fun a ha => absurd ha (by simp)⟩, nod_mid.2 ⟨List.nodup_nil, h.nodN, fun a ha => absurd ha (by simp)⟩⟩
  · rcases mid_cases hx with rfl | hx
    · exact ⟨hl, hOL, fun y hy => absurd hy (by simp)⟩
    · have hx' := h.lv x hx
      refine hx'.kept hk (hft _ _ _ hx'.1.c (by decide) (by decide)) (fun y hy => ⟨?_, hft _ _ _ (hx'.2.2 y hy).2.2 (by decide) (by decide)⟩) hO (fun _ _ => rfl)
      obtain ⟨cs', hc⟩ := hx'.el hy
      exact hft _ _ _ hc (by decide) (by decide)
  · have := (h.lv x hx).1.c.lt
    show x.2.1 ≠ L
    omega
/-- An entry came to the end of a level's queue. -/
theorem HlfC.pushE {O O' : Nat → Nat} {c : Nat} {w w2 : World} {H : Nat} {side : Int} {pre post : List Lv} {p : Int} {L E X : Nat} {q : List (Nat × Nat)} {en : Nat → En} {pl : Option Nat} (h : HlfC O c w H side (pre ++ (p, L, q) :: post) en)
    (hX : X ∉ ensL (pre ++ (p, L, q) :: post)) (hOX : O X = c) (eX : EnC w X (en X) false pl) (hE : w.heap.size ≤ E) (hl : Lst w2 L p (q ++ [(E, X)])) (hk : Kept (Lst.foot L q) w w2)
    (hO : ∀ k, k < w.heap.size → O k = c → O' k = c) (hOE : O' E = c) :
    HlfC O' c (w2.setCell ⟨X, 12, none⟩ (pt E)) H side (pre ++ (p, L, q ++ [(E, X)]) :: post) en ∧ Kept (fun k => O k = c) w (w2.setCell ⟨X, 12, none⟩ (pt E)) := by
  obtain ⟨v, h1, h2, h3⟩ := h.cell
  obtain ⟨a1, a2, a3⟩ := h.lv (p, L, q) (by simp)
  simp only at a1 a2 a3
  have nE := nod_mid.1 h.nodE
  have nN := nod_mid.1 h.nodN
  have nL := nodL_mid.1 h.nodL
  simp only at nE nN nL
  have hft : ∀ b cs t, Cells w b cs t → t ≠ 113 → t ≠ 115 → ¬ Lst.foot L q b := by
    rintro b cs t hb n1 n2 (rfl | hm)
    · exact hb.ne a1.c n1 rfl
    · obtain ⟨y, hy, rfl⟩ := List.mem_map.1 hm
      obtain ⟨cs', hc⟩ := a1.l.mem y hy
      exact hb.ne hc n2 rfl
  have eX2 := eX.kept hk (hft _ _ _ eX (by decide) (by decide))
  have eX3 : EnC (w2.setCell ⟨X, 12, none⟩ (pt E)) X (en X) false (some E) := Cells.set eX2 12 (pt E)
  have k2 : Kept (fun k => k = X) w2 (w2.setCell ⟨X, 12, none⟩ (pt E)) := (Kept.refl (fun k => k = X) w2).set (C := X) rfl 12 _
  have k3 : Kept (fun k => Lst.foot L q k ∨ k = X) w (w2.setCell ⟨X, 12, none⟩ (pt E)) := (hk.mono fun k hk => (.inl hk : Lst.foot L q k ∨ k = X)).trans k2 (fun k _ hk => .inr hk)
  have hft3 : ∀ b cs t, Cells w b cs t → t ≠ 113 → t ≠ 115 → b ≠ X → ¬ (Lst.foot L q b ∨ b = X) := by
    rintro b cs t hb n1 n2 n3 (hf | e)
    · exact hft b cs t hb n1 n2 hf
    · exact n3 e
  have hEq : ∀ y ∈ q, y.1 < w.heap.size := fun y hy => by obtain ⟨cs, hc⟩ := a1.l.mem y hy; exact hc.lt
  refine ⟨⟨⟨v, h1.kept k3 (hft3 _ _ _ h1 (by decide) (by decide) (h1.ne eX (by decide))), ?_, fun b hb => ?_⟩, hO _ h1.lt h.col, fun x hx => ?_, ?_, ?_, ?_⟩, ?_⟩
  · have h2' : OwnE (fun b : Nat => [pt b]) 1 108 0 w v ((pre ++ (p, L, q ++ [(E, X)]) :: post).map fun x => x.2.1) := by simpa using h2
    refine OwnE.kept h2' k3 (fun b hb => ?_)
    rcases h2.2 with ⟨rfl, _⟩ | ⟨g, cap, cur, rfl, _, hg, _⟩
    · cases hb
    · injection hb with hb
      subst hb
      exact hft3 _ cur _ hg (by decide) (by decide) (Cells.ne hg eX (by decide))
  · refine hO b ?_ (h3 b hb)
    rcases h2.2 with ⟨rfl, _⟩ | ⟨g, cap, cur, rfl, _, hg, _⟩
    · cases hb
    · injection hb with hb
      subst hb
      exact Cells.lt hg
  · rcases mid_cases hx with rfl | hx
    · refine ⟨hl.kept k2 ?_, hO _ a1.c.lt a2, fun y hy => ?_⟩
      · rintro k (rfl | hm) rfl
        · exact hl.c.ne eX2 (by decide) rfl
        · obtain ⟨y, hy, e⟩ := List.mem_map.1 hm
          obtain ⟨cs', hc⟩ := hl.l.mem y hy
          rw [e] at hc
          exact hc.ne eX2 (by decide) rfl
      · rcases List.mem_append.1 hy with hy | hy
        · obtain ⟨b1, b2, b3⟩ := a3 y hy
          refine ⟨hO _ (hEq y hy) b1, hO _ b3.lt b2, b3.kept k3 (hft3 _ _ _ b3 (by decide) (by decide) (fun e => hX ?_))⟩
          rw [← e]
          exact mem_ens (x := (p, L, q)) (by simp) hy
        · obtain rfl := List.mem_singleton.1 hy
          exact ⟨hOE, hO _ eX.lt hOX, eX3⟩
    · have hx' := h.lv x (mid_of hx)
      refine hx'.kept k3 ?_ (fun y hy => ⟨?_, ?_⟩) hO (fun _ _ => rfl)
      · rintro ((e | hm) | e)
        · exact nL.2 x hx e
        · obtain ⟨y, hy, e⟩ := List.mem_map.1 hm
          obtain ⟨cs', hc⟩ := a1.l.mem y hy
          rw [e] at hc
          exact hx'.1.c.ne hc (by decide) rfl
        · exact hx'.1.c.ne eX (by decide) e
      · obtain ⟨cs', hc⟩ := hx'.el hy
        rintro ((e | hm) | e)
        · rw [e] at hc
          exact hc.ne a1.c (by decide) rfl
        · exact nE.2.2 y.1 hm (mem_els hx hy)
        · exact hc.ne eX (by decide) e
      · have b3 := (hx'.2.2 y hy).2.2
        exact hft3 _ _ _ b3 (by decide) (by decide) (fun e => hX (by rw [← e]; exact mem_ens (mid_of hx) hy))
  · exact nodL_mid.2 nL
  · refine nod_mid.2 ⟨?_, nE.2.1, fun a ha => ?_⟩
    · show ((q ++ [(E, X)]).map Prod.fst).Nodup
      exact hl.n
    · obtain ⟨y, hy, rfl⟩ := List.mem_map.1 ha
      rcases List.mem_append.1 hy with hy | hy
      · exact nE.2.2 y.1 (List.mem_map.2 ⟨y, hy, rfl⟩)
      · obtain rfl := List.mem_singleton.1 hy
        intro hm
        obtain ⟨x, hx, hm⟩ := List.mem_flatMap.1 hm
        obtain ⟨y, hy, e⟩ := List.mem_map.1 hm
        obtain ⟨cs', hc⟩ := (h.lv x (mid_of hx)).el hy
        have := hc.lt
        simp only at e
        omega
  · refine nod_mid.2 ⟨?_, nN.2.1, fun a ha => ?_⟩
    · show ((q ++ [(E, X)]).map Prod.snd).Nodup
      rw [List.map_append, List.nodup_append]
      refine ⟨nN.1, by simp, fun a ha b hb e => ?_⟩
      simp only [List.map_cons, List.map_nil, List.mem_singleton] at hb
      subst hb; subst e
      obtain ⟨y, hy, e⟩ := List.mem_map.1 ha
      exact hX (by rw [← e]; exact mem_ens (x := (p, L, q)) (by simp) hy)
    · obtain ⟨y, hy, rfl⟩ := List.mem_map.1 ha
      rcases List.mem_append.1 hy with hy | hy
      · exact nN.2.2 y.2 (List.mem_map.2 ⟨y, hy, rfl⟩)
      · obtain rfl := List.mem_singleton.1 hy
        intro hm
        exact hX ((flat_mid _ _ _ _).mem_iff.2 (List.mem_append_right _ hm))
  · refine k3.mono fun k hk => ?_
    rcases hk with (rfl | hm) | rfl
    · exact a2
    · obtain ⟨y, hy, rfl⟩ := List.mem_map.1 hm
      exact (a3 y hy).1
    · exact hOX
end Go.Proofs.Ytdjhpldiifdifaa
