/- Rows of pointers: one taken out, one put in. No function of the program in sight. list.push, list.remove. A row of ints as a function; two ranges exchanged. rotateCmpFunc: two neighbouring ranges change places. Rows as functions: sorted parts, parts with the same elements, an insertion. No function of the program in sight. -/
import Derived.Maps.AppendAt
import Derived.Laws.CopyRow
import Derived.BigQuiet
import Derived.Deep.DeepCutAuto
import Derived.Test.YtepldjidkomclaaGreatJMem
import Derived.Test.YtepldjidkomclaaGreatJBBd0
namespace Go.Proofs.YtepldjidkomclaaGreat.Bo
set_option linter.unusedSimpArgs false
set_option linter.unusedVariables false
open Go.RowKit

/-- A call of append whose run is known. -/
theorem step_append_run {P : Program} {ops : Array Oper} {o : Oper} {a : Act} {w : World} {K : Act → World → Prop} {Q : Exit → Act → World → Prop} {E : Prop} (hgd : o.guard = none) (s x : Operand) (t : TypeId)
    (ho : o.op = .call { callee := .builtin .append, args := #[s, x], argTypes := #[t, t] }) (sv xv v : Value) (w' : World) (hs : a.eval s = sv) (hx : a.eval x = xv) (hrun : (Builtin.append_ #[t, t] o.type #[sv, xv]).run P w = .ok v w') (hK : K (a.put o.dst v) w') :
    if Region.wanted o (yielded ops a.tmps) = true then Oper.wp P o a w K Q else E := by
  have hw : Region.wanted o (yielded ops a.tmps) = true := by simp [Region.wanted, hgd]
  rw [if_pos hw]
  unfold Oper.wp
  simp [execOp, ho, resolve, invoke, builtin, hs, hx, hrun, Result.andThen]
  exact hK
/-- A call of copy whose run is known. -/
theorem step_copy_run {P : Program} {ops : Array Oper} {o : Oper} {a : Act} {w : World} {K : Act → World → Prop} {Q : Exit → Act → World → Prop} {E : Prop} (hgd : o.guard = none) (s x : Operand) (t : TypeId)
    (ho : o.op = .call { callee := .builtin .copy, args := #[s, x], argTypes := #[t, t] }) (sv xv v : Value) (w' : World) (hs : a.eval s = sv) (hx : a.eval x = xv) (hrun : (Builtin.copy_ #[t, t] o.type #[sv, xv]).run P w = .ok v w') (hK : K (a.put o.dst v) w') :
    if Region.wanted o (yielded ops a.tmps) = true then Oper.wp P o a w K Q else E := by
  have hw : Region.wanted o (yielded ops a.tmps) = true := by simp [Region.wanted, hgd]
  rw [if_pos hw]
  unfold Oper.wp
  simp [execOp, ho, resolve, invoke, builtin, hs, hx, hrun, Result.andThen]
  exact hK
theorem wpList_append_run {P : Program} {w : World} {ops : Array Oper} {rest : List Oper} {o : Oper} {a : Act} {Q : Exit → Act → World → Prop} (hgd : o.guard = none) (s x : Operand) (t : TypeId)
    (ho : o.op = .call { callee := .builtin .append, args := #[s, x], argTypes := #[t, t] }) (sv xv v : Value) (w' : World) (hs : a.eval s = sv) (hx : a.eval x = xv) (hrun : (Builtin.append_ #[t, t] o.type #[sv, xv]).run P w = .ok v w') (h : wpList P ops Q rest (a.put o.dst v) w') :
    wpList P ops Q (o :: rest) a w := by
  refine wpList_plain hgd fun K hK => ?_
  unfold Oper.wp
  simp [execOp, ho, resolve, invoke, builtin, hs, hx, hrun, Result.andThen]
  exact hK _ _ h

abbrev encPt : Nat → List Value := fun b => [pt b]
theorem flat_pt (l : List Nat) : flatE encPt l = l.map pt := by
  induction l with
  | nil => rfl
  | cons a l ih => rw [flatE_cons, ih]; rfl
theorem Kept.of_grown {w w' : World} {r : Option Nat} (h : w.grownBy w' r) : Kept (fun k => some k = r) w w' :=
  ⟨h.os, h.tape, h.output, h.size, fun k hk hx => h.block k hk hx⟩
theorem info_ptr {t : TypeId} (h : (Tryz.prog.info? t).map (fun i => (i.zero, i.size, i.bytes)) = some (some (.pointer none), 1, 8)) : ∃ i, Tryz.prog.info? t = some i ∧ i.zero = some (.pointer none) ∧ i.size = 1 ∧ i.bytes = 8 := by
  cases hi : Tryz.prog.info? t with
  | none => rw [hi] at h; cases h
  | some i =>
    rw [hi] at h
    simp only [Option.map_some, Option.some.injEq, Prod.mk.injEq] at h
    exact ⟨i, rfl, h.1, h.2.1, h.2.2⟩
theorem infoLev : (Tryz.prog.info? 86).map (fun i => (i.zero, i.size, i.bytes)) = some (some (.pointer none), 1, 8) := by kernel_rfl
theorem infoEnt : (Tryz.prog.info? 72).map (fun i => (i.zero, i.size, i.bytes)) = some (some (.pointer none), 1, 8) := by kernel_rfl
theorem undLev : Tryz.prog.underlying 82 = some (.slice 86) := by kernel_rfl
theorem undEnt : Tryz.prog.underlying 68 = some (.slice 72) := by kernel_rfl
/-- append(s[:i], s[i+1:]...) -/
theorem row_cut {t e ty : TypeId} (ht : Tryz.prog.underlying t = some (.slice e)) (hi : (Tryz.prog.info? e).map (fun i => (i.zero, i.size, i.bytes)) = some (some (.pointer none), 1, 8)) {w : World} {b cap : Nat} {pre post : List Nat} {x : Nat}
    (h : OwnE encPt 1 e 0 w (.slice (some ⟨b, 0, none⟩) (pre ++ x :: post).length cap) (pre ++ x :: post)) (hlen : (pre ++ x :: post).length ≤ 1000000) (A : Addr) (hA : 0 < post.length → A = ⟨b, pre.length + 1, none⟩) (c : Nat) :
    ∃ v' w', (Builtin.append_ #[t, t] ty #[.slice (some ⟨b, 0, none⟩) pre.length cap, .slice (some A) post.length c]).run Tryz.prog w = .ok v' w' ∧ OwnE encPt 1 e 0 w' v' (pre ++ post) ∧ Kept (fun k => k = b) w w' ∧ (v'.ownBlock = some b ∨ v'.ownBlock = some w.heap.size) := by
  obtain ⟨i, hi, hz, hs, hb⟩ := info_ptr hi
  have hown : w.ownsRow 0 e 1 (.slice (some ⟨b, 0, none⟩) pre.length cap) pre.length (flatE encPt pre) := by
    obtain ⟨h1, h2⟩ := h
    rcases h2 with ⟨h2, _⟩ | ⟨g, cap', cur, h2, h3, h4, h5, h6, h7, h8⟩
    · cases h2
    · have e1 : g = b ∧ cap' = cap := by injection h2 with a1 a2 a3; injection a1 with a1; injection a1 with a1; exact ⟨a1.symm, a3.symm⟩
      obtain ⟨rfl, rfl⟩ := e1
      refine ⟨by simp [flat_pt], .inr ⟨g, cap', cur, rfl, h3, h4, by rw [List.length_append] at h5; omega, h6, h7, ?_⟩⟩
      rw [flat_pt] at h8 ⊢
      have := congrArg (List.take pre.length) h8
      rw [List.take_take, List.map_append, List.take_append_of_le_length (by simp), List.length_append, List.length_cons] at this
      rw [show min pre.length ((pre.length + (post.length + 1)) * 1) = pre.length * 1 by omega] at this
      rw [this, List.take_of_length_le (by simp)]
  have hnews : ∀ j u, (flatE encPt post)[j]? = some u → w.cell? (A.add j) = some u := by
    intro j u hu
    have hj : j < post.length := by have := (List.getElem?_eq_some_iff.1 hu).1; rw [flat_pt] at this; simpa using this
    rw [hA (by omega)]
    have hc := World.ownsRow.cellAt h (pre.length + 1 + j) (by rw [List.length_append, List.length_cons]; omega)
    rw [show (⟨b, pre.length + 1, none⟩ : Addr).add j = ⟨b, pre.length + 1 + j, none⟩ by unfold Addr.add; split <;> simp_all]
    rw [hc]
    rw [flat_pt] at hu ⊢
    rw [List.map_append, List.getElem?_append_right (by simp; omega), List.length_map, show pre.length + 1 + j - pre.length = j + 1 by omega]
    exact hu
  obtain ⟨v', w', h1, h2, h3, _, h5⟩ := run_append_own_at w 0 t ty e i (.pointer none) 1 8 ht hi hz hs hb rfl (by omega) _ _ _ hown A post.length c (flatE encPt post) (by simp [flat_pt]) hnews
    (by intro u hu; rw [flat_pt] at hu; obtain ⟨y, _, rfl⟩ := List.mem_map.1 hu; rfl) (by rw [List.length_append, List.length_cons] at hlen; unfold maxLen; omega) (by rw [List.length_append, List.length_cons] at hlen; omega) (by omega)
  refine ⟨v', w', h1, ?_, (Kept.of_grown h3).mono (fun k hk => ?_), ?_⟩
  · unfold OwnE
    rw [flatE_append, List.length_append]
    exact h2
  · injection hk
  · rcases h5 with h5 | h5
    · exact .inl h5
    · exact .inr h5
/-- append(s, nil) -/
theorem row_grow {t e ty : TypeId} (ht : Tryz.prog.underlying t = some (.slice e)) (hi : (Tryz.prog.info? e).map (fun i => (i.zero, i.size, i.bytes)) = some (some (.pointer none), 1, 8)) {w : World} {v : Value} {l : List Nat}
    (h : OwnE encPt 1 e 0 w v l) (hlen : l.length ≤ 1000000) (A : Addr) (u : Value) (h1 : u.oneCell' = true) (hA : w.cell? A = some u) (c : Nat) :
    ∃ g cap w' cur, (Builtin.append_ #[t, t] ty #[v, .slice (some A) 1 c]).run Tryz.prog w = .ok (.slice (some ⟨g, 0, none⟩) (l.length + 1) cap) w' ∧ Cells w' g cur e ∧ l.length + 1 ≤ cap ∧ cap ≤ maxLen ∧ cur.size = cap ∧ cur.toList.take (l.length + 1) = l.map pt ++ [u] ∧
      Kept (fun k => some k = v.ownBlock) w w' ∧ (v.ownBlock = some g ∨ g = w.heap.size) := by
  obtain ⟨i, hi, hz, hs, hb⟩ := info_ptr hi
  have hnews : ∀ j x, [u][j]? = some x → w.cell? (A.add j) = some x := by
    intro j x hu
    have hj : j = 0 := by have := (List.getElem?_eq_some_iff.1 hu).1; simp at this; omega
    subst hj
    rw [show A.add 0 = A from if_pos rfl, hA]
    exact hu
  obtain ⟨v', w', r1, r2, r3, _, r5⟩ := run_append_own_at w 0 t ty e i (.pointer none) 1 8 ht hi hz hs hb rfl (by omega) v l.length (flatE encPt l) h A 1 c [u] rfl hnews (by intro x hx; rw [List.mem_singleton] at hx; rw [hx]; exact h1)
    (by unfold maxLen; omega) (by omega) (by omega)
  obtain ⟨q1, q2⟩ := r2
  rcases q2 with ⟨_, q3⟩ | ⟨g, cap, cur, q3, q4, q5, q6, q7, q8, q9⟩
  · omega
  · subst q3
    refine ⟨g, cap, w', cur, r1, q5, q6, q7, by rw [q8, Nat.mul_one], by rw [Nat.mul_one] at q9; rw [q9, flat_pt], Kept.of_grown r3, ?_⟩
    rcases r5 with r5 | r5
    · exact .inl r5.symm
    · injection r5 with r5
      exact .inr r5
theorem cells_setRow {w : World} {g : Nat} {cur cur' : Array Value} {e : TypeId} (h : Cells w g cur e) : Cells (w.setRow g cur') g cur' e ∧ Kept (fun k => k = g) w (w.setRow g cur') :=
  ⟨setRow_heap w g cur cur' e (0, 0) h, rfl, rfl, rfl, by simp [World.setRow], fun k hk hx => setRow_other w g k cur' hx⟩
/-- copy(s[i+1:], s[i:]) -/
theorem row_shift {t e ty : TypeId} (ht : Tryz.prog.underlying t = some (.slice e)) (hi : (Tryz.prog.info? e).map (fun i => (i.zero, i.size, i.bytes)) = some (some (.pointer none), 1, 8)) {w : World} {g cap : Nat} {cur : Array Value} {pre post : List Nat} {u : Value} (hu : u.oneCell' = true)
    (h : Cells w g cur e) (hcap : pre.length + post.length + 1 ≤ cap) (hs : cur.size = cap) (ht2 : cur.toList.take (pre.length + post.length + 1) = pre.map pt ++ (post.map pt ++ [u])) (o : Nat) (ho : 0 < post.length → o = pre.length + 1) (ho2 : o ≤ cap) (c1 c2 : Nat) :
    ∃ x w' cur', (Builtin.copy_ #[t, t] ty #[.slice (some ⟨g, o, none⟩) post.length c1, .slice (some ⟨g, pre.length, none⟩) (post.length + 1) c2]).run Tryz.prog w = .ok x w' ∧ Cells w' g cur' e ∧ Kept (fun k => k = g) w w' ∧ cur'.size = cap ∧
      cur'.toList.take pre.length = pre.map pt ∧ ∀ j (hj : j < post.length), cur'[pre.length + 1 + j]? = some (pt post[j]) := by
  obtain ⟨i, hi, hz, hsz, hb⟩ := info_ptr hi
  have hcell : ∀ k, k < pre.length + post.length + 1 → cur[k]? = (pre.map pt ++ (post.map pt ++ [u]))[k]? := fun k hk => by
    rw [← ht2, List.getElem?_take, if_pos hk, Array.getElem?_toList]
  have hsrc : ∀ j x, (post.map pt)[j]? = some x → w.cell? ((⟨g, pre.length, none⟩ : Addr).add j) = some x := by
    intro j x hx
    have hj : j < post.length := by have := (List.getElem?_eq_some_iff.1 hx).1; simpa using this
    rw [show (⟨g, pre.length, none⟩ : Addr).add j = ⟨g, pre.length + j, none⟩ by unfold Addr.add; split <;> simp_all]
    rw [h.cell, hcell _ (by omega), List.getElem?_append_right (by simp), List.length_map, show pre.length + j - pre.length = j by omega, List.getElem?_append_left (by simpa using hj)]
    exact hx
  have hrun := run_copy_row Tryz.prog w t t ty e g o post.length c1 ⟨g, pre.length, none⟩ (post.length + 1) c2 cur e (post.map pt) ht (by rw [hi]; simp [hsz]) h (by rw [List.length_map]; exact (Nat.min_eq_right (by omega)).symm) hsrc
    (by rw [List.length_map, hs]; rcases Nat.eq_zero_or_pos post.length with h0 | h0; omega; rw [ho h0]; omega) (by intro x hx; obtain ⟨y, _, rfl⟩ := List.mem_map.1 hx; rfl)
  have hr := cells_setRow (cur' := (cur.toList.take o ++ post.map pt ++ cur.toList.drop (o + (post.map pt).length)).toArray) h
  refine ⟨_, _, _, hrun, hr.1, hr.2, ?_, ?_, fun j hj => ?_⟩
  · have hl : cur.toList.length = cap := hs
    rcases Nat.eq_zero_or_pos post.length with h0 | h0
    · simp only [List.size_toArray, List.length_append, List.length_take, List.length_map, List.length_drop, hl]; omega
    · rw [ho h0]; simp only [List.size_toArray, List.length_append, List.length_take, List.length_map, List.length_drop, hl]; omega
  · have hp : cur.toList.take pre.length = pre.map pt := by
      have := congrArg (List.take pre.length) ht2
      rw [List.take_take, show min pre.length (pre.length + post.length + 1) = pre.length by omega, List.take_append_of_le_length (by simp), show List.take pre.length (pre.map pt) = pre.map pt from List.take_of_length_le (by simp)] at this
      exact this
    rcases Nat.eq_zero_or_pos post.length with h0 | h0
    · have hp0 : post = [] := List.length_eq_zero_iff.1 h0
      subst hp0
      simp only [List.map_nil, List.append_nil, List.length_nil, Nat.add_zero, List.take_append_drop]
      exact hp
    · rw [ho h0]
      show List.take pre.length (_ ++ _ ++ _) = _
      have hl : (cur.toList.take (pre.length + 1)).length = pre.length + 1 := by rw [List.length_take, show cur.toList.length = cap from hs]; omega
      rw [List.append_assoc, List.take_append_of_le_length (by omega), List.take_take, show min pre.length (pre.length + 1) = pre.length by omega, hp]
  · have h0 : 0 < post.length := by omega
    rw [ho h0]
    have hl : (cur.toList.take (pre.length + 1)).length = pre.length + 1 := by rw [List.length_take, show cur.toList.length = cap from hs]; omega
    rw [List.getElem?_toArray, List.append_assoc, List.getElem?_append_right (by omega), hl, show pre.length + 1 + j - (pre.length + 1) = j by omega, List.getElem?_append_left (by simpa using hj)]
    simp
/-- s[i] = p -/
theorem row_put {e : TypeId} {w : World} {g cap L : Nat} {cur : Array Value} {pre post : List Nat} (h : Cells w g (cur.setIfInBounds pre.length (pt L)) e) (hcap : pre.length + post.length + 1 ≤ cap) (hm : cap ≤ maxLen) (hs : cur.size = cap)
    (h1 : cur.toList.take pre.length = pre.map pt) (h2 : ∀ j (hj : j < post.length), cur[pre.length + 1 + j]? = some (pt post[j])) :
    OwnE encPt 1 e 0 w (.slice (some ⟨g, 0, none⟩) (pre ++ L :: post).length cap) (pre ++ L :: post) := by
  refine ⟨by simp [flat_pt], .inr ⟨g, cap, _, rfl, Nat.zero_le _, h, by rw [List.length_append, List.length_cons]; omega, hm, by rw [Array.size_setIfInBounds, hs, Nat.mul_one], ?_⟩⟩
  rw [flat_pt, Nat.mul_one]
  apply List.ext_getElem?
  intro k
  rw [List.getElem?_take, Array.getElem?_toList]
  by_cases hk : k < (pre ++ L :: post).length
  · rw [if_pos hk]
    rw [List.length_append, List.length_cons] at hk
    rcases Nat.lt_trichotomy k pre.length with hlt | heq | hgt
    · rw [Array.getElem?_setIfInBounds_ne (by omega), List.map_append, List.getElem?_append_left (by simpa using hlt), ← h1, List.getElem?_take, if_pos hlt, Array.getElem?_toList]
    · subst heq
      rw [Array.getElem?_setIfInBounds_self_of_lt (by omega), List.map_append, List.getElem?_append_right (by simp)]
      simp
    · obtain ⟨j, rfl⟩ : ∃ j, k = pre.length + 1 + j := ⟨k - pre.length - 1, by omega⟩
      rw [Array.getElem?_setIfInBounds_ne (by omega), h2 j (by omega), List.map_append, List.getElem?_append_right (by simp; omega), List.length_map, show pre.length + 1 + j - pre.length = j + 1 by omega]
      simp [List.getElem?_eq_getElem (show j < post.length by omega)]
  · rw [if_neg hk, List.getElem?_eq_none (by simpa using hk)]
end Go.Proofs.YtepldjidkomclaaGreat.Bo
namespace Go.Proofs.YtepldjidkomclaaGreat.Bo
set_option linter.unusedSimpArgs false
set_option linter.unusedVariables false
open Go.RowKit

/-- What push comes to. -/
def Pushed (w : World) (L : Nat) (p : Int) (es : List (Nat × Nat)) (i : Nat) (e : Ending) (w' : World) : Prop :=
  ∃ E, e = .returned (pt E) ∧ w.heap.size ≤ E ∧ Lst w' L p (es ++ [(E, i)]) ∧ Kept (Lst.foot L es) w w'

theorem el_new (b : Nat) (w : World) (h : w.heap.size = b) (o : Obj) : (w.alloc o).heap[b]? = some o := by subst h; exact heap_alloc_new w o

set_option maxRecDepth 100000 in
set_option maxHeartbeats 2000000 in
theorem push_calls (w : World) (L : Nat) (p : Int) (es : List (Nat × Nat)) (i : Nat) (h : Lst w L p es) (hlen : es.length ≤ 1000000000) :
    Calls Tryz.prog 108 #[.pointer (some ⟨L, 1, none⟩), pt i] w (Pushed w L p es i) := by
  rcases snoc_cases es with rfl | ⟨M, q, rfl⟩
  · have hc := h.c
    have hL := hc.lt
    have c1 : w.cell? ⟨L, 1, none⟩ = some (.pointer none) := by rw [hc.cell]; rfl
    have c2 : w.cell? ⟨L, 2, none⟩ = some (.pointer none) := by rw [hc.cell]; rfl
    have c3 : w.cell? ⟨L, 3, none⟩ = some (.int .i64 0) := by rw [hc.cell]; rfl
    have f1 : w.frozen? ⟨L, 1, none⟩ = false := hc.frozen 1
    have f2 : w.frozen? ⟨L, 2, none⟩ = false := hc.frozen 2
    have f3 : w.frozen? ⟨L, 3, none⟩ = false := hc.frozen 3
    have H := hid h
    have HC := hid hc
    clear h hc
    go_enter Tryz.func108, Tryz.ntmps108
    go_wp2
    go_ret
    have h1 := (((HC.out.set 1 (pt w.heap.size)).set 2 (pt w.heap.size)).set 3 (.int .i64 1)).alloc (.cells #[.pointer none, .pointer none, pt i] 148)
    have h2 := Cells.new (((w.setCell ⟨L, 1, none⟩ (pt w.heap.size)).setCell ⟨L, 2, none⟩ (pt w.heap.size)).setCell ⟨L, 3, none⟩ (.int .i64 1)) #[.pointer none, .pointer none, pt i] 148
    rw [size_setCell, size_setCell, size_setCell] at h2
    have hk : Kept (Lst.foot L []) w ((((w.setCell ⟨L, 1, none⟩ (pt w.heap.size)).setCell ⟨L, 2, none⟩ (pt w.heap.size)).setCell ⟨L, 3, none⟩ (.int .i64 1)).alloc (.cells #[.pointer none, .pointer none, pt i] 148)) :=
      ((((Kept.refl _ w).set (C := L) (.inl rfl) 1 _).set (C := L) (.inl rfl) 2 _).set (C := L) (.inl rfl) 3 _).alloc _
    exact ⟨_, rfl, Nat.le_refl _, Lst.push0 h1 h2, hk⟩
  · have hc := h.c
    have hL := hc.lt
    obtain ⟨d1, d2⟩ := DL.split.1 h.l
    have hq : Cells w q.1 #[op (lastO M none), .pointer none, pt q.2] 148 := d2.1
    have hqL : q.1 ≠ L := hq.ne hc (by decide)
    have c1 : w.cell? ⟨L, 1, none⟩ = some (op (headO (M ++ [q]) none)) := by rw [hc.cell]; rfl
    have c2 : w.cell? ⟨L, 2, none⟩ = some (.pointer (some ⟨q.1, 0, none⟩)) := by rw [hc.cell, lastO_snoc]; rfl
    have c3 : w.cell? ⟨L, 3, none⟩ = some (.int .i64 (M ++ [q]).length) := by rw [hc.cell]; rfl
    have q1 : w.cell? ⟨q.1, 1, none⟩ = some (.pointer none) := by rw [hq.cell]; rfl
    obtain ⟨u1, c1⟩ : ∃ u, w.cell? ⟨L, 1, none⟩ = some u := ⟨_, c1⟩
    have hql := hq.lt
    have f1 : w.frozen? ⟨L, 2, none⟩ = false := hc.frozen 2
    have f2 : w.frozen? ⟨L, 3, none⟩ = false := hc.frozen 3
    have f3 : w.frozen? ⟨q.1, 1, none⟩ = false := hq.frozen 1
    have H := hid h
    have HC := hid hc
    have HQ := hid hq
    clear h hc hq d1 d2
    have hn : (M ++ [q]).length = M.length + 1 := by simp
    generalize hz : (M ++ [q]).length = z at *
    obtain ⟨Q, it⟩ := q
    simp only at c2 q1 hqL hql f3
    go_enter Tryz.func108, Tryz.ntmps108
    go_wp2
    go_ret
    have hz' : (M.length : Int) + 1 + 1 = ((M ++ [(Q, it)]).length : Int) + 1 := by rw [hz]; omega
    rw [hz']
    have h1 := (((HC.out.set_far 1 (pt w.heap.size) (C := Q) (Ne.symm hqL)).set 2 (pt w.heap.size)).set 3 (.int .i64 (((M ++ [(Q, it)]).length : Int) + 1))).alloc (.cells #[pt Q, .pointer none, pt i] 148)
    have h3 := (((HQ.out.set 1 (pt w.heap.size)).set_far 2 (pt w.heap.size) (C := L) hqL).set_far 3 (.int .i64 (((M ++ [(Q, it)]).length : Int) + 1)) (C := L) hqL).alloc (.cells #[pt Q, .pointer none, pt i] 148)
    have h2 := Cells.new (((w.setCell ⟨Q, 1, none⟩ (pt w.heap.size)).setCell ⟨L, 2, none⟩ (pt w.heap.size)).setCell ⟨L, 3, none⟩ (.int .i64 (((M ++ [(Q, it)]).length : Int) + 1))) #[pt Q, .pointer none, pt i] 148
    rw [size_setCell, size_setCell, size_setCell] at h2
    have hk : Kept (fun k => k = L ∨ k = Q) w ((((w.setCell ⟨Q, 1, none⟩ (pt w.heap.size)).setCell ⟨L, 2, none⟩ (pt w.heap.size)).setCell ⟨L, 3, none⟩ (.int .i64 (((M ++ [(Q, it)]).length : Int) + 1))).alloc (.cells #[pt Q, .pointer none, pt i] 148)) :=
      ((((Kept.refl _ w).set (C := Q) (.inr rfl) 1 _).set (C := L) (.inl rfl) 2 _).set (C := L) (.inl rfl) 3 _).alloc _
    refine ⟨_, rfl, Nat.le_refl _, Lst.push1 H.out (Nat.le_refl _) hk h1 h2 h3, hk.mono fun k hk => ?_⟩
    rcases hk with rfl | rfl
    · exact .inl rfl
    · exact .inr (by simp)

/-- What remove comes to. -/
def Removed (w : World) (L : Nat) (p : Int) (es : List (Nat × Nat)) (es' : List (Nat × Nat)) (e : Ending) (w' : World) : Prop :=
  e = .returned (.tuple #[]) ∧ Lst w' L p es' ∧ Kept (Lst.foot L es) w w'
theorem Removed.mk {w w' : World} {L : Nat} {p : Int} {pre post : List (Nat × Nat)} {x : Nat × Nat} (h : Lst w L p (pre ++ x :: post)) (hk : Kept (fun k => k = L ∨ k = x.1 ∨ some k = lastO pre none ∨ some k = headO post none) w w')
    (h1 : Cells w' L #[.int .i64 p, op (headO (pre ++ post) none), op (lastO (pre ++ post) none), .int .i64 ((pre ++ post).length)] 146)
    (h2 : ∀ M q, pre = M ++ [q] → Cells w' q.1 #[op (lastO M none), op (headO post none), pt q.2] 148)
    (h3 : ∀ q M, post = q :: M → Cells w' q.1 #[op (lastO pre none), op (headO M none), pt q.2] 148) : Removed w L p (pre ++ x :: post) (pre ++ post) (.returned (.tuple #[])) w' := by
  refine ⟨rfl, h.cut hk h1 h2 h3, hk.mono fun k hk => ?_⟩
  rcases hk with rfl | rfl | hk | hk
  · exact .inl rfl
  · exact .inr (by simp)
  · rcases snoc_cases pre with rfl | ⟨M, q, rfl⟩
    · cases hk
    · rw [lastO_snoc] at hk
      injection hk with hk
      exact .inr (by simp [hk])
  · cases post with
    | nil => cases hk
    | cons q M =>
      injection hk with hk
      exact .inr (by simp [hk])

set_option maxRecDepth 100000 in
set_option maxHeartbeats 4000000 in
theorem remove_calls (w : World) (L : Nat) (p : Int) (pre post : List (Nat × Nat)) (x : Nat × Nat) (h : Lst w L p (pre ++ x :: post)) (hlen : (pre ++ x :: post).length ≤ 1000000000) :
    Calls Tryz.prog 92 #[.pointer (some ⟨L, 1, none⟩), pt x.1] w (Removed w L p (pre ++ x :: post) (pre ++ post)) := by
  obtain ⟨X, it⟩ := x
  have hc := h.c
  have hL := hc.lt
  obtain ⟨d1, d2⟩ := DL.split.1 h.l
  have hx : Cells w X #[op (lastO pre none), op (headO post none), pt it] 148 := d2.1
  have hxL : X ≠ L := hx.ne hc (by decide)
  have hXl := hx.lt
  have hn := h.n
  rw [List.map_append, List.map_cons] at hn
  obtain ⟨n1, n2, n3⟩ := List.nodup_append.1 hn
  obtain ⟨n4, n5⟩ := List.nodup_cons.1 n2
  have l1 : w.cell? ⟨L, 1, none⟩ = some (op (headO (pre ++ (X, it) :: post) none)) := by rw [hc.cell]; rfl
  have l2 : w.cell? ⟨L, 2, none⟩ = some (op (lastO (pre ++ (X, it) :: post) none)) := by rw [hc.cell]; rfl
  have l3 : w.cell? ⟨L, 3, none⟩ = some (.int .i64 (pre ++ (X, it) :: post).length) := by rw [hc.cell]; rfl
  obtain ⟨u1, l1⟩ : ∃ u, w.cell? ⟨L, 1, none⟩ = some u := ⟨_, l1⟩
  obtain ⟨u2, l2⟩ : ∃ u, w.cell? ⟨L, 2, none⟩ = some u := ⟨_, l2⟩
  have f1 : w.frozen? ⟨L, 1, none⟩ = false := hc.frozen 1
  have f2 : w.frozen? ⟨L, 2, none⟩ = false := hc.frozen 2
  have f3 : w.frozen? ⟨L, 3, none⟩ = false := hc.frozen 3
  have f4 : w.frozen? ⟨X, 0, none⟩ = false := hx.frozen 0
  have f5 : w.frozen? ⟨X, 1, none⟩ = false := hx.frozen 1
  have x0 : w.cell? ⟨X, 0, none⟩ = some (op (lastO pre none)) := by rw [hx.cell]; rfl
  have x1 : w.cell? ⟨X, 1, none⟩ = some (op (headO post none)) := by rw [hx.cell]; rfl
  have hz : ((pre ++ (X, it) :: post).length : Int) = ((pre ++ post).length : Int) + 1 := by simp; omega
  rw [hz] at l3
  have hlen' : (pre ++ post).length ≤ 1000000000 := by simp only [List.length_append, List.length_cons] at hlen ⊢; omega
  have H := hid h
  have HC := hid hc
  have HX := hid hx
  have HN3 := hid n3
  have HN4 := hid n4
  clear hn n1 n2 n3 n4 n5 h hc hx hz hlen
  generalize hR : Removed w L p (pre ++ (X, it) :: post) (pre ++ post) = R
  have HR := hid hR
  clear hR
  generalize ha : (pre ++ post).length = a at *
  have HA := hid ha
  clear ha
  rcases snoc_cases pre with rfl | ⟨M, ⟨Q, qi⟩, rfl⟩ <;> rcases post with _ | ⟨⟨Z, zi⟩, post⟩
  · clear d1 d2
    simp only [headO, lastO, op] at x0 x1
    go_enter Tryz.func92, Tryz.ntmps92
    go_wp2
    go_end0
    have hR := HR.out
    subst hR
    have ha := HA.out
    refine Removed.mk (pre := []) (post := []) H.out ?_ ?_ (fun M q e => absurd e (by simp)) (fun q M e => absurd e (by simp))
    · exact ((((((Kept.refl _ w).set (C := L) (.inl rfl) 1 _).set (C := L) (.inl rfl) 2 _).set (C := X) (.inr (.inl rfl)) 0 _).set (C := X) (.inr (.inl rfl)) 1 _).set (C := L) (.inl rfl) 3 _)
    · rw [ha]
      have h1 := ((((HC.out.set 1 (.pointer none)).set 2 (.pointer none)).set_far 0 (.pointer none) (Ne.symm hxL)).set_far 1 (.pointer none) (Ne.symm hxL)).set 3 (.int .i64 a)
      exact h1
  · have hz : Cells w Z #[pt X, op (headO post none), pt zi] 148 := d2.2.1
    clear d1 d2
    have hzl := hz.lt
    have z0 : w.cell? ⟨Z, 0, none⟩ = some (pt X) := by rw [hz.cell]; rfl
    have fz : w.frozen? ⟨Z, 0, none⟩ = false := hz.frozen 0
    have hZL : Z ≠ L := hz.ne HC.out (by decide)
    have hZX : Z ≠ X := fun e => HN4.out (by simp [e])
    have HZ := hid hz
    clear hz
    simp only [headO, lastO, op] at x0 x1
    go_enter Tryz.func92, Tryz.ntmps92
    go_wp2
    go_region
    go_wp2
    go_end0
    have hR := HR.out
    subst hR
    have ha := HA.out
    refine Removed.mk (pre := []) (post := (Z, zi) :: post) H.out ?_ ?_ (fun M q e => absurd e (by simp)) (fun q M e => ?_)
    · exact ((((((Kept.refl _ w).set (C := L) (.inl rfl) 1 _).set (C := Z) (.inr (.inr (.inr rfl))) 0 _).set (C := X) (.inr (.inl rfl)) 0 _).set (C := X) (.inr (.inl rfl)) 1 _).set (C := L) (.inl rfl) 3 _).drew
    · rw [ha]
      have h1 := (((((HC.out.set 1 (pt Z)).set_far 0 (.pointer none) (Ne.symm hZL)).set_far 0 (.pointer none) (Ne.symm hxL)).set_far 1 (.pointer none) (Ne.symm hxL)).set 3 (.int .i64 a)).drew
      exact h1
    · obtain ⟨e1, e2⟩ := List.cons.inj e
      subst e1
      subst e2
      have h1 := (((((HZ.out.set_far 1 (pt Z) hZL).set 0 (.pointer none)).set_far 0 (.pointer none) hZX).set_far 1 (.pointer none) hZX).set_far 3 (.int .i64 a) hZL).drew
      exact h1
  · obtain ⟨e1, e2⟩ := DL.split.1 d1
    have hq : Cells w Q #[op (lastO M none), pt X, pt qi] 148 := e2.1
    clear d1 d2 e1 e2
    have hql := hq.lt
    have q1 : w.cell? ⟨Q, 1, none⟩ = some (pt X) := by rw [hq.cell]; rfl
    have fq : w.frozen? ⟨Q, 1, none⟩ = false := hq.frozen 1
    have hQL : Q ≠ L := hq.ne HC.out (by decide)
    have hQX : Q ≠ X := HN3.out Q (by simp) X (by simp)
    have HQ := hid hq
    clear hq
    simp only [headO, lastO_snoc, op] at x0 x1
    go_enter Tryz.func92, Tryz.ntmps92
    go_wp2
    go_region
    go_wp2
    go_end0
    have hR := HR.out
    subst hR
    have ha := HA.out
    refine Removed.mk (pre := M ++ [(Q, qi)]) (post := []) H.out ?_ ?_ (fun M' q e => ?_) (fun q M e => absurd e (by simp))
    · exact ((((((Kept.refl _ w).set (C := Q) (.inr (.inr (.inl (by rw [lastO_snoc])))) 1 _).set (C := L) (.inl rfl) 2 _).set (C := X) (.inr (.inl rfl)) 0 _).set (C := X) (.inr (.inl rfl)) 1 _).set (C := L) (.inl rfl) 3 _).drew
    · rw [ha, List.append_nil, lastO_snoc]
      have e : headO ((M ++ [(Q, qi)]) ++ [(X, it)]) none = headO (M ++ [(Q, qi)]) none := by cases M <;> rfl
      rw [← e]
      have h1 := (((((HC.out.set_far 1 (.pointer none) (Ne.symm hQL)).set 2 (pt Q)).set_far 0 (.pointer none) (Ne.symm hxL)).set_far 1 (.pointer none) (Ne.symm hxL)).set 3 (.int .i64 a)).drew
      exact h1
    · obtain ⟨e1, e2⟩ := List.append_inj' e rfl
      have e2 := (List.cons.inj e2).1
      subst e1
      subst e2
      have h1 := (((((HQ.out.set 1 (.pointer none)).set_far 2 (pt Q) hQL).set_far 0 (.pointer none) hQX).set_far 1 (.pointer none) hQX).set_far 3 (.int .i64 a) hQL).drew
      exact h1
  · obtain ⟨e1, e2⟩ := DL.split.1 d1
    have hq : Cells w Q #[op (lastO M none), pt X, pt qi] 148 := e2.1
    have hz : Cells w Z #[pt X, op (headO post none), pt zi] 148 := d2.2.1
    clear d1 d2 e1 e2
    have hql := hq.lt
    have hzl := hz.lt
    have q1 : w.cell? ⟨Q, 1, none⟩ = some (pt X) := by rw [hq.cell]; rfl
    have fq : w.frozen? ⟨Q, 1, none⟩ = false := hq.frozen 1
    have hQL : Q ≠ L := hq.ne HC.out (by decide)
    have hQX : Q ≠ X := HN3.out Q (by simp) X (by simp)
    have z0 : w.cell? ⟨Z, 0, none⟩ = some (pt X) := by rw [hz.cell]; rfl
    have fz : w.frozen? ⟨Z, 0, none⟩ = false := hz.frozen 0
    have hZL : Z ≠ L := hz.ne HC.out (by decide)
    have hZX : Z ≠ X := fun e => HN4.out (by simp [e])
    have hQZ : Q ≠ Z := HN3.out Q (by simp) Z (by simp)
    have HQ := hid hq
    have HZ := hid hz
    clear hq hz
    simp only [headO, lastO_snoc, op] at x0 x1
    go_enter Tryz.func92, Tryz.ntmps92
    go_wp2
    go_region
    go_wp2
    go_region
    go_wp2
    go_end0
    have hR := HR.out
    subst hR
    have ha := HA.out
    refine Removed.mk (pre := M ++ [(Q, qi)]) (post := (Z, zi) :: post) H.out ?_ ?_ (fun M' q e => ?_) (fun q M' e => ?_)
    · exact (((((((Kept.refl _ w).set (C := Q) (.inr (.inr (.inl (by rw [lastO_snoc])))) 1 _).set (C := Z) (.inr (.inr (.inr rfl))) 0 _).set (C := X) (.inr (.inl rfl)) 0 _).set (C := X) (.inr (.inl rfl)) 1 _).set (C := L) (.inl rfl) 3 _).drew).drew
    · rw [ha]
      have e : headO ((M ++ [(Q, qi)]) ++ (Z, zi) :: post) none = headO ((M ++ [(Q, qi)]) ++ (X, it) :: (Z, zi) :: post) none := by cases M <;> rfl
      have e2 : lastO ((M ++ [(Q, qi)]) ++ (Z, zi) :: post) none = lastO ((M ++ [(Q, qi)]) ++ (X, it) :: (Z, zi) :: post) none := by rw [lastO_app (M ++ [(Q, qi)]), lastO_app (M ++ [(Q, qi)])]; rfl
      rw [e, e2]
      have h1 := ((((((HC.out.set_far 1 (pt Z) (Ne.symm hQL)).set_far 0 (pt Q) (Ne.symm hZL)).set_far 0 (.pointer none) (Ne.symm hxL)).set_far 1 (.pointer none) (Ne.symm hxL)).set 3 (.int .i64 a)).drew).drew
      exact h1
    · obtain ⟨e1, e2⟩ := List.append_inj' e rfl
      have e2 := (List.cons.inj e2).1
      subst e1
      subst e2
      have h1 := ((((((HQ.out.set 1 (pt Z)).set_far 0 (pt Q) hQZ).set_far 0 (.pointer none) hQX).set_far 1 (.pointer none) hQX).set_far 3 (.int .i64 a) hQL).drew).drew
      exact h1
    · obtain ⟨e1, e2⟩ := List.cons.inj e
      subst e1
      subst e2
      rw [lastO_snoc]
      have h1 := ((((((HZ.out.set_far 1 (pt Z) (Ne.symm hQZ)).set 0 (pt Q)).set_far 0 (.pointer none) hZX).set_far 1 (.pointer none) hZX).set_far 3 (.int .i64 a) hZL).drew).drew
      exact h1
end Go.Proofs.YtepldjidkomclaaGreat.Bo
namespace Go.Proofs.YtepldjidkomclaaGreat.Ca
set_option linter.unusedSimpArgs false
set_option linter.unusedVariables false
open Go.RowKit
attribute [local go_sem] Oper.semAt_some
attribute [local go_sem ↓] Go.wp_at_zero Go.wp_at_succ

/-- A block whose first n cells are the ints of a function. -/
def Row (w : World) (g n : Nat) (f : Nat → Int) : Prop := ∃ cs, Cells w g cs 3 ∧ ∀ i, i < n → cs[i]? = some (Value.int .i64 (f i))
theorem Row.cell {w : World} {g n : Nat} {f : Nat → Int} (h : Row w g n f) {i : Nat} (hi : i < n) : w.cell? ⟨g, i, none⟩ = some (.int .i64 (f i)) := by
  obtain ⟨cs, hc, hz⟩ := h
  rw [hc.cell]; exact hz i hi
theorem Row.froz {w : World} {g n : Nat} {f : Nat → Int} (h : Row w g n f) (i : Nat) : w.frozen? ⟨g, i, none⟩ = false := by
  obtain ⟨cs, hc, _⟩ := h
  exact hc.frozen i
theorem Row.lt {w : World} {g n : Nat} {f : Nat → Int} (h : Row w g n f) : g < w.heap.size := by
  obtain ⟨cs, hc, _⟩ := h
  exact hc.lt
theorem Row.set {w : World} {g n : Nat} {f : Nat → Int} (h : Row w g n f) (i : Nat) (v : Int) : Row (w.setCell ⟨g, i, none⟩ (.int .i64 v)) g n (fun k => if k = i then v else f k) := by
  obtain ⟨cs, hc, hz⟩ := h
  refine ⟨_, hc.set i _, fun k hk => ?_⟩
  have hlt := (Array.getElem?_eq_some_iff.1 (hz k hk)).1
  by_cases e : k = i
  · subst e
    simp only [if_true]
    rw [Array.getElem?_setIfInBounds_self_of_lt hlt]
  · simp only [if_neg e]
    rw [Array.getElem?_setIfInBounds_ne (fun h => e h.symm)]
    exact hz k hk
theorem Row.kept {X : Nat → Prop} {w w' : World} {g n : Nat} {f : Nat → Int} (h : Row w g n f) (hk : Kept X w w') (hx : ¬ X g) : Row w' g n f := by
  obtain ⟨cs, hc, hz⟩ := h
  exact ⟨cs, hc.kept hk hx, hz⟩
theorem Row.below {w w' : World} {g n : Nat} {f : Nat → Int} (h : Row w g n f) (hb : Below w.heap.size w w') : Row w' g n f := by
  obtain ⟨cs, hc, hz⟩ := h
  exact ⟨cs, hc.below hb hc.lt, hz⟩
theorem Row.drewN {w : World} {g n : Nat} {f : Nat → Int} (h : Row w g n f) (k : Nat) : Row (w.drewN k) g n f := h
theorem Row.drew {w : World} {g n : Nat} {f : Nat → Int} (h : Row w g n f) : Row w.drew g n f := h
theorem Row.congr {w : World} {g n : Nat} {f f' : Nat → Int} (h : Row w g n f) (e : ∀ i, i < n → f' i = f i) : Row w g n f' := by
  obtain ⟨cs, hc, hz⟩ := h
  exact ⟨cs, hc, fun i hi => by rw [e i hi]; exact hz i hi⟩
/-- Two places exchanged. -/
def swp1 (f : Nat → Int) (i j : Nat) : Nat → Int := fun k => if k = j then f i else if k = i then f j else f k
theorem Row.swap {w : World} {g n : Nat} {f : Nat → Int} (h : Row w g n f) (i j : Nat) : Row ((w.setCell ⟨g, i, none⟩ (.int .i64 (f j))).setCell ⟨g, j, none⟩ (.int .i64 (f i))) g n (swp1 f i j) :=
  (h.set i (f j)).set j (f i)
/-- Two ranges exchanged. -/
def swp (f : Nat → Int) (a b n : Nat) : Nat → Int := fun k => if a ≤ k ∧ k < a + n then f (k - a + b) else if b ≤ k ∧ k < b + n then f (k - b + a) else f k
theorem swp_zero (f : Nat → Int) (a b : Nat) : swp f a b 0 = f := by
  funext k
  unfold swp
  rw [if_neg (by omega), if_neg (by omega)]
theorem swp_succ (f : Nat → Int) {a b n N : Nat} (hn : n < N) (hab : a + N ≤ b) : swp1 (swp f a b n) (a + n) (b + n) = swp f a b (n + 1) := by
  funext k
  unfold swp1
  by_cases h1 : k = b + n
  · subst h1
    rw [if_pos rfl]
    unfold swp
    rw [if_neg (by omega), if_neg (by omega), if_neg (by omega), if_pos (by omega)]
    congr 1; omega
  · rw [if_neg h1]
    by_cases h2 : k = a + n
    · subst h2
      rw [if_pos rfl]
      unfold swp
      rw [if_neg (by omega), if_neg (by omega), if_pos (by omega)]
      congr 1; omega
    · rw [if_neg h2]
      unfold swp
      by_cases h3 : a ≤ k ∧ k < a + n
      · rw [if_pos h3, if_pos (show a ≤ k ∧ k < a + (n + 1) by omega)]
      · rw [if_neg h3, if_neg (show ¬ (a ≤ k ∧ k < a + (n + 1)) by omega)]
        by_cases h4 : b ≤ k ∧ k < b + n
        · rw [if_pos h4, if_pos (show b ≤ k ∧ k < b + (n + 1) by omega)]
        · rw [if_neg h4, if_neg (show ¬ (b ≤ k ∧ k < b + (n + 1)) by omega)]

set_option maxRecDepth 100000 in
set_option maxHeartbeats 4000000 in
theorem swapRange_calls {w : World} {g L : Nat} {f : Nat → Int} (h : Row w g L f) (hL : L ≤ 1000000) {a b n : Nat} (hab : a + n ≤ b) (hb : b + n ≤ L) (cap : Nat) (fv : Value) :
    Calls Tryz.prog 136 #[.slice (some ⟨g, 0, none⟩) L cap, .int .i64 a, .int .i64 b, .int .i64 n, fv] w fun e w' => e = .returned (.tuple #[]) ∧ Row w' g L (swp f a b n) ∧ Kept (fun k => k = g) w w' := by
  obtain ⟨R, hR⟩ : ∃ R : Ending → World → Prop, R = fun e w' => e = .returned (.tuple #[]) ∧ Row w' g L (swp f a b n) ∧ Kept (fun k => k = g) w w' := ⟨_, rfl⟩
  have HR := hid hR
  rw [← hR]
  have H := hid h
  clear hR h
  go_enter Tryz.func136, Tryz.ntmps136
  go_wp2_with fail
  go_loopg [10] n (fun k s10 wr => ∃ i : Nat, s10 = .int .i64 i ∧ i ≤ n ∧ k = n - i ∧ Row wr g L (swp f a b i) ∧ Kept (fun k => k = g) w wr)
  case atStart => exact ⟨0, rfl, by omega, by omega, by rw [swp_zero]; exact H.out, Kept.refl _ _⟩
  case round =>
    obtain ⟨i, rfl, hi, hk, hr, kk⟩ := hrel
    have HK := hid hk
    have HRW := hid hr
    have KK := hid kk
    clear hk kk
    by_cases hin : i < n
    · have gi : (i : Int) < (n : Int) := by omega
      obtain ⟨p, hp⟩ : ∃ p, p = a + i := ⟨_, rfl⟩
      obtain ⟨q, hq⟩ : ∃ q, q = b + i := ⟨_, rfl⟩
      have ep : (a : Int) + (i : Int) = (p : Int) := by omega
      have eq : (b : Int) + (i : Int) = (q : Int) := by omega
      have ep2 : IntKind.i64.wrap ((a : Int) + (i : Int)) = (p : Int) := by rw [ep]; exact IntWalk.i64_in _ (by omega)
      have eq2 : IntKind.i64.wrap ((b : Int) + (i : Int)) = (q : Int) := by rw [eq]; exact IntWalk.i64_in _ (by omega)
      obtain ⟨u, hu⟩ : ∃ u, u = swp f a b i p := ⟨_, rfl⟩
      obtain ⟨v, hv⟩ : ∃ v, v = swp f a b i q := ⟨_, rfl⟩
      have c1 := hr.cell (i := p) (by omega)
      have c2 := hr.cell (i := q) (by omega)
      rw [← hu] at c1
      rw [← hv] at c2
      have f1 := hr.froz p
      have f2 := hr.froz q
      have hl := hr.lt
      have p0 : (0 : Int) ≤ (p : Int) := by omega
      have q0 : (0 : Int) ≤ (q : Int) := by omega
      have pL : (p : Int) < (L : Int) := by omega
      have qL : (q : Int) < (L : Int) := by omega
      have NX := hid (show ∀ wx, wx = (wr.setCell ⟨g, p, none⟩ (.int .i64 v)).setCell ⟨g, q, none⟩ (.int .i64 u) → Row wx g L (swp f a b (i + 1)) ∧ Kept (fun k => k = g) w wx by
        rintro wx rfl
        have h1 := HRW.out.swap p q
        rw [← hu, ← hv, hp, hq, swp_succ f hin hab] at h1
        rw [hp, hq]
        exact ⟨h1, (KK.out.set (C := g) rfl _ _).set (C := g) rfl _ _⟩)
      have hne : p ≠ q := by omega
      have hn6 : n ≤ 1000000 := by omega
      clear hu hv hp hq ep eq hr hab hb
      go_wp2_with fail
      go_region
      all_goals go_wp2
      all_goals (
        go_roundg (n - (i + 1))
        · exact ⟨i + 1, by go_num, by omega, by omega, (NX.out _ rfl).1.drew, (NX.out _ rfl).2.drew⟩
        · have := HK.out; omega)
    · have hin2 : i = n := by omega
      subst hin2
      have g3 : decide ((i : Int) < (i : Int)) = false := by simp
      have FN := hid (show R (.returned (.tuple #[])) wr by rw [HR.out]; exact ⟨rfl, HRW.out, KK.out⟩)
      clear hr
      go_wp2
      first | exact FN.out | (go_end0; exact FN.out)
end Go.Proofs.YtepldjidkomclaaGreat.Ca
namespace Go.Proofs.YtepldjidkomclaaGreat.Ca
set_option linter.unusedSimpArgs false
set_option linter.unusedVariables false
open Go.RowKit
attribute [local go_sem] Oper.semAt_some
attribute [local go_sem ↓] Go.wp_at_zero Go.wp_at_succ

/-- [a, m) and [m, b) change places. -/
def rotF (f : Nat → Int) (a m b : Nat) : Nat → Int := fun k => if a ≤ k ∧ k < a + (b - m) then f (k + (m - a)) else if a + (b - m) ≤ k ∧ k < b then f (k - (b - m)) else f k
/-- What is left to do: i elements ahead of m, j behind it. -/
structure RotI (h T : Nat → Int) (a m b i j : Nat) : Prop where
  far : ∀ k, k < m - i ∨ m + j ≤ k → T k = h k
  one : ∀ k, m - i ≤ k → k < m - i + j → T k = h (k + i)
  two : ∀ k, m - i + j ≤ k → k < m + j → T k = h (k - j)
  i1 : i ≤ m
  j1 : m + j ≤ b
theorem RotI.start (f : Nat → Int) {a m b : Nat} (h1 : a ≤ m) (h2 : m ≤ b) : RotI f (rotF f a m b) a m b (m - a) (b - m) := by
  refine ⟨fun k hk => ?_, fun k ha hb => ?_, fun k ha hb => ?_, by omega, by omega⟩
  · unfold rotF; rw [if_neg (by omega), if_neg (by omega)]
  · unfold rotF; rw [if_pos (by omega)]
  · unfold rotF; rw [if_neg (by omega), if_pos (by omega)]
theorem RotI.left {h T : Nat → Int} {a m b i j : Nat} (r : RotI h T a m b i j) (hij : j < i) : RotI (swp h (m - i) m j) T a m b (i - j) j := by
  have := r.i1
  have := r.j1
  refine ⟨fun k hk => ?_, fun k ha hb => ?_, fun k ha hb => ?_, by omega, by omega⟩
  · unfold swp
    by_cases h1 : m - i ≤ k ∧ k < m - i + j
    · rw [if_pos h1, r.one k h1.1 h1.2]
      congr 1; omega
    · rw [if_neg h1, if_neg (show ¬ (m ≤ k ∧ k < m + j) by omega)]
      exact r.far k (by omega)
  · unfold swp
    by_cases h2 : m - i ≤ k + (i - j) ∧ k + (i - j) < m - i + j
    · omega
    · rw [if_neg h2]
      by_cases h3 : m ≤ k + (i - j) ∧ k + (i - j) < m + j
      · rw [if_pos h3, r.two k (by omega) (by omega)]
        congr 1; omega
      · rw [if_neg h3, r.two k (by omega) (by omega)]
        congr 1; omega
  · unfold swp
    rw [if_neg (show ¬ (m - i ≤ k - j ∧ k - j < m - i + j) by omega), if_neg (show ¬ (m ≤ k - j ∧ k - j < m + j) by omega), r.two k (by omega) (by omega)]
theorem RotI.right {h T : Nat → Int} {a m b i j : Nat} (r : RotI h T a m b i j) (hij : i < j) : RotI (swp h (m - i) (m + j - i) i) T a m b i (j - i) := by
  have := r.i1
  have := r.j1
  refine ⟨fun k hk => ?_, fun k ha hb => ?_, fun k ha hb => ?_, by omega, by omega⟩
  · unfold swp
    rw [if_neg (show ¬ (m - i ≤ k ∧ k < m - i + i) by omega)]
    by_cases h1 : m + j - i ≤ k ∧ k < m + j - i + i
    · rw [if_pos h1, r.two k (by omega) (by omega)]
      congr 1; omega
    · rw [if_neg h1]
      exact r.far k (by omega)
  · unfold swp
    by_cases h1 : m - i ≤ k + i ∧ k + i < m - i + i
    · omega
    · rw [if_neg h1, if_neg (show ¬ (m + j - i ≤ k + i ∧ k + i < m + j - i + i) by omega), r.one k (by omega) (by omega)]
  · unfold swp
    rw [if_pos (show m - i ≤ k - (j - i) ∧ k - (j - i) < m - i + i by omega), r.one k (by omega) (by omega)]
    congr 1; omega
theorem RotI.done {h T : Nat → Int} {a m b i : Nat} (r : RotI h T a m b i i) : ∀ k, swp h (m - i) m i k = T k := by
  have := r.i1
  have := r.j1
  intro k
  unfold swp
  by_cases h1 : m - i ≤ k ∧ k < m - i + i
  · rw [if_pos h1, r.one k (by omega) (by omega)]
    congr 1; omega
  · rw [if_neg h1]
    by_cases h2 : m ≤ k ∧ k < m + i
    · rw [if_pos h2, r.two k (by omega) (by omega)]
      congr 1; omega
    · rw [if_neg h2, r.far k (by omega)]

set_option maxRecDepth 100000 in
set_option maxHeartbeats 4000000 in
theorem rotate_calls {w : World} {g L : Nat} {f : Nat → Int} (h : Row w g L f) (hL : L ≤ 1000000) {a m b : Nat} (h1 : a < m) (h2 : m < b) (hb : b ≤ L) (cap : Nat) (fv : Value) :
    Calls Tryz.prog 128 #[.slice (some ⟨g, 0, none⟩) L cap, .int .i64 a, .int .i64 m, .int .i64 b, fv] w fun e w' => e = .returned (.tuple #[]) ∧ Row w' g L (rotF f a m b) ∧ Kept (fun k => k = g) w w' := by
  obtain ⟨R, hR⟩ : ∃ R : Ending → World → Prop, R = fun e w' => e = .returned (.tuple #[]) ∧ Row w' g L (rotF f a m b) ∧ Kept (fun k => k = g) w w' := ⟨_, rfl⟩
  have HR := hid hR
  rw [← hR]
  have H := hid h
  obtain ⟨i0, hi0⟩ : ∃ i0, i0 = m - a := ⟨_, rfl⟩
  obtain ⟨j0, hj0⟩ : ∃ j0, j0 = b - m := ⟨_, rfl⟩
  have R0 := hid (RotI.start f (Nat.le_of_lt h1) (Nat.le_of_lt h2))
  rw [← hi0, ← hj0] at R0
  have e1 : IntKind.i64.wrap ((m : Int) - (a : Int)) = (i0 : Int) := by rw [show (m : Int) - (a : Int) = (i0 : Int) by omega]; exact IntWalk.i64_in _ (by omega)
  have e2 : IntKind.i64.wrap ((b : Int) - (m : Int)) = (j0 : Int) := by rw [show (b : Int) - (m : Int) = (j0 : Int) by omega]; exact IntWalk.i64_in _ (by omega)
  have hm6 : m ≤ 1000000 := by omega
  have hij : i0 + j0 ≤ 1000000 := by omega
  have hi1 : 1 ≤ i0 := by omega
  have hj1 : 1 ≤ j0 := by omega
  have HB := hid hb
  clear hR h hi0 hj0 h1 h2 hb
  go_enter Tryz.func128, Tryz.ntmps128
  go_wp2_with fail
  go_loopg [10, 11] (i0 + j0) (fun k s10 s11 wr => ∃ (i j : Nat) (h : Nat → Int), s10 = .int .i64 i ∧ s11 = .int .i64 j ∧ i + j = k ∧ k ≤ 1000000 ∧ 1 ≤ i ∧ 1 ≤ j ∧ RotI h (rotF f a m b) a m b i j ∧ Row wr g L h ∧ Kept (fun k => k = g) w wr)
  case atStart => exact ⟨i0, j0, f, by go_num, by go_num, rfl, hij, hi1, hj1, R0.out, H.out, Kept.refl _ _⟩
  case round =>
    obtain ⟨i, j, h, rfl, rfl, hk, hk6, i1, j1, ri, hr, kk⟩ := hrel
    have RI := hid ri
    have HRW := hid hr
    have KK := hid kk
    have HK := hid hk
    have him := ri.i1
    have hjb := ri.j1
    have hbL := HB.out
    clear ri hr kk e1 e2
    by_cases hij2 : i = j
    · subst hij2
      have g1 : ((i : Int) != (i : Int)) = false := by simp
      obtain ⟨p, hp⟩ : ∃ p, p = m - i := ⟨_, rfl⟩
      have ep : IntKind.i64.wrap ((m : Int) - (i : Int)) = (p : Int) := by rw [show (m : Int) - (i : Int) = (p : Int) by omega]; exact IntWalk.i64_in _ (by omega)
      have SW := hid (swapRange_calls HRW.out hL (a := p) (b := m) (n := i) (by omega) (by omega) cap fv)
      have HP := hid hp
      clear hp hk
      go_wp2_with fail
      refine SW.out.mono ?_
      rintro e w2 ⟨rfl, hr2, hk2⟩
      have FN := hid (show R (.returned (.tuple #[])) w2 by
        rw [HR.out]
        refine ⟨rfl, hr2.congr fun k _ => ?_, KK.out.trans hk2 (fun _ _ e => e)⟩
        rw [HP.out]
        exact (RI.out.done k).symm)
      clear hr2 hk2
      go_wp2
      first | exact FN.out | (go_end0; exact FN.out)
    · have g1 : ((i : Int) != (j : Int)) = true := by simp; omega
      by_cases hlt : j < i
      · have g2 : decide ((j : Int) < (i : Int)) = true := by simp; omega
        obtain ⟨p, hp⟩ : ∃ p, p = m - i := ⟨_, rfl⟩
        obtain ⟨i2, hi2⟩ : ∃ i2, i2 = i - j := ⟨_, rfl⟩
        have ep : IntKind.i64.wrap ((m : Int) - (i : Int)) = (p : Int) := by rw [show (m : Int) - (i : Int) = (p : Int) by omega]; exact IntWalk.i64_in _ (by omega)
        have ei : IntKind.i64.wrap ((i : Int) - (j : Int)) = (i2 : Int) := by rw [show (i : Int) - (j : Int) = (i2 : Int) by omega]; exact IntWalk.i64_in _ (by omega)
        have SW := hid (swapRange_calls HRW.out hL (a := p) (b := m) (n := j) (by omega) (by omega) cap fv)
        have LF := hid (RI.out.left hlt)
        rw [← hp, ← hi2] at LF
        have hi2k : i2 + j < i + j := by omega
        have hi21 : 1 ≤ i2 := by omega
        have hi6 : i2 + j ≤ 1000000 := by omega
        clear hp hi2 hk
        go_wp2_with fail
        refine SW.out.mono ?_
        rintro e w2 ⟨rfl, hr2, hk2⟩
        have R2 := hid hr2
        have K2 := hid (KK.out.trans hk2 (fun _ _ e => e))
        clear hr2 hk2
        go_wp2
        go_roundg (i2 + j)
        · exact ⟨i2, j, _, rfl, rfl, rfl, hi6, hi21, j1, LF.out, R2.out, K2.out⟩
        · have := HK.out; omega
      · have g2 : decide ((j : Int) < (i : Int)) = false := by simp; omega
        obtain ⟨p, hp⟩ : ∃ p, p = m - i := ⟨_, rfl⟩
        obtain ⟨q, hq⟩ : ∃ q, q = m + j := ⟨_, rfl⟩
        obtain ⟨q2, hq2⟩ : ∃ q2, q2 = m + j - i := ⟨_, rfl⟩
        obtain ⟨j2, hj2⟩ : ∃ j2, j2 = j - i := ⟨_, rfl⟩
        have ep : IntKind.i64.wrap ((m : Int) - (i : Int)) = (p : Int) := by rw [show (m : Int) - (i : Int) = (p : Int) by omega]; exact IntWalk.i64_in _ (by omega)
        have eq : IntKind.i64.wrap ((m : Int) + (j : Int)) = (q : Int) := by rw [show (m : Int) + (j : Int) = (q : Int) by omega]; exact IntWalk.i64_in _ (by omega)
        have eq2 : IntKind.i64.wrap ((q : Int) - (i : Int)) = (q2 : Int) := by rw [show (q : Int) - (i : Int) = (q2 : Int) by omega]; exact IntWalk.i64_in _ (by omega)
        have ej : IntKind.i64.wrap ((j : Int) - (i : Int)) = (j2 : Int) := by rw [show (j : Int) - (i : Int) = (j2 : Int) by omega]; exact IntWalk.i64_in _ (by omega)
        have SW := hid (swapRange_calls HRW.out hL (a := p) (b := q2) (n := i) (by omega) (by omega) cap fv)
        have RT := hid (RI.out.right (by omega))
        rw [← hp, ← hq2, ← hj2] at RT
        have hi2k : i + j2 < i + j := by omega
        have hj21 : 1 ≤ j2 := by omega
        have hi6 : i + j2 ≤ 1000000 := by omega
        clear hp hq hq2 hj2 hk
        go_wp2_with fail
        refine SW.out.mono ?_
        rintro e w2 ⟨rfl, hr2, hk2⟩
        have R2 := hid hr2
        have K2 := hid (KK.out.trans hk2 (fun _ _ e => e))
        clear hr2 hk2
        go_wp2
        go_roundg (i + j2)
        · exact ⟨i, j2, _, rfl, rfl, rfl, hi6, i1, hj21, RT.out, R2.out, K2.out⟩
        · have := HK.out; omega
end Go.Proofs.YtepldjidkomclaaGreat.Ca
namespace Go.Proofs.YtepldjidkomclaaGreat.Ca
set_option linter.unusedSimpArgs false
set_option linter.unusedVariables false
open Go.RowKit

/-- The elements from a to b. -/
def seg (f : Nat → Int) (a b : Nat) : List Int := (List.range (b - a)).map fun i => f (a + i)
theorem seg_len (f : Nat → Int) (a b : Nat) : (seg f a b).length = b - a := by simp [seg]
theorem seg_empty (f : Nat → Int) {a b : Nat} (h : b ≤ a) : seg f a b = [] := by
  have : b - a = 0 := by omega
  simp [seg, this]
theorem seg_get (f : Nat → Int) {a b i : Nat} (hi : i < (seg f a b).length) : (seg f a b)[i] = f (a + i) := by simp [seg]
theorem seg_congr {f f' : Nat → Int} {a b : Nat} (h : ∀ k, a ≤ k → k < b → f k = f' k) : seg f a b = seg f' a b := by
  unfold seg
  refine List.map_congr_left fun i hi => ?_
  rw [List.mem_range] at hi
  exact h _ (by omega) (by omega)
theorem seg_split (f : Nat → Int) {a m b : Nat} (h1 : a ≤ m) (h2 : m ≤ b) : seg f a b = seg f a m ++ seg f m b := by
  refine List.ext_getElem ?_ fun i hi hi' => ?_
  · rw [List.length_append, seg_len, seg_len, seg_len]; omega
  · rw [seg_len] at hi
    rw [seg_get]
    by_cases h : i < m - a
    · rw [List.getElem_append_left (by rw [seg_len]; exact h), seg_get]
    · rw [List.getElem_append_right (by rw [seg_len]; omega), seg_get]
      congr 1
      rw [seg_len]; omega
theorem seg_snoc (f : Nat → Int) {a b : Nat} (h : a ≤ b) : seg f a (b + 1) = seg f a b ++ [f b] := by
  rw [seg_split f h (Nat.le_succ b)]
  congr 1
  have : b + 1 - b = 1 := by omega
  simp [seg, this]
theorem seg_cons (f : Nat → Int) {a b : Nat} (h : a < b) : seg f a b = f a :: seg f (a + 1) b := by
  rw [seg_split f (Nat.le_succ a) h]
  have : a + 1 - a = 1 := by omega
  simp [seg, this]
theorem mem_seg {f : Nat → Int} {a b : Nat} {x : Int} : x ∈ seg f a b ↔ ∃ k, a ≤ k ∧ k < b ∧ x = f k := by
  unfold seg
  rw [List.mem_map]
  constructor
  · rintro ⟨i, hi, rfl⟩
    rw [List.mem_range] at hi
    exact ⟨a + i, by omega, by omega, rfl⟩
  · rintro ⟨k, h1, h2, rfl⟩
    exact ⟨k - a, by rw [List.mem_range]; omega, by congr 1; omega⟩
theorem seg_shift {f h : Nat → Int} {a b d : Nat} (e : ∀ k, a ≤ k → k < b → h (k + d) = f k) : seg h (a + d) (b + d) = seg f a b := by
  refine List.ext_getElem (by rw [seg_len, seg_len]; omega) fun i hi hi' => ?_
  rw [seg_len] at hi
  rw [seg_get, seg_get, ← e (a + i) (by omega) (by omega)]
  congr 1; omega
/-- Neighbours exchanged. -/
theorem seg_swap (f : Nat → Int) {a b j : Nat} (h1 : a ≤ j) (h2 : j + 1 < b) : (seg (swp1 f (j + 1) j) a b).Perm (seg f a b) := by
  have far : ∀ {x y : Nat}, (∀ k, x ≤ k → k < y → k ≠ j ∧ k ≠ j + 1) → seg (swp1 f (j + 1) j) x y = seg f x y := fun {x y} hk => seg_congr fun k h3 h4 => by
    have := hk k h3 h4
    unfold swp1
    rw [if_neg this.1, if_neg this.2]
  rw [seg_split _ h1 (show j ≤ b by omega), seg_split f h1 (show j ≤ b by omega), far (fun k h3 h4 => by omega)]
  refine List.Perm.append_left _ ?_
  rw [seg_cons _ (show j < b by omega), seg_cons _ (show j + 1 < b by omega), seg_cons f (show j < b by omega), seg_cons f (show j + 1 < b by omega), far (fun k h3 h4 => by omega)]
  have e1 : swp1 f (j + 1) j j = f (j + 1) := by unfold swp1; rw [if_pos rfl]
  have e2 : swp1 f (j + 1) j (j + 1) = f j := by unfold swp1; rw [if_neg (by omega), if_pos rfl]
  rw [e1, e2]
  exact List.Perm.swap _ _ _
section
variable {lt : Int → Int → Bool}
/-- A part is sorted. -/
def Srt (lt : Int → Int → Bool) (f : Nat → Int) (a b : Nat) : Prop := ∀ i j, a ≤ i → i < j → j < b → Tt lt (f i) (f j)
theorem Srt.seg {f : Nat → Int} {a b : Nat} (h : Srt lt f a b) : (seg f a b).Pairwise (Tt lt) := by
  rw [List.pairwise_iff_getElem]
  intro i j hi hj hij
  rw [seg_len] at hi hj
  rw [seg_get, seg_get]
  exact h _ _ (by omega) (by omega) (by omega)
theorem srt_of {f : Nat → Int} {a b : Nat} (h : (Go.Proofs.YtepldjidkomclaaGreat.Ca.seg f a b).Pairwise (Tt lt)) : Srt lt f a b := by
  rw [List.pairwise_iff_getElem] at h
  intro i j h1 h2 h3
  have := h (i - a) (j - a) (by rw [seg_len]; omega) (by rw [seg_len]; omega) (by omega)
  rw [seg_get, seg_get, show a + (i - a) = i by omega, show a + (j - a) = j by omega] at this
  exact this
theorem Srt.one (f : Nat → Int) (a : Nat) : Srt lt f a (a + 1) := fun i j h1 h2 h3 => by omega
theorem Srt.sub {f : Nat → Int} {a b c d : Nat} (h : Srt lt f a b) (h1 : a ≤ c) (h2 : d ≤ b) : Srt lt f c d := fun i j i1 i2 i3 => h i j (by omega) i2 (by omega)
theorem Srt.congr {f f' : Nat → Int} {a b : Nat} (h : Srt lt f a b) (e : ∀ k, a ≤ k → k < b → f' k = f k) : Srt lt f' a b := fun i j i1 i2 i3 => by
  rw [e i i1 (by omega), e j (by omega) i3]; exact h i j i1 i2 i3
/-- An insertion under way: y stands at j. -/
structure InsJ (lt : Int → Int → Bool) (f h : Nat → Int) (a i j : Nat) (y : Int) : Prop where
  ja : a ≤ j
  ji : j ≤ i
  at' : h j = y
  far : ∀ k, k < a ∨ i < k → h k = f k
  perm : (seg h a (i + 1)).Perm (seg f a (i + 1))
  rest : ∀ p q, a ≤ p → p < q → q ≤ i → p ≠ j → q ≠ j → Tt lt (h p) (h q)
  over : ∀ p, j < p → p ≤ i → lt y (h p) = true
  early : ∀ p, a ≤ p → p ≤ i → p ≠ j → h p < y
theorem InsJ.start {f : Nat → Int} {a i : Nat} (hi : a ≤ i) (hs : Srt lt f a i) (he : ∀ k, a ≤ k → k < i → f k < f i) : InsJ lt f f a i i (f i) :=
  ⟨hi, Nat.le_refl _, rfl, fun _ _ => rfl, List.Perm.refl _, fun p q h1 h2 h3 h4 h5 => hs p q h1 h2 (by omega), fun p h1 h2 => by omega, fun p h1 h2 h3 => he p h1 (by omega)⟩
theorem InsJ.step {f h : Nat → Int} {a i j : Nat} {y : Int} (r : InsJ lt f h a i (j + 1) y) (hj : a ≤ j) (hl : lt y (h j) = true) : InsJ lt f (swp1 h (j + 1) j) a i j y := by
  have hji := r.ji
  have e1 : swp1 h (j + 1) j j = y := by unfold swp1; rw [if_pos rfl]; exact r.at'
  have e2 : swp1 h (j + 1) j (j + 1) = h j := by unfold swp1; rw [if_neg (by omega), if_pos rfl]
  have e3 : ∀ k, k ≠ j → k ≠ j + 1 → swp1 h (j + 1) j k = h k := fun k h1 h2 => by unfold swp1; rw [if_neg h1, if_neg h2]
  refine ⟨hj, by omega, e1, fun k hk => ?_, ?_, fun p q h1 h2 h3 h4 h5 => ?_, fun p h1 h2 => ?_, fun p h1 h2 h3 => ?_⟩
  · rw [e3 k (by omega) (by omega)]; exact r.far k hk
  · exact (seg_swap h hj (by omega)).trans r.perm
  · by_cases hp : p = j + 1
    · subst hp
      rw [e2, e3 q h5 (by omega)]
      exact r.rest j q hj (by omega) h3 (by omega) (by omega)
    · rw [e3 p h4 hp]
      by_cases hq : q = j + 1
      · subst hq
        rw [e2]
        exact r.rest p j h1 (by omega) (by omega) (by omega) (by omega)
      · rw [e3 q h5 hq]
        exact r.rest p q h1 h2 h3 hp hq
  · by_cases hp : p = j + 1
    · subst hp; rw [e2]; exact hl
    · rw [e3 p (by omega) hp]
      exact r.over p (by omega) h2
  · by_cases hp : p = j + 1
    · subst hp; rw [e2]; exact r.early j hj (by omega) (by omega)
    · rw [e3 p h3 hp]; exact r.early p h1 h2 hp
theorem InsJ.done (hlt : Swo lt) {f h : Nat → Int} {a i j : Nat} {y : Int} (r : InsJ lt f h a i j y) (hd : j = a ∨ lt y (h (j - 1)) = false) : Srt lt h a (i + 1) := by
  have hja := r.ja
  have hji := r.ji
  intro p q h1 h2 h3
  by_cases hp : p = j
  · subst hp
    rw [r.at']
    exact .inl (r.over q h2 (by omega))
  · by_cases hq : q = j
    · subst hq
      rw [r.at']
      rcases hd with hd | hd
      · omega
      · have h4 : Tt lt (h (q - 1)) y := Tt.early (r.early (q - 1) (by omega) (by omega) (by omega)) hd
        by_cases hpq : p = q - 1
        · rw [hpq]; exact h4
        · exact Tt.trans hlt (r.rest p (q - 1) h1 (by omega) (by omega) hp (by omega)) h4
    · exact r.rest p q h1 h2 (by omega) hp hq
end
end Go.Proofs.YtepldjidkomclaaGreat.Ca
