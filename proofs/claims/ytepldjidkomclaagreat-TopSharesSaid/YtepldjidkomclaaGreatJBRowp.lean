/- Rows of pointers: one taken out, one put in. No function of the program in sight. list.push, list.remove. -/
import Derived.Maps.AppendAt
import Derived.Laws.CopyRow
import Derived.Test.YtepldjidkomclaaGreatJCCl0
namespace Go.Proofs.YtepldjidkomclaaGreat.Bo
set_option linter.unusedSimpArgs false
set_option linter.unusedVariables false
open Go.RowKit
theorem step_append_run {P : Program} {ops : Array Oper} {o : Oper} {a : Act} {w : World} {K : Act → World → Prop} {Q : Exit → Act → World → Prop} {E : Prop} (hgd : o.guard = none) (s x : Operand) (t : TypeId)
    (ho : o.op = .call { callee := .builtin .append, args := #[s, x], argTypes := #[t, t] }) (sv xv v : Value) (w' : World) (hs : a.eval s = sv) (hx : a.eval x = xv) (hrun : (Builtin.append_ #[t, t] o.type #[sv, xv]).run P w = .ok v w') (hK : K (a.put o.dst v) w') :
    if Region.wanted o (yielded ops a.tmps) = true then Oper.wp P o a w K Q else E := by
  have hw : Region.wanted o (yielded ops a.tmps) = true := by simp [Region.wanted, hgd]
  rw [if_pos hw]
  unfold Oper.wp
  simp [execOp, ho, resolve, invoke, builtin, hs, hx, hrun, Result.andThen]
  exact hK
theorem step_copy_run {P : Program} {ops : Array Oper} {o : Oper} {a : Act} {w : World} {K : Act → World → Prop} {Q : Exit → Act → World → Prop} {E : Prop} (hgd : o.guard = none) (s x : Operand) (t : TypeId)
    (ho : o.op = .call { callee := .builtin .copy, args := #[s, x], argTypes := #[t, t] }) (sv xv v : Value) (w' : World) (hs : a.eval s = sv) (hx : a.eval x = xv) (hrun : (Builtin.copy_ #[t, t] o.type #[sv, xv]).run P w = .ok v w') (hK : K (a.put o.dst v) w') :
    if Region.wanted o (yielded ops a.tmps) = true then Oper.wp P o a w K Q else E := by
  have hw : Region.wanted o (yielded ops a.tmps) = true := by simp [Region.wanted, hgd]
  rw [if_pos hw]
  unfold Oper.wp
  simp [execOp, ho, resolve, invoke, builtin, hs, hx, hrun, Result.andThen]
  exact hK
theorem wpList_append_run {P : Program} {w : World} {ops : Array Oper} {rest : List Oper} {o : Oper} {a : Act} {Q : Exit → Act → World → Prop} (hgd : o.guard = none) (s x : Operand) (t : TypeId)
    (ho : o.op = .call { callee := .builtin .append, args := #[s, x], argTypes := #[t, t] }) (sv xv v : Value) (w' : World) (hs : a.eval s = sv) (hx : a.eval x = xv) (hrun : (Builtin.append_ #[t, t] o.type #[sv, xv]).run P w = .ok v w') (h : wpList P ops Q rest (a.put o.dst v) w') :
    wpList P ops Q (o :: rest) a w := by
  refine wpList_plain hgd fun K hK => ?_
  unfold Oper.wp
  simp [execOp, ho, resolve, invoke, builtin, hs, hx, hrun, Result.andThen]
  exact hK _ _ h
abbrev encPt : Nat → List Value := fun b => [pt b]
theorem flat_pt (l : List Nat) : flatE encPt l = l.map pt := by
  induction l with
  | nil => rfl
  | cons a l ih => rw [flatE_cons, ih]; rfl
theorem Kept.of_grown {w w' : World} {r : Option Nat} (h : w.grownBy w' r) : Kept (fun k => some k = r) w w' :=
  ⟨h.os, h.tape, h.output, h.size, fun k hk hx => h.block k hk hx⟩
theorem info_ptr {t : TypeId} (h : (Tryz.prog.info? t).map (fun i => (i.zero, i.size, i.bytes)) = some (some (.pointer none), 1, 8)) : ∃ i, Tryz.prog.info? t = some i ∧ i.zero = some (.pointer none) ∧ i.size = 1 ∧ i.bytes = 8 := by
  cases hi : Tryz.prog.info? t with
  | none => rw [hi] at h; cases h
  | some i =>
    rw [hi] at h
    simp only [Option.map_some, Option.some.injEq, Prod.mk.injEq] at h
    exact ⟨i, rfl, h.1, h.2.1, h.2.2⟩
theorem infoLev : (Tryz.prog.info? 86).map (fun i => (i.zero, i.size, i.bytes)) = some (some (.pointer none), 1, 8) := by kernel_rfl
theorem infoEnt : (Tryz.prog.info? 72).map (fun i => (i.zero, i.size, i.bytes)) = some (some (.pointer none), 1, 8) := by kernel_rfl
theorem undLev : Tryz.prog.underlying 82 = some (.slice 86) := by kernel_rfl
theorem undEnt : Tryz.prog.underlying 68 = some (.slice 72) := by kernel_rfl
theorem row_cut {t e ty : TypeId} (ht : Tryz.prog.underlying t = some (.slice e)) (hi : (Tryz.prog.info? e).map (fun i => (i.zero, i.size, i.bytes)) = some (some (.pointer none), 1, 8)) {w : World} {b cap : Nat} {pre post : List Nat} {x : Nat}
    (h : OwnE encPt 1 e 0 w (.slice (some ⟨b, 0, none⟩) (pre ++ x :: post).length cap) (pre ++ x :: post)) (hlen : (pre ++ x :: post).length ≤ 1000000) (A : Addr) (hA : 0 < post.length → A = ⟨b, pre.length + 1, none⟩) (c : Nat) :
    ∃ v' w', (Builtin.append_ #[t, t] ty #[.slice (some ⟨b, 0, none⟩) pre.length cap, .slice (some A) post.length c]).run Tryz.prog w = .ok v' w' ∧ OwnE encPt 1 e 0 w' v' (pre ++ post) ∧ Kept (fun k => k = b) w w' ∧ (v'.ownBlock = some b ∨ v'.ownBlock = some w.heap.size) := by
  obtain ⟨i, hi, hz, hs, hb⟩ := info_ptr hi
  have hown : w.ownsRow 0 e 1 (.slice (some ⟨b, 0, none⟩) pre.length cap) pre.length (flatE encPt pre) := by
    obtain ⟨h1, h2⟩ := h
    rcases h2 with ⟨h2, _⟩ | ⟨g, cap', cur, h2, h3, h4, h5, h6, h7, h8⟩
    · cases h2
    · have e1 : g = b ∧ cap' = cap := by injection h2 with a1 a2 a3; injection a1 with a1; injection a1 with a1; exact ⟨a1.symm, a3.symm⟩
      obtain ⟨rfl, rfl⟩ := e1
      refine ⟨by simp [flat_pt], .inr ⟨g, cap', cur, rfl, h3, h4, by rw [List.length_append] at h5; omega, h6, h7, ?_⟩⟩
      rw [flat_pt] at h8 ⊢
      have := congrArg (List.take pre.length) h8
      rw [List.take_take, List.map_append, List.take_append_of_le_length (by simp), List.length_append, List.length_cons] at this
      rw [show min pre.length ((pre.length + (post.length + 1)) * 1) = pre.length * 1 by omega] at this
      rw [this, List.take_of_length_le (by simp)]
  have hnews : ∀ j u, (flatE encPt post)[j]? = some u → w.cell? (A.add j) = some u := by
    intro j u hu
    have hj : j < post.length := by have := (List.getElem?_eq_some_iff.1 hu).1; rw [flat_pt] at this; simpa using this
    rw [hA (by omega)]
    have hc := World.ownsRow.cellAt h (pre.length + 1 + j) (by rw [List.length_append, List.length_cons]; omega)
    rw [show (⟨b, pre.length + 1, none⟩ : Addr).add j = ⟨b, pre.length + 1 + j, none⟩ by unfold Addr.add; split <;> simp_all]
    rw [hc]
    rw [flat_pt] at hu ⊢
    rw [List.map_append, List.getElem?_append_right (by simp; omega), List.length_map, show pre.length + 1 + j - pre.length = j + 1 by omega]
    exact hu
  obtain ⟨v', w', h1, h2, h3, _, h5⟩ := run_append_own_at w 0 t ty e i (.pointer none) 1 8 ht hi hz hs hb rfl (by omega) _ _ _ hown A post.length c (flatE encPt post) (by simp [flat_pt]) hnews
    (by intro u hu; rw [flat_pt] at hu; obtain ⟨y, _, rfl⟩ := List.mem_map.1 hu; rfl) (by rw [List.length_append, List.length_cons] at hlen; unfold maxLen; omega) (by rw [List.length_append, List.length_cons] at hlen; omega) (by omega)
  refine ⟨v', w', h1, ?_, (Kept.of_grown h3).mono (fun k hk => ?_), ?_⟩
  · unfold OwnE
    rw [flatE_append, List.length_append]
    exact h2
  · injection hk
  · rcases h5 with h5 | h5
    · exact .inl h5
    · exact .inr h5
theorem row_grow {t e ty : TypeId} (ht : Tryz.prog.underlying t = some (.slice e)) (hi : (Tryz.prog.info? e).map (fun i => (i.zero, i.size, i.bytes)) = some (some (.pointer none), 1, 8)) {w : World} {v : Value} {l : List Nat}
    (h : OwnE encPt 1 e 0 w v l) (hlen : l.length ≤ 1000000) (A : Addr) (u : Value) (h1 : u.oneCell' = true) (hA : w.cell? A = some u) (c : Nat) :
    ∃ g cap w' cur, (Builtin.append_ #[t, t] ty #[v, .slice (some A) 1 c]).run Tryz.prog w = .ok (.slice (some ⟨g, 0, none⟩) (l.length + 1) cap) w' ∧ Cells w' g cur e ∧ l.length + 1 ≤ cap ∧ cap ≤ maxLen ∧ cur.size = cap ∧ cur.toList.take (l.length + 1) = l.map pt ++ [u] ∧
      Kept (fun k => some k = v.ownBlock) w w' ∧ (v.ownBlock = some g ∨ g = w.heap.size) := by
  obtain ⟨i, hi, hz, hs, hb⟩ := info_ptr hi
  have hnews : ∀ j x, [u][j]? = some x → w.cell? (A.add j) = some x := by
    intro j x hu
    have hj : j = 0 := by have := (List.getElem?_eq_some_iff.1 hu).1; simp at this; omega
    subst hj
    rw [show A.add 0 = A from if_pos rfl, hA]
    exact hu
  obtain ⟨v', w', r1, r2, r3, _, r5⟩ := run_append_own_at w 0 t ty e i (.pointer none) 1 8 ht hi hz hs hb rfl (by omega) v l.length (flatE encPt l) h A 1 c [u] rfl hnews (by intro x hx; rw [List.mem_singleton] at hx; rw [hx]; exact h1)
    (by unfold maxLen; omega) (by omega) (by omega)
  obtain ⟨q1, q2⟩ := r2
  rcases q2 with ⟨_, q3⟩ | ⟨g, cap, cur, q3, q4, q5, q6, q7, q8, q9⟩
  · omega
  · subst q3
    refine ⟨g, cap, w', cur, r1, q5, q6, q7, by rw [q8, Nat.mul_one], by rw [Nat.mul_one] at q9; rw [q9, flat_pt], Kept.of_grown r3, ?_⟩
    rcases r5 with r5 | r5
    · exact .inl r5.symm
    · injection r5 with r5
      exact .inr r5
theorem cells_setRow {w : World} {g : Nat} {cur cur' : Array Value} {e : TypeId} (h : Cells w g cur e) : Cells (w.setRow g cur') g cur' e ∧ Kept (fun k => k = g) w (w.setRow g cur') :=
  ⟨setRow_heap w g cur cur' e (0, 0) h, rfl, rfl, rfl, by simp [World.setRow], fun k hk hx => setRow_other w g k cur' hx⟩
theorem row_shift {t e ty : TypeId} (ht : Tryz.prog.underlying t = some (.slice e)) (hi : (Tryz.prog.info? e).map (fun i => (i.zero, i.size, i.bytes)) = some (some (.pointer none), 1, 8)) {w : World} {g cap : Nat} {cur : Array Value} {pre post : List Nat} {u : Value} (hu : u.oneCell' = true)
    (h : Cells w g cur e) (hcap : pre.length + post.length + 1 ≤ cap) (hs : cur.size = cap) (ht2 : cur.toList.take (pre.length + post.length + 1) = pre.map pt ++ (post.map pt ++ [u])) (o : Nat) (ho : 0 < post.length → o = pre.length + 1) (ho2 : o ≤ cap) (c1 c2 : Nat) :
    ∃ x w' cur', (Builtin.copy_ #[t, t] ty #[.slice (some ⟨g, o, none⟩) post.length c1, .slice (some ⟨g, pre.length, none⟩) (post.length + 1) c2]).run Tryz.prog w = .ok x w' ∧ Cells w' g cur' e ∧ Kept (fun k => k = g) w w' ∧ cur'.size = cap ∧
      cur'.toList.take pre.length = pre.map pt ∧ ∀ j (hj : j < post.length), cur'[pre.length + 1 + j]? = some (pt post[j]) := by
  obtain ⟨i, hi, hz, hsz, hb⟩ := info_ptr hi
  have hcell : ∀ k, k < pre.length + post.length + 1 → cur[k]? = (pre.map pt ++ (post.map pt ++ [u]))[k]? := fun k hk => by
    rw [← ht2, List.getElem?_take, if_pos hk, Array.getElem?_toList]
  have hsrc : ∀ j x, (post.map pt)[j]? = some x → w.cell? ((⟨g, pre.length, none⟩ : Addr).add j) = some x := by
    intro j x hx
    have hj : j < post.length := by have := (List.getElem?_eq_some_iff.1 hx).1; simpa using this
    rw [show (⟨g, pre.length, none⟩ : Addr).add j = ⟨g, pre.length + j, none⟩ by unfold Addr.add; split <;> simp_all]
    rw [h.cell, hcell _ (by omega), List.getElem?_append_right (by simp), List.length_map, show pre.length + j - pre.length = j by omega, List.getElem?_append_left (by simpa using hj)]
    exact hx
  have hrun := run_copy_row Tryz.prog w t t ty e g o post.length c1 ⟨g, pre.length, none⟩ (post.length + 1) c2 cur e (post.map pt) ht (by rw [hi]; simp [hsz]) h (by rw [List.length_map]; exact (Nat.min_eq_right (by omega)).symm) hsrc
    (by rw [List.length_map, hs]; rcases Nat.eq_zero_or_pos post.length with h0 | h0; omega; rw [ho h0]; omega) (by intro x hx; obtain ⟨y, _, rfl⟩ := List.mem_map.1 hx; rfl)
  have hr := cells_setRow (cur' := (cur.toList.take o ++ post.map pt ++ cur.toList.drop (o + (post.map pt).length)).toArray) h
  refine ⟨_, _, _, hrun, hr.1, hr.2, ?_, ?_, fun j hj => ?_⟩
  · have hl : cur.toList.length = cap := hs
    rcases Nat.eq_zero_or_pos post.length with h0 | h0
    · simp only [List.size_toArray, List.length_append, List.length_take, List.length_map, List.length_drop, hl]; omega
    · rw [ho h0]; simp only [List.size_toArray, List.length_append, List.length_take, List.length_map, List.length_drop, hl]; omega
  · have hp : cur.toList.take pre.length = pre.map pt := by
      have := congrArg (List.take pre.length) ht2
      rw [List.take_take, show min pre.length (pre.length + post.length + 1) = pre.length by omega, List.take_append_of_le_length (by simp), show List.take pre.length (pre.map pt) = pre.map pt from List.take_of_length_le (by simp)] at this
      exact this
    rcases Nat.eq_zero_or_pos post.length with h0 | h0
    · have hp0 : post = [] := List.length_eq_zero_iff.1 h0
      subst hp0
      simp only [List.map_nil, List.append_nil, List.length_nil, Nat.add_zero, List.take_append_drop]
      exact hp
    · rw [ho h0]
      show List.take pre.length (_ ++ _ ++ _) = _
      have hl : (cur.toList.take (pre.length + 1)).length = pre.length + 1 := by rw [List.length_take, show cur.toList.length = cap from hs]; omega
      rw [List.append_assoc, List.take_append_of_le_length (by omega), List.take_take, show min pre.length (pre.length + 1) = pre.length by omega, hp]
  · have h0 : 0 < post.length := by omega
    rw [ho h0]
    have hl : (cur.toList.take (pre.length + 1)).length = pre.length + 1 := by rw [List.length_take, show cur.toList.length = cap from hs]; omega
    rw [List.getElem?_toArray, List.append_assoc, List.getElem?_append_right (by omega), hl, show pre.length + 1 + j - (pre.length + 1) = j by omega, List.getElem?_append_left (by simpa using hj)]
    simp
theorem row_put {e : TypeId} {w : World} {g cap L : Nat} {cur : Array Value} {pre post : List Nat} (h : Cells w g (cur.setIfInBounds pre.length (pt L)) e) (hcap : pre.length + post.length + 1 ≤ cap) (hm : cap ≤ maxLen) (hs : cur.size = cap)
    (h1 : cur.toList.take pre.length = pre.map pt) (h2 : ∀ j (hj : j < post.length), cur[pre.length + 1 + j]? = some (pt post[j])) :
    OwnE encPt 1 e 0 w (.slice (some ⟨g, 0, none⟩) (pre ++ L :: post).length cap) (pre ++ L :: post) := by
  refine ⟨by simp [flat_pt], .inr ⟨g, cap, _, rfl, Nat.zero_le _, h, by rw [List.length_append, List.length_cons]; omega, hm, by rw [Array.size_setIfInBounds, hs, Nat.mul_one], ?_⟩⟩
  rw [flat_pt, Nat.mul_one]
  apply List.ext_getElem?
  intro k
  rw [List.getElem?_take, Array.getElem?_toList]
  by_cases hk : k < (pre ++ L :: post).length
  · rw [if_pos hk]
    rw [List.length_append, List.length_cons] at hk
    rcases Nat.lt_trichotomy k pre.length with hlt | heq | hgt
    · rw [Array.getElem?_setIfInBounds_ne (by omega), List.map_append, List.getElem?_append_left (by simpa using hlt), ← h1, List.getElem?_take, if_pos hlt, Array.getElem?_toList]
    · subst heq
      rw [Array.getElem?_setIfInBounds_self_of_lt (by omega), List.map_append, List.getElem?_append_right (by simp)]
      simp
    · obtain ⟨j, rfl⟩ : ∃ j, k = pre.length + 1 + j := ⟨k - pre.length - 1, by omega⟩
      rw [Array.getElem?_setIfInBounds_ne (by omega), h2 j (by omega), List.map_append, List.getElem?_append_right (by simp; omega), List.length_map, show pre.length + 1 + j - pre.length = j + 1 by omega]
      simp [List.getElem?_eq_getElem (show j < post.length by omega)]
  · rw [if_neg hk, List.getElem?_eq_none (by simpa using hk)]
end Go.Proofs.YtepldjidkomclaaGreat.Bo
namespace Go.Proofs.YtepldjidkomclaaGreat.Bo
set_option linter.unusedSimpArgs false
set_option linter.unusedVariables false
open Go.RowKit
def Pushed (w : World) (L : Nat) (p : Int) (es : List (Nat × Nat)) (i : Nat) (e : Ending) (w' : World) : Prop :=
  ∃ E, e = .returned (pt E) ∧ w.heap.size ≤ E ∧ Lst w' L p (es ++ [(E, i)]) ∧ Kept (Lst.foot L es) w w'
set_option maxRecDepth 100000 in
set_option maxHeartbeats 2000000 in
theorem push_calls (w : World) (L : Nat) (p : Int) (es : List (Nat × Nat)) (i : Nat) (h : Lst w L p es) (hlen : es.length ≤ 1000000000) :
    Calls Tryz.prog 108 #[.pointer (some ⟨L, 1, none⟩), pt i] w (Pushed w L p es i) := by
  rcases snoc_cases es with rfl | ⟨M, q, rfl⟩
  · have hc := h.c
    have hL := hc.lt
    have c1 : w.cell? ⟨L, 1, none⟩ = some (.pointer none) := by rw [hc.cell]; rfl
    have c2 : w.cell? ⟨L, 2, none⟩ = some (.pointer none) := by rw [hc.cell]; rfl
    have c3 : w.cell? ⟨L, 3, none⟩ = some (.int .i64 0) := by rw [hc.cell]; rfl
    have f1 : w.frozen? ⟨L, 1, none⟩ = false := hc.frozen 1
    have f2 : w.frozen? ⟨L, 2, none⟩ = false := hc.frozen 2
    have f3 : w.frozen? ⟨L, 3, none⟩ = false := hc.frozen 3
    have H := hid h
    have HC := hid hc
    clear h hc
    go_enter Tryz.func108, Tryz.ntmps108
    go_wp2
    go_ret
    have h1 := (((HC.out.set 1 (pt w.heap.size)).set 2 (pt w.heap.size)).set 3 (.int .i64 1)).alloc (.cells #[.pointer none, .pointer none, pt i] 148)
    have h2 := Cells.new (((w.setCell ⟨L, 1, none⟩ (pt w.heap.size)).setCell ⟨L, 2, none⟩ (pt w.heap.size)).setCell ⟨L, 3, none⟩ (.int .i64 1)) #[.pointer none, .pointer none, pt i] 148
    rw [size_setCell, size_setCell, size_setCell] at h2
    have hk : Kept (Lst.foot L []) w ((((w.setCell ⟨L, 1, none⟩ (pt w.heap.size)).setCell ⟨L, 2, none⟩ (pt w.heap.size)).setCell ⟨L, 3, none⟩ (.int .i64 1)).alloc (.cells #[.pointer none, .pointer none, pt i] 148)) :=
      ((((Kept.refl _ w).set (C := L) (.inl rfl) 1 _).set (C := L) (.inl rfl) 2 _).set (C := L) (.inl rfl) 3 _).alloc _
    exact ⟨_, rfl, Nat.le_refl _, Lst.push0 h1 h2, hk⟩
  · have hc := h.c
    have hL := hc.lt
    obtain ⟨d1, d2⟩ := DL.split.1 h.l
    have hq : Cells w q.1 #[op (lastO M none), .pointer none, pt q.2] 148 := d2.1
    have hqL : q.1 ≠ L := hq.ne hc (by decide)
    have c1 : w.cell? ⟨L, 1, none⟩ = some (op (headO (M ++ [q]) none)) := by rw [hc.cell]; rfl
    have c2 : w.cell? ⟨L, 2, none⟩ = some (.pointer (some ⟨q.1, 0, none⟩)) := by rw [hc.cell, lastO_snoc]; rfl
    have c3 : w.cell? ⟨L, 3, none⟩ = some (.int .i64 (M ++ [q]).length) := by rw [hc.cell]; rfl
    have q1 : w.cell? ⟨q.1, 1, none⟩ = some (.pointer none) := by rw [hq.cell]; rfl
    obtain ⟨u1, c1⟩ : ∃ u, w.cell? ⟨L, 1, none⟩ = some u := ⟨_, c1⟩
    have hql := hq.lt
    have f1 : w.frozen? ⟨L, 2, none⟩ = false := hc.frozen 2
    have f2 : w.frozen? ⟨L, 3, none⟩ = false := hc.frozen 3
    have f3 : w.frozen? ⟨q.1, 1, none⟩ = false := hq.frozen 1
    have H := hid h
    have HC := hid hc
    have HQ := hid hq
    clear h hc hq d1 d2
    have hn : (M ++ [q]).length = M.length + 1 := by simp
    generalize hz : (M ++ [q]).length = z at *
    obtain ⟨Q, it⟩ := q
    simp only at c2 q1 hqL hql f3
    go_enter Tryz.func108, Tryz.ntmps108
    go_wp2
    go_ret
    have hz' : (M.length : Int) + 1 + 1 = ((M ++ [(Q, it)]).length : Int) + 1 := by rw [hz]; omega
    rw [hz']
    have h1 := (((HC.out.set_far 1 (pt w.heap.size) (C := Q) (Ne.symm hqL)).set 2 (pt w.heap.size)).set 3 (.int .i64 (((M ++ [(Q, it)]).length : Int) + 1))).alloc (.cells #[pt Q, .pointer none, pt i] 148)
    have h3 := (((HQ.out.set 1 (pt w.heap.size)).set_far 2 (pt w.heap.size) (C := L) hqL).set_far 3 (.int .i64 (((M ++ [(Q, it)]).length : Int) + 1)) (C := L) hqL).alloc (.cells #[pt Q, .pointer none, pt i] 148)
    have h2 := Cells.new (((w.setCell ⟨Q, 1, none⟩ (pt w.heap.size)).setCell ⟨L, 2, none⟩ (pt w.heap.size)).setCell ⟨L, 3, none⟩ (.int .i64 (((M ++ [(Q, it)]).length : Int) + 1))) #[pt Q, .pointer none, pt i] 148
    rw [size_setCell, size_setCell, size_setCell] at h2
    have hk : Kept (fun k => k = L ∨ k = Q) w ((((w.setCell ⟨Q, 1, none⟩ (pt w.heap.size)).setCell ⟨L, 2, none⟩ (pt w.heap.size)).setCell ⟨L, 3, none⟩ (.int .i64 (((M ++ [(Q, it)]).length : Int) + 1))).alloc (.cells #[pt Q, .pointer none, pt i] 148)) :=
      ((((Kept.refl _ w).set (C := Q) (.inr rfl) 1 _).set (C := L) (.inl rfl) 2 _).set (C := L) (.inl rfl) 3 _).alloc _
    refine ⟨_, rfl, Nat.le_refl _, Lst.push1 H.out (Nat.le_refl _) hk h1 h2 h3, hk.mono fun k hk => ?_⟩
    rcases hk with rfl | rfl
    · exact .inl rfl
    · exact .inr (by simp)
def Removed (w : World) (L : Nat) (p : Int) (es : List (Nat × Nat)) (es' : List (Nat × Nat)) (e : Ending) (w' : World) : Prop :=
  e = .returned (.tuple #[]) ∧ Lst w' L p es' ∧ Kept (Lst.foot L es) w w'
theorem Removed.mk {w w' : World} {L : Nat} {p : Int} {pre post : List (Nat × Nat)} {x : Nat × Nat} (h : Lst w L p (pre ++ x :: post)) (hk : Kept (fun k => k = L ∨ k = x.1 ∨ some k = lastO pre none ∨ some k = headO post none) w w')
    (h1 : Cells w' L #[.int .i64 p, op (headO (pre ++ post) none), op (lastO (pre ++ post) none), .int .i64 ((pre ++ post).length)] 146)
    (h2 : ∀ M q, pre = M ++ [q] → Cells w' q.1 #[op (lastO M none), op (headO post none), pt q.2] 148)
    (h3 : ∀ q M, post = q :: M → Cells w' q.1 #[op (lastO pre none), op (headO M none), pt q.2] 148) : Removed w L p (pre ++ x :: post) (pre ++ post) (.returned (.tuple #[])) w' := by
  refine ⟨rfl, h.cut hk h1 h2 h3, hk.mono fun k hk => ?_⟩
  rcases hk with rfl | rfl | hk | hk
  · exact .inl rfl
  · exact .inr (by simp)
  · rcases snoc_cases pre with rfl | ⟨M, q, rfl⟩
    · cases hk
    · rw [lastO_snoc] at hk
      injection hk with hk
      exact .inr (by simp [hk])
  · cases post with
    | nil => cases hk
    | cons q M =>
      injection hk with hk
      exact .inr (by simp [hk])
set_option maxRecDepth 100000 in
set_option maxHeartbeats 4000000 in
theorem remove_calls (w : World) (L : Nat) (p : Int) (pre post : List (Nat × Nat)) (x : Nat × Nat) (h : Lst w L p (pre ++ x :: post)) (hlen : (pre ++ x :: post).length ≤ 1000000000) :
    Calls Tryz.prog 92 #[.pointer (some ⟨L, 1, none⟩), pt x.1] w (Removed w L p (pre ++ x :: post) (pre ++ post)) := by
  obtain ⟨X, it⟩ := x
  have hc := h.c
  have hL := hc.lt
  obtain ⟨d1, d2⟩ := DL.split.1 h.l
  have hx : Cells w X #[op (lastO pre none), op (headO post none), pt it] 148 := d2.1
  have hxL : X ≠ L := hx.ne hc (by decide)
  have hXl := hx.lt
  have hn := h.n
  rw [List.map_append, List.map_cons] at hn
  obtain ⟨n1, n2, n3⟩ := List.nodup_append.1 hn
  obtain ⟨n4, n5⟩ := List.nodup_cons.1 n2
  have l1 : w.cell? ⟨L, 1, none⟩ = some (op (headO (pre ++ (X, it) :: post) none)) := by rw [hc.cell]; rfl
  have l2 : w.cell? ⟨L, 2, none⟩ = some (op (lastO (pre ++ (X, it) :: post) none)) := by rw [hc.cell]; rfl
  have l3 : w.cell? ⟨L, 3, none⟩ = some (.int .i64 (pre ++ (X, it) :: post).length) := by rw [hc.cell]; rfl
  obtain ⟨u1, l1⟩ : ∃ u, w.cell? ⟨L, 1, none⟩ = some u := ⟨_, l1⟩
  obtain ⟨u2, l2⟩ : ∃ u, w.cell? ⟨L, 2, none⟩ = some u := ⟨_, l2⟩
  have f1 : w.frozen? ⟨L, 1, none⟩ = false := hc.frozen 1
  have f2 : w.frozen? ⟨L, 2, none⟩ = false := hc.frozen 2
  have f3 : w.frozen? ⟨L, 3, none⟩ = false := hc.frozen 3
  have f4 : w.frozen? ⟨X, 0, none⟩ = false := hx.frozen 0
  have f5 : w.frozen? ⟨X, 1, none⟩ = false := hx.frozen 1
  have x0 : w.cell? ⟨X, 0, none⟩ = some (op (lastO pre none)) := by rw [hx.cell]; rfl
  have x1 : w.cell? ⟨X, 1, none⟩ = some (op (headO post none)) := by rw [hx.cell]; rfl
  have hz : ((pre ++ (X, it) :: post).length : Int) = ((pre ++ post).length : Int) + 1 := by simp; omega
  rw [hz] at l3
  have hlen' : (pre ++ post).length ≤ 1000000000 := by simp only [List.length_append, List.length_cons] at hlen ⊢; omega
  have H := hid h
  have HC := hid hc
  have HX := hid hx
  have HN3 := hid n3
  have HN4 := hid n4
  clear hn n1 n2 n3 n4 n5 h hc hx hz hlen
  generalize hR : Removed w L p (pre ++ (X, it) :: post) (pre ++ post) = R
  have HR := hid hR
  clear hR
  generalize ha : (pre ++ post).length = a at *
  have HA := hid ha
  clear ha
  rcases snoc_cases pre with rfl | ⟨M, ⟨Q, qi⟩, rfl⟩ <;> rcases post with _ | ⟨⟨Z, zi⟩, post⟩
  · clear d1 d2
    simp only [headO, lastO, op] at x0 x1
    go_enter Tryz.func92, Tryz.ntmps92
    go_wp2
    go_end0
    have hR := HR.out
    subst hR
    have ha := HA.out
    refine Removed.mk (pre := []) (post := []) H.out ?_ ?_ (fun M q e => absurd e (by simp)) (fun q M e => absurd e (by simp))
    · exact ((((((Kept.refl _ w).set (C := L) (.inl rfl) 1 _).set (C := L) (.inl rfl) 2 _).set (C := X) (.inr (.inl rfl)) 0 _).set (C := X) (.inr (.inl rfl)) 1 _).set (C := L) (.inl rfl) 3 _)
    · rw [ha]
      have h1 := ((((HC.out.set 1 (.pointer none)).set 2 (.pointer none)).set_far 0 (.pointer none) (Ne.symm hxL)).set_far 1 (.pointer none) (Ne.symm hxL)).set 3 (.int .i64 a)
      exact h1
  · have hz : Cells w Z #[pt X, op (headO post none), pt zi] 148 := d2.2.1
    clear d1 d2
    have hzl := hz.lt
    have z0 : w.cell? ⟨Z, 0, none⟩ = some (pt X) := by rw [hz.cell]; rfl
    have fz : w.frozen? ⟨Z, 0, none⟩ = false := hz.frozen 0
    have hZL : Z ≠ L := hz.ne HC.out (by decide)
    have hZX : Z ≠ X := fun e => HN4.out (by simp [e])
    have HZ := hid hz
    clear hz
    simp only [headO, lastO, op] at x0 x1
    go_enter Tryz.func92, Tryz.ntmps92
    go_wp2
    go_region
    go_wp2
    go_end0
    have hR := HR.out
    subst hR
    have ha := HA.out
    refine Removed.mk (pre := []) (post := (Z, zi) :: post) H.out ?_ ?_ (fun M q e => absurd e (by simp)) (fun q M e => ?_)
    · exact ((((((Kept.refl _ w).set (C := L) (.inl rfl) 1 _).set (C := Z) (.inr (.inr (.inr rfl))) 0 _).set (C := X) (.inr (.inl rfl)) 0 _).set (C := X) (.inr (.inl rfl)) 1 _).set (C := L) (.inl rfl) 3 _).drew
    · rw [ha]
      have h1 := (((((HC.out.set 1 (pt Z)).set_far 0 (.pointer none) (Ne.symm hZL)).set_far 0 (.pointer none) (Ne.symm hxL)).set_far 1 (.pointer none) (Ne.symm hxL)).set 3 (.int .i64 a)).drew
      exact h1
    · obtain ⟨e1, e2⟩ := List.cons.inj e
      subst e1
      subst e2
      have h1 := (((((HZ.out.set_far 1 (pt Z) hZL).set 0 (.pointer none)).set_far 0 (.pointer none) hZX).set_far 1 (.pointer none) hZX).set_far 3 (.int .i64 a) hZL).drew
      exact h1
  · obtain ⟨e1, e2⟩ := DL.split.1 d1
    have hq : Cells w Q #[op (lastO M none), pt X, pt qi] 148 := e2.1
    clear d1 d2 e1 e2
    have hql := hq.lt
    have q1 : w.cell? ⟨Q, 1, none⟩ = some (pt X) := by rw [hq.cell]; rfl
    have fq : w.frozen? ⟨Q, 1, none⟩ = false := hq.frozen 1
    have hQL : Q ≠ L := hq.ne HC.out (by decide)
    have hQX : Q ≠ X := HN3.out Q (by simp) X (by simp)
    have HQ := hid hq
    clear hq
    simp only [headO, lastO_snoc, op] at x0 x1
    go_enter Tryz.func92, Tryz.ntmps92
    go_wp2
    go_region
    go_wp2
    go_end0
    have hR := HR.out
    subst hR
    have ha := HA.out
    refine Removed.mk (pre := M ++ [(Q, qi)]) (post := []) H.out ?_ ?_ (fun M' q e => ?_) (fun q M e => absurd e (by simp))
    · exact ((((((Kept.refl _ w).set (C := Q) (.inr (.inr (.inl (by rw [lastO_snoc])))) 1 _).set (C := L) (.inl rfl) 2 _).set (C := X) (.inr (.inl rfl)) 0 _).set (C := X) (.inr (.inl rfl)) 1 _).set (C := L) (.inl rfl) 3 _).drew
    · rw [ha, List.append_nil, lastO_snoc]
      have e : headO ((M ++ [(Q, qi)]) ++ [(X, it)]) none = headO (M ++ [(Q, qi)]) none := by cases M <;> rfl
      rw [← e]
      have h1 := (((((HC.out.set_far 1 (.pointer none) (Ne.symm hQL)).set 2 (pt Q)).set_far 0 (.pointer none) (Ne.symm hxL)).set_far 1 (.pointer none) (Ne.symm hxL)).set 3 (.int .i64 a)).drew
      exact h1
    · obtain ⟨e1, e2⟩ := List.append_inj' e rfl
      have e2 := (List.cons.inj e2).1
      subst e1
      subst e2
      have h1 := (((((HQ.out.set 1 (.pointer none)).set_far 2 (pt Q) hQL).set_far 0 (.pointer none) hQX).set_far 1 (.pointer none) hQX).set_far 3 (.int .i64 a) hQL).drew
      exact h1
  · obtain ⟨e1, e2⟩ := DL.split.1 d1
    have hq : Cells w Q #[op (lastO M none), pt X, pt qi] 148 := e2.1
    have hz : Cells w Z #[pt X, op (headO post none), pt zi] 148 := d2.2.1
    clear d1 d2 e1 e2
    have hql := hq.lt
    have hzl := hz.lt
    have q1 : w.cell? ⟨Q, 1, none⟩ = some (pt X) := by rw [hq.cell]; rfl
    have fq : w.frozen? ⟨Q, 1, none⟩ = false := hq.frozen 1
    have hQL : Q ≠ L := hq.ne HC.out (by decide)
    have hQX : Q ≠ X := HN3.out Q (by simp) X (by simp)
    have z0 : w.cell? ⟨Z, 0, none⟩ = some (pt X) := by rw [hz.cell]; rfl
    have fz : w.frozen? ⟨Z, 0, none⟩ = false := hz.frozen 0
    have hZL : Z ≠ L := hz.ne HC.out (by decide)
    have hZX : Z ≠ X := fun e => HN4.out (by simp [e])
    have hQZ : Q ≠ Z := HN3.out Q (by simp) Z (by simp)
    have HQ := hid hq
    have HZ := hid hz
    clear hq hz
    simp only [headO, lastO_snoc, op] at x0 x1
    go_enter Tryz.func92, Tryz.ntmps92
    go_wp2
    go_region
    go_wp2
    go_region
    go_wp2
    go_end0
    have hR := HR.out
    subst hR
    have ha := HA.out
    refine Removed.mk (pre := M ++ [(Q, qi)]) (post := (Z, zi) :: post) H.out ?_ ?_ (fun M' q e => ?_) (fun q M' e => ?_)
    · exact (((((((Kept.refl _ w).set (C := Q) (.inr (.inr (.inl (by rw [lastO_snoc])))) 1 _).set (C := Z) (.inr (.inr (.inr rfl))) 0 _).set (C := X) (.inr (.inl rfl)) 0 _).set (C := X) (.inr (.inl rfl)) 1 _).set (C := L) (.inl rfl) 3 _).drew).drew
    · rw [ha]
      have e : headO ((M ++ [(Q, qi)]) ++ (Z, zi) :: post) none = headO ((M ++ [(Q, qi)]) ++ (X, it) :: (Z, zi) :: post) none := by cases M <;> rfl
      have e2 : lastO ((M ++ [(Q, qi)]) ++ (Z, zi) :: post) none = lastO ((M ++ [(Q, qi)]) ++ (X, it) :: (Z, zi) :: post) none := by rw [lastO_app (M ++ [(Q, qi)]), lastO_app (M ++ [(Q, qi)])]; rfl
      rw [e, e2]
      have h1 := ((((((HC.out.set_far 1 (pt Z) (Ne.symm hQL)).set_far 0 (pt Q) (Ne.symm hZL)).set_far 0 (.pointer none) (Ne.symm hxL)).set_far 1 (.pointer none) (Ne.symm hxL)).set 3 (.int .i64 a)).drew).drew
      exact h1
    · obtain ⟨e1, e2⟩ := List.append_inj' e rfl
      have e2 := (List.cons.inj e2).1
      subst e1
      subst e2
      have h1 := ((((((HQ.out.set 1 (pt Z)).set_far 0 (pt Q) hQZ).set_far 0 (.pointer none) hQX).set_far 1 (.pointer none) hQX).set_far 3 (.int .i64 a) hQL).drew).drew
      exact h1
    · obtain ⟨e1, e2⟩ := List.cons.inj e
      subst e1
      subst e2
      rw [lastO_snoc]
      have h1 := ((((((HZ.out.set_far 1 (pt Z) (Ne.symm hQZ)).set 0 (pt Q)).set_far 0 (.pointer none) hZX).set_far 1 (.pointer none) hZX).set_far 3 (.int .i64 a) hZL).drew).drew
      exact h1
end Go.Proofs.YtepldjidkomclaaGreat.Bo
