/- The reference's boards in memory: rows of entries; append of a row; Copy, without. The reference's without. The reference's Find. The reference's Front and due. -/
import Derived.Test.YtdjhpldiifdifaaJRm0
namespace Go.Proofs.Ytdjhpldiifdifaa
set_option linter.unusedSimpArgs false
set_option linter.unusedVariables false
open Go.RowKit Go.Shelf
attribute [local go_sem] Oper.semAt_some
attribute [local go_sem ↓] Go.wp_at_zero Go.wp_at_succ

/-- The cells of an entry of the reference. -/
def encRn (x : Rn) : List Value := [.int .i64 x.n, .int .i64 x.o.m, .int .i64 x.o.s, .int .i64 x.o.k, .int .i64 x.o.f, .int .i64 x.o.p, .int .i64 x.o.t, .int .i64 x.o.q, .int .i64 x.o.pk, .int .i64 x.l, .int .i64 x.h, .bool x.w, .int .i64 x.t]
theorem encRn_len (x : Rn) : (encRn x).length = 13 := rfl
theorem encRn_one (x : Rn) : ∀ u ∈ encRn x, u.oneCell' = true := by
  intro u hu
  simp only [encRn, List.mem_cons, List.not_mem_nil, or_false] at hu
  rcases hu with rfl | rfl | rfl | rfl | rfl | rfl | rfl | rfl | rfl | rfl | rfl | rfl | rfl <;> rfl
abbrev RowR (B : Nat) (w : World) (v : Value) (L : List Rn) : Prop := OwnE encRn 13 53 B w v L
abbrev RowE (B : Nat) (w : World) (v : Value) (l : List Ev) : Prop := OwnE encEv 5 148 B w v l

/-- A slice whose elements can be read. -/
def SrcE {α : Type} (enc : α → List Value) (sz : Nat) (w : World) (u : Value) (m : List α) : Prop :=
  (u = .slice none 0 0 ∧ m = []) ∨ ∃ b off c, u = .slice (some ⟨b, off, none⟩) m.length c ∧ ∀ j x, (flatE enc m)[j]? = some x → w.cell? ⟨b, off + j, none⟩ = some x
theorem OwnE.src {α : Type} {enc : α → List Value} {sz : Nat} {e : TypeId} {B : Nat} {w : World} {v : Value} {l : List α} (h : OwnE enc sz e B w v l) : SrcE enc sz w v l := by
  rcases h.2 with ⟨h1, h2⟩ | ⟨g, cap, cur, rfl, _, _, _⟩
  · exact .inl ⟨h1, List.length_eq_zero_iff.1 h2⟩
  · refine .inr ⟨g, 0, cap, rfl, fun j x hx => ?_⟩
    have hj : j < l.length * sz := by rw [← h.1]; exact (List.getElem?_eq_some_iff.1 hx).1
    have := World.ownsRow.cellAt h j hj
    rw [Nat.zero_add, this]
    exact hx
theorem info_of {e : TypeId} {z : Value} {sz by' : Nat} (h : (Try.prog.info? e).map (fun i => (i.zero, i.size, i.bytes)) = some (some z, sz, by')) : ∃ i, Try.prog.info? e = some i ∧ i.zero = some z ∧ i.size = sz ∧ i.bytes = by' := by
  cases hi : Try.prog.info? e with
  | none => rw [hi] at h; cases h
  | some i =>
    rw [hi] at h
    simp only [Option.map_some, Option.some.injEq, Prod.mk.injEq] at h
    exact ⟨i, rfl, h.1, h.2.1, h.2.2⟩
/-- append(v, u...) -/
theorem own_append {α : Type} {enc : α → List Value} {sz : Nat} {t e ty : TypeId} {z : Value} {by' : Nat} (ht : Try.prog.underlying t = some (.slice e)) (hi : (Try.prog.info? e).map (fun i => (i.zero, i.size, i.bytes)) = some (some z, sz, by')) (hz : z.cells.size = sz) (hsz : 0 < sz)
    (hen : ∀ a, (enc a).length = sz) (hone : ∀ a, ∀ u ∈ enc a, u.oneCell' = true) {B : Nat} {w : World} {v : Value} {l : List α} (h : OwnE enc sz e B w v l) (hB : B ≤ w.heap.size) {u : Value} {m : List α} (hu : SrcE enc sz w u m) (hn : l.length + m.length ≤ maxLen) (hby : (l.length + m.length) * by' ≤ 140737488355328) :
    ∃ v' w', (Builtin.append_ #[t, t] ty #[v, u]).run Try.prog w = .ok v' w' ∧ OwnE enc sz e B w' v' (l ++ m) ∧ Kept (fun k => some k = v.ownBlock) w w' ∧ (v'.ownBlock = v.ownBlock ∨ v'.ownBlock = some w.heap.size) := by
  obtain ⟨i, h1, h2, h3, h4⟩ := info_of hi
  rcases hu with ⟨rfl, rfl⟩ | ⟨b, off, c, rfl, hc⟩
  · refine ⟨v, w, run_append_owned_none (P := Try.prog) (w := w) B t ty e i sz ht h1 v l.length (flatE enc l) h, by rw [List.append_nil]; exact h, Kept.refl _ _, .inl rfl⟩
  · obtain ⟨v', w', r1, r2, r3, _, r5⟩ := run_append_own_at w B t ty e i z sz by' ht h1 h2 h3 h4 hz hsz v l.length (flatE enc l) h ⟨b, off, none⟩ m.length c (flatE enc m) (flatE_length hen m)
      (fun j x hx => by rw [show (⟨b, off, none⟩ : Addr).add j = ⟨b, off + j, none⟩ by unfold Addr.add; split <;> simp_all]; exact hc j x hx)
      (fun x hx => by obtain ⟨a, _, ha⟩ := List.mem_flatMap.1 hx; exact hone a x ha) hn hby hB
    refine ⟨v', w', r1, ?_, Kept.of_grown r3, r5⟩
    unfold OwnE
    rw [flatE_append, List.length_append]
    exact r2
/-- A part of a row. -/
theorem OwnE.part {α : Type} {enc : α → List Value} {sz : Nat} (hen : ∀ a, (enc a).length = sz) {e : TypeId} {B : Nat} {w : World} {g cap : Nat} {n : Nat} {pre m post : List α} (h : OwnE enc sz e B w (.slice (some ⟨g, 0, none⟩) n cap) (pre ++ (m ++ post))) (hN : n = (pre ++ (m ++ post)).length) (off c : Nat) (ho : 0 < m.length → off = pre.length * sz) : SrcE enc sz w (.slice (some ⟨g, off, none⟩) m.length c) m := by
  subst hN
  refine .inr ⟨g, off, c, rfl, fun j x hx => ?_⟩
  have hj : j < m.length * sz := by rw [← flatE_length hen m]; exact (List.getElem?_eq_some_iff.1 hx).1
  have h0 : 0 < m.length := by
    rcases Nat.eq_zero_or_pos m.length with h | h
    · rw [h] at hj; omega
    · exact h
  rw [ho h0]
  have hlen : pre.length * sz + j < (pre ++ (m ++ post)).length * sz := by
    rw [List.length_append, List.length_append, Nat.add_mul, Nat.add_mul]; omega
  rw [World.ownsRow.cellAt h _ hlen]
  rw [flatE_append, flatE_append, List.getElem?_append_right (by rw [flatE_length hen]; omega), flatE_length hen, show pre.length * sz + j - pre.length * sz = j by omega, List.getElem?_append_left (by rw [flatE_length hen]; exact hj)]
  exact hx
theorem infoRn : (Try.prog.info? 53).map (fun i => (i.zero, i.size, i.bytes)) = some (some (.agg #[.int .i64 0, .int .i64 0, .int .i64 0, .int .i64 0, .int .i64 0, .int .i64 0, .int .i64 0, .int .i64 0, .int .i64 0, .int .i64 0, .int .i64 0, .bool false, .int .i64 0]), 13, 104) := by kernel_rfl
theorem undRn : Try.prog.underlying 47 = some (.slice 53) := by kernel_rfl
theorem infoRe : (Try.prog.info? 148).map (fun i => (i.zero, i.size, i.bytes)) = some (some (.agg #[.int .i64 0, .int .i64 0, .int .i64 0, .int .i64 0, .int .i64 0]), 5, 40) := by kernel_rfl
theorem undRe : Try.prog.underlying 125 = some (.slice 148) := by kernel_rfl
theorem rn_append {B : Nat} {w : World} {v : Value} {l : List Rn} (h : RowR B w v l) (hB : B ≤ w.heap.size) {u : Value} {m : List Rn} (hu : SrcE encRn 13 w u m) (hn : l.length + m.length ≤ 1000000) (ty : TypeId) :
    ∃ v' w', (Builtin.append_ #[47, 47] ty #[v, u]).run Try.prog w = .ok v' w' ∧ RowR B w' v' (l ++ m) ∧ Kept (fun k => some k = v.ownBlock) w w' ∧ (v'.ownBlock = v.ownBlock ∨ v'.ownBlock = some w.heap.size) :=
  own_append undRn infoRn rfl (by decide) encRn_len encRn_one h hB hu (by unfold maxLen; omega) (by omega)
theorem re_append {B : Nat} {w : World} {v : Value} {l : List Ev} (h : RowE B w v l) (hB : B ≤ w.heap.size) {u : Value} {m : List Ev} (hu : SrcE encEv 5 w u m) (hn : l.length + m.length ≤ 3500000000000) (ty : TypeId) :
    ∃ v' w', (Builtin.append_ #[125, 125] ty #[v, u]).run Try.prog w = .ok v' w' ∧ RowE B w' v' (l ++ m) ∧ Kept (fun k => some k = v.ownBlock) w w' ∧ (v'.ownBlock = v.ownBlock ∨ v'.ownBlock = some w.heap.size) :=
  own_append undRe infoRe rfl (by decide) encEv_len encEv_one h hB hu (by unfold maxLen; omega) (by omega)
/-- One element in a block of its own. -/
theorem SrcE.one {α : Type} {enc : α → List Value} {sz : Nat} {w : World} {B : Nat} {a : α} {ty : TypeId} (h : Cells w B (enc a).toArray ty) : SrcE enc sz w (.slice (some ⟨B, 0, none⟩) 1 1) [a] := by
  refine .inr ⟨B, 0, 1, rfl, fun j x hx => ?_⟩
  rw [Nat.zero_add, h.cell]
  have e : flatE enc [a] = enc a := by simp [flatE]
  rw [e] at hx
  simpa using hx
/-- A board of the reference as a value. -/
def rbV (v : Value) (nums turn paid : Int) : Value := .agg #[v, .int .i64 nums, .int .i64 turn, .int .i64 paid]
/-- A value is a board of the reference. -/
def RbV (B : Nat) (w : World) (V : Value) (x : Rb) : Prop := ∃ v, V = rbV v x.nums x.turn x.paid ∧ RowR B w v x.L
theorem RbV.below {B : Nat} {w w' : World} {V : Value} {x : Rb} (h : RbV B w V x) (hb : Below w.heap.size w w') : RbV B w' V x := by
  obtain ⟨v, h1, h2⟩ := h
  exact ⟨v, h1, OwnE.below h2 hb⟩
theorem RbV.mono {B B' : Nat} {w : World} {V : Value} {x : Rb} (h : RbV B w V x) (hb : B' ≤ B) : RbV B' w V x := by
  obtain ⟨v, h1, h2⟩ := h
  exact ⟨v, h1, OwnE.mono h2 hb⟩

/-- A board's value is stored. -/
theorem put_rb {w : World} {r : Nat} {cs : Array Value} {ty : TypeId} (h : Cells w r cs ty) (hs : cs.size = 4) (a b c d : Value) :
    Cells ((((w.setCell ⟨r, 0, none⟩ a).setCell ⟨r, 1, none⟩ b).setCell ⟨r, 2, none⟩ c).setCell ⟨r, 3, none⟩ d) r #[a, b, c, d] ty ∧ Kept (fun k => k = r) w ((((w.setCell ⟨r, 0, none⟩ a).setCell ⟨r, 1, none⟩ b).setCell ⟨r, 2, none⟩ c).setCell ⟨r, 3, none⟩ d) := by
  refine ⟨?_, ((((Kept.refl (fun k => k = r) w).set (C := r) rfl 0 a).set (C := r) rfl 1 b).set (C := r) rfl 2 c).set (C := r) rfl 3 d⟩
  have := (((h.set 0 a).set 1 b).set 2 c).set 3 d
  obtain ⟨l⟩ := cs
  match l, hs with
  | [x0, x1, x2, x3], _ => exact this
theorem OwnE.far {α : Type} {enc : α → List Value} {sz : Nat} {e : TypeId} {B : Nat} {w w' : World} {v : Value} {l : List α} (h : OwnE enc sz e B w v l) {r : Nat} {cs : Array Value} {ty : TypeId} (hr : Cells w r cs ty) (ht : e ≠ ty) (hk : Kept (fun k => k = r) w w') : OwnE enc sz e B w' v l :=
  OwnE.kept h hk (fun b hb => by obtain ⟨cs', hcs⟩ := own_lt h hb; exact hcs.ne hr ht)
set_option maxRecDepth 100000 in
set_option maxHeartbeats 4000000 in
theorem copy_rcalls (w : World) {v : Value} {L : List Rn} (h : RowR 0 w v L) (hn : L.length ≤ 100000) (nums turn paid : Int) :
    Calls Try.prog 54 #[rbV v nums turn paid] w fun e w' => ∃ v', e = .returned (rbV v' nums turn paid) ∧ RowR w.heap.size w' v' L ∧ Below w.heap.size w w' := by
  obtain ⟨w2, hw2⟩ : ∃ w2, w2 = (w.alloc (.cells #[v, .int .i64 nums, .int .i64 turn, .int .i64 paid] 49)).alloc (.cells #[.slice none 0 0, .int .i64 0, .int .i64 0, .int .i64 0] 49) := ⟨_, rfl⟩
  have b2 : Below w.heap.size w w2 := by rw [hw2]; exact ((Below.refl _ _).alloc (Nat.le_refl _) _).alloc (by simp) _
  have c0 : Cells w2 w.heap.size #[v, .int .i64 nums, .int .i64 turn, .int .i64 paid] 49 := by rw [hw2]; exact (Cells.new w _ _).alloc _
  have c1 : Cells w2 (w.heap.size + 1) #[.slice none 0 0, .int .i64 0, .int .i64 0, .int .i64 0] 49 := by
    rw [hw2]
    have := Cells.new (w.alloc (.cells #[v, .int .i64 nums, .int .i64 turn, .int .i64 paid] 49)) #[.slice none 0 0, .int .i64 0, .int .i64 0, .int .i64 0] 49
    rwa [World.size_alloc] at this
  obtain ⟨v', w3, r1, r2, r3, r4⟩ := rn_append (OwnE.nil w.heap.size w2) b2.size (OwnE.src (h.below b2)) (by simp; omega) 47
  rw [List.nil_append] at r2
  have b3 : Below w.heap.size w w3 := b2.trans (r3.below b2.size (fun k hk => by cases hk))
  have d0 := c0.kept r3 (by simp [Value.ownBlock])
  have d1 := c1.kept r3 (by simp [Value.ownBlock])
  have l0 := d0.lt
  have l1 := d1.lt
  have f0 := d0.frozen 0
  have f1 := d1.frozen 0
  have f11 := d1.frozen 1
  have f12 := d1.frozen 2
  have f13 := d1.frozen 3
  have e0 : w3.cell? ⟨w.heap.size, 0, none⟩ = some v := by rw [d0.cell]; rfl
  have e1 : w3.cell? ⟨w.heap.size, 1, none⟩ = some (.int .i64 nums) := by rw [d0.cell]; rfl
  have e2 : w3.cell? ⟨w.heap.size, 2, none⟩ = some (.int .i64 turn) := by rw [d0.cell]; rfl
  have e3 : w3.cell? ⟨w.heap.size, 3, none⟩ = some (.int .i64 paid) := by rw [d0.cell]; rfl
  have g0 : w3.cell? ⟨w.heap.size + 1, 0, none⟩ = some (.slice none 0 0) := by rw [d1.cell]; rfl
  have g1 : w3.cell? ⟨w.heap.size + 1, 1, none⟩ = some (.int .i64 0) := by rw [d1.cell]; rfl
  have g2 : w3.cell? ⟨w.heap.size + 1, 2, none⟩ = some (.int .i64 0) := by rw [d1.cell]; rfl
  have g3 : w3.cell? ⟨w.heap.size + 1, 3, none⟩ = some (.int .i64 0) := by rw [d1.cell]; rfl
  obtain ⟨p, c, hv, _⟩ := h.form
  generalize hm : L.length = m at hv
  subst hv
  obtain ⟨p', c', hv', _⟩ := r2.form
  rw [hm] at hv'
  subst hv'
  have R1 := hid r1
  have R2 := hid r2
  have B3 := hid b3
  have D0 := hid d0
  have D1 := hid d1
  have HW2 := hid hw2
  unfold rbV
  clear h hn b2 c0 c1 r1 r2 r3 r4 b3 d0 d1 hw2 hm
  go_enter Try.func54, Try.ntmps54
  go_wp2_with (at_builtin; rw [← HW2.out]; refine wpList_append_run rfl (.tmp 4) (.tmp 6) 47 rfl _ _ (.slice p' m c') w3 rfl rfl R1.out ?_)
  refine bodyPost_ret (v := .agg #[.slice p' m c', .int .i64 nums, .int .i64 turn, .int .i64 paid]) (by simp [results, Try.results54, go_sem, *]) rfl ⟨.slice p' m c', rfl, ?_, ?_⟩
  · obtain ⟨q1, q2⟩ := put_rb (D1.out.set_far (C := w.heap.size) 0 (.slice p' m c') (by omega)) rfl (.slice p' m c') (.int .i64 nums) (.int .i64 turn) (.int .i64 paid)
    exact (R2.out.set D0.out (by decide) 0 _).far (D1.out.set_far (C := w.heap.size) 0 (.slice p' m c') (by omega)) (by decide) q2
  · exact ((((B3.out.setCell (Nat.le_refl _) _).setCell (by simp) _).setCell (by simp) _).setCell (by simp) _).setCell (by simp) _
end Go.Proofs.Ytdjhpldiifdifaa
namespace Go.Proofs.Ytdjhpldiifdifaa
set_option linter.unusedSimpArgs false
set_option linter.unusedVariables false
open Go.RowKit Go.Shelf
attribute [local go_sem] Oper.semAt_some
attribute [local go_sem ↓] Go.wp_at_zero Go.wp_at_succ

set_option maxRecDepth 100000 in
set_option maxHeartbeats 4000000 in
theorem without_rcalls (w : World) {v : Value} {L : List Rn} (h : RowR 0 w v L) (hn : L.length ≤ 100000) {i : Nat} (hi : i < L.length) :
    Calls Try.prog 56 #[v, .int .i64 i] w fun e w' => ∃ v', e = .returned v' ∧ RowR w.heap.size w' v' (L.eraseIdx i) ∧ Below w.heap.size w w' := by
  obtain ⟨p, cap, hv, hp⟩ := h.form
  rcases hp with ⟨_, e⟩ | ⟨g, rfl, _, hg⟩
  · rw [e] at hi; exact absurd hi (by simp)
  have hcap : L.length ≤ cap ∧ cap ≤ maxLen := by
    rcases h.2 with ⟨e, _⟩ | ⟨g', cap', cur, e, _, _, h1, h2, _⟩
    · rw [hv] at e; cases e
    · rw [hv] at e; injection e with _ _ e; subst e; exact ⟨h1, h2⟩
  have hL : L = L.take i ++ (L[i] :: L.drop (i + 1)) := by rw [← List.drop_eq_getElem_cons hi, List.take_append_drop]
  subst hv
  have hk1 : (L.take i).length = i := by rw [List.length_take]; omega
  have hk2 : (L.drop (i + 1)).length = L.length - (i + 1) := List.length_drop
  have s1 : SrcE encRn 13 w (.slice (some ⟨g, 0, none⟩) i cap) (L.take i) := by
    have h2 := h
    rw [hL] at h2
    have := OwnE.part encRn_len (pre := []) (m := L.take i) (post := L[i] :: L.drop (i + 1)) (n := (L.take i ++ (L[i] :: L.drop (i + 1))).length) h2 rfl 0 cap (fun _ => by simp)
    rw [hk1] at this
    exact this
  obtain ⟨o, ho, ho2⟩ : ∃ o : Nat, (if cap = i + 1 then some (⟨g, 0, none⟩ : Addr) else some ⟨g, (i + 1) * 13, none⟩) = some ⟨g, o, none⟩ ∧ (0 < (L.drop (i + 1)).length → o = (L.take (i + 1)).length * 13) := by
    by_cases hc : cap = i + 1
    · exact ⟨0, by simp [hc], fun hn => by rw [hk2] at hn; omega⟩
    · exact ⟨(i + 1) * 13, by simp [hc], fun _ => by rw [List.length_take]; congr 1; omega⟩
  obtain ⟨v1, w1, r1, r2, r3, r4⟩ := rn_append (OwnE.nil w.heap.size w) (Nat.le_refl _) s1 (by simp; omega) 47
  rw [List.nil_append] at r2
  have b1 : Below w.heap.size w w1 := r3.below (Nat.le_refl _) (fun k hk => by cases hk)
  have h1 := h.below b1
  have s2 : SrcE encRn 13 w1 (.slice (some ⟨g, o, none⟩) (L.length - (i + 1)) (cap - (i + 1))) (L.drop (i + 1)) := by
    have h2 := h1
    have e : L = L.take (i + 1) ++ (L.drop (i + 1) ++ []) := by simp
    rw [e] at h2
    have := OwnE.part encRn_len (pre := L.take (i + 1)) (m := L.drop (i + 1)) (post := []) (n := (L.take (i + 1) ++ (L.drop (i + 1) ++ [])).length) h2 rfl o (cap - (i + 1)) ho2
    rw [hk2] at this
    exact this
  obtain ⟨v2, w2, q1, q2, q3, q4⟩ := rn_append r2 b1.size s2 (by rw [hk1, hk2]; omega) 47
  rw [← List.eraseIdx_eq_take_drop_succ] at q2
  have hv1 : ∀ b, v1.ownBlock = some b → w.heap.size ≤ b := fun b hb => by
    rcases r4 with r4 | r4
    · rw [r4] at hb; cases hb
    · rw [r4] at hb; injection hb with hb; omega
  have b2 : Below w.heap.size w w2 := b1.trans (q3.below b1.size (fun k hk => hv1 k hk.symm))
  obtain ⟨p1, c1, hv1, _⟩ := r2.form
  obtain ⟨p2, c2, hv2, _⟩ := q2.form
  rw [hk1] at hv1
  generalize (L.eraseIdx i).length = m2 at hv2
  subst hv1 hv2
  have FIN := hid (show RowR w.heap.size w2 (.slice p2 m2 c2) (L.eraseIdx i) ∧ Below w.heap.size w w2 from ⟨q2, b2⟩)
  clear h h1 hL s1 s2 r2 r3 r4 q2 q3 q4 b1 b2 hv1 ho2 hk1 hk2
  generalize L.eraseIdx i = L' at *
  generalize L.length = n at *
  have R1 := hid r1
  have Q1 := hid q1
  have hil : i ≤ n := by omega
  have hii : (i : Int) ≤ (n : Int) := by omega
  have hwr : IntKind.i64.wrap ((i : Int) + 1) = (i : Int) + 1 := by rw [IntKind.wrap_i64]; unfold maxLen at hcap; omega
  have hp0 : (0 : Int) ≤ (i : Int) + 1 := by omega
  have hp1 : (i : Int) + 1 ≤ (n : Int) := by omega
  have hp2 : ((i : Int) + 1).toNat = i + 1 := by omega
  have hic : i ≤ cap := by omega
  have hic1 : i + 1 ≤ cap := by omega
  unfold maxLen at hcap
  clear r1 q1
  go_enter Try.func56, Try.ntmps56
  go_wp2_with (first | (at_builtin; refine wpList_append_run rfl (.tmp 6) (.tmp 9) 47 rfl _ _ (.slice p1 i c1) w1 rfl rfl R1.out ?_) | (at_builtin; refine wpList_append_run rfl (.tmp 11) (.tmp 15) 47 rfl _ _ (.slice p2 m2 c2) w2 rfl rfl Q1.out ?_))
  go_ret
  exact ⟨_, rfl, FIN.out⟩
end Go.Proofs.Ytdjhpldiifdifaa
namespace Go.Proofs.Ytdjhpldiifdifaa
set_option linter.unusedSimpArgs false
set_option linter.unusedVariables false
open Go.RowKit Go.Shelf
attribute [local go_sem] Oper.semAt_some
attribute [local go_sem ↓] Go.wp_at_zero Go.wp_at_succ

/-- An index, or -1. -/
def optI : Option Nat → Int
  | none => -1
  | some i => i
theorem optI_lo (o : Option Nat) : -1 ≤ optI o := by unfold optI; split <;> omega
/-- A row of entries: its cells. -/
theorem OwnE.rows {B : Nat} {w : World} {v : Value} {L : List Rn} (h : RowR B w v L) : ∃ p cap g, v = .slice p L.length cap ∧ (0 < L.length → p = some ⟨g, 0, none⟩ ∧ g < w.heap.size) ∧ ∀ (w' : World), Below w.heap.size w w' → ∀ (i : Nat) (hi : i < L.length), w'.cell? ⟨g, i * 13, none⟩ = some (Value.int .i64 L[i].n) ∧ w'.cell? ⟨g, i * 13 + 1, none⟩ = some (Value.int .i64 L[i].o.m) ∧ w'.cell? ⟨g, i * 13 + 2, none⟩ = some (Value.int .i64 L[i].o.s) ∧ w'.cell? ⟨g, i * 13 + 3, none⟩ = some (Value.int .i64 L[i].o.k) ∧ w'.cell? ⟨g, i * 13 + 4, none⟩ = some (Value.int .i64 L[i].o.f) ∧ w'.cell? ⟨g, i * 13 + 5, none⟩ = some (Value.int .i64 L[i].o.p) ∧ w'.cell? ⟨g, i * 13 + 6, none⟩ = some (Value.int .i64 L[i].o.t) ∧ w'.cell? ⟨g, i * 13 + 7, none⟩ = some (Value.int .i64 L[i].o.q) ∧ w'.cell? ⟨g, i * 13 + 8, none⟩ = some (Value.int .i64 L[i].o.pk) ∧ w'.cell? ⟨g, i * 13 + 9, none⟩ = some (Value.int .i64 L[i].l) ∧ w'.cell? ⟨g, i * 13 + 10, none⟩ = some (Value.int .i64 L[i].h) ∧ w'.cell? ⟨g, i * 13 + 11, none⟩ = some (Value.bool L[i].w) ∧ w'.cell? ⟨g, i * 13 + 12, none⟩ = some (Value.int .i64 L[i].t) := by
  obtain ⟨p, cap, g, hv, hp, hc⟩ := OwnE.cells encRn_len h
  refine ⟨p, cap, g, hv, fun h0 => ⟨(hp h0).1, (hp h0).2.2⟩, fun w' hb i hi => ?_⟩
  have hg := (hp (by omega)).2.2
  have key : ∀ j, j < 13 → w'.cell? ⟨g, i * 13 + j, none⟩ = (encRn L[i])[j]? := fun j hj => (hb.cell (p := ⟨g, i * 13 + j, none⟩) hg).trans (hc i hi j hj)
  have k0 := key 0 (by omega)
  have k1 := key 1 (by omega)
  have k2 := key 2 (by omega)
  have k3 := key 3 (by omega)
  have k4 := key 4 (by omega)
  have k5 := key 5 (by omega)
  have k6 := key 6 (by omega)
  have k7 := key 7 (by omega)
  have k8 := key 8 (by omega)
  have k9 := key 9 (by omega)
  have k10 := key 10 (by omega)
  have k11 := key 11 (by omega)
  have k12 := key 12 (by omega)
  simp [encRn] at k0 k1 k2 k3 k4 k5 k6 k7 k8 k9 k10 k11 k12
  exact ⟨k0, k1, k2, k3, k4, k5, k6, k7, k8, k9, k10, k11, k12⟩
theorem find_at {L : List Rn} {n : Int} {i : Nat} (hi : i < L.length) (h : L[i].n = n) (hb : ∀ j (hj : j < L.length), j < i → L[j].n ≠ n) : findR L n = some i := by
  unfold findR
  rw [List.findIdx?_eq_some_iff_getElem]
  exact ⟨hi, by simpa using h, fun j hj => by have := hb j (by omega) hj; simpa using this⟩
theorem find_not {L : List Rn} {n : Int} (hb : ∀ j (hj : j < L.length), L[j].n ≠ n) : findR L n = none := by
  unfold findR
  rw [List.findIdx?_eq_none_iff]
  intro x hx
  obtain ⟨j, hj, rfl⟩ := List.getElem_of_mem hx
  simpa using hb j hj

set_option maxRecDepth 100000 in
set_option maxHeartbeats 4000000 in
theorem find_rcalls (w : World) {v : Value} {L : List Rn} (h : RowR 0 w v L) (hn : L.length ≤ 100000) (nums turn paid : Int) (number : Int) :
    Calls Try.prog 29 #[rbV v nums turn paid, .int .i64 number] w fun e w' => e = .returned (.int .i64 (optI (findR L number))) ∧ Below w.heap.size w w' := by
  obtain ⟨p, cap, g, rfl, hp, hc⟩ := h.rows
  obtain ⟨wb, hwb⟩ : ∃ wb, wb = w.alloc (.cells #[.slice p L.length cap, .int .i64 nums, .int .i64 turn, .int .i64 paid] 49) := ⟨_, rfl⟩
  have b1 : Below w.heap.size w wb := by rw [hwb]; exact (Below.refl _ _).alloc (Nat.le_refl _) _
  have HC := hid (hc wb b1)
  have B1 := hid b1
  have HP := hid hp
  have HWB := hid hwb
  obtain ⟨R, hR⟩ : ∃ R : Ending → World → Prop, R = fun e w' => e = .returned (.int .i64 (optI (findR L number))) ∧ Below w.heap.size w w' := ⟨_, rfl⟩
  have FIN := hid (show ∀ (i : Int), i = optI (findR L number) → R (.returned (.int .i64 i)) wb by intro i hi; rw [hR, hi]; exact ⟨rfl, b1⟩)
  rw [← hR]
  obtain ⟨n, hnn⟩ : ∃ n, n = L.length := ⟨_, rfl⟩
  have HN := hid hnn
  rw [← hnn] at hn HWB ⊢
  unfold rbV
  clear hR h hp hc hwb b1 hnn
  go_enter Try.func29, Try.ntmps29
  go_wp2
  go_loop [5] (fun s5 => ∃ i : Nat, s5 = .int .i64 i ∧ i ≤ n ∧ ∀ j (hj : j < L.length), j < i → L[j].n ≠ number) (fun s5 => n - (intOf s5).toNat)
  case atStart => exact ⟨0, rfl, Nat.zero_le _, fun _ _ h => absurd h (by omega)⟩
  case round =>
    obtain ⟨i, rfl, hi, hb⟩ := hrel
    have HB := hid hb
    clear hb
    by_cases hin : i < n
    · have hil : i < L.length := by rw [← HN.out]; exact hin
      have c0 := (HC.out i hil).1
      obtain ⟨rfl, hg⟩ := HP.out (by omega)
      rw [HWB.out] at c0
      obtain ⟨x, hx⟩ : ∃ x, x = L[i].n := ⟨_, rfl⟩
      rw [← hx] at c0
      have HX := hid hx
      clear hx
      by_cases he : x = number
      · have g1 : (x == number) = true := by simpa using he
        have HE := hid he
        clear he
        go_wp2
        rw [← HWB.out]
        exact FIN.out _ (by rw [find_at hil (by rw [← HX.out]; exact HE.out) HB.out]; rfl)
      · have g1 : (x == number) = false := by simpa using he
        have HE := hid he
        clear he
        go_wp2
        go_round
        case rel => exact ⟨i + 1, by go_num, by omega, fun j hj hji => by
          by_cases e : j = i
          · subst e; rw [← HX.out]; exact HE.out
          · exact HB.out j hj (by omega)⟩
        case measure => simp [intOf]; omega
    · have hin' : i = n := by omega
      subst hin'
      go_wp2
      rw [← HWB.out]
      exact FIN.out _ (by rw [find_not (fun j hj => HB.out j hj (by rw [HN.out]; exact hj))]; rfl)
end Go.Proofs.Ytdjhpldiifdifaa
namespace Go.Proofs.Ytdjhpldiifdifaa
set_option linter.unusedSimpArgs false
set_option linter.unusedVariables false
open Go.RowKit Go.Shelf
attribute [local go_sem] Oper.semAt_some
attribute [local go_sem ↓] Go.wp_at_zero Go.wp_at_succ

theorem bestI_lt {c : Rn → Bool} {p : Rn → Rn → Bool} {L : List Rn} : ∀ {k b : Nat}, bestI c p L k = some b → b < k ∧ b < L.length
  | 0, b, h => by cases h
  | k + 1, b, h => by
    unfold bestI at h
    split at h
    · have := bestI_lt h; omega
    · rename_i x hx
      obtain ⟨hk, _⟩ := List.getElem?_eq_some_iff.1 hx
      split at h
      · split at h
        · injection h with h; omega
        · split at h
          · injection h with h; omega
          · have := bestI_lt h; omega
      · have := bestI_lt h; omega
theorem best_skip {c : Rn → Bool} {p : Rn → Rn → Bool} {L : List Rn} {i : Nat} (hi : i < L.length) (h : c L[i] = false) : bestI c p L (i + 1) = bestI c p L i := by
  rw [bestI, List.getElem?_eq_getElem hi]
  simp only
  rw [if_neg (by rw [h]; decide)]
theorem best_first {c : Rn → Bool} {p : Rn → Rn → Bool} {L : List Rn} {i : Nat} (hi : i < L.length) (h : c L[i] = true) (hb : bestI c p L i = none) : bestI c p L (i + 1) = some i := by
  rw [bestI, List.getElem?_eq_getElem hi]
  simp only
  rw [if_pos h, hb]
  rfl
theorem best_take {c : Rn → Bool} {p : Rn → Rn → Bool} {L : List Rn} {i b : Nat} (hi : i < L.length) (h : c L[i] = true) (hb : bestI c p L i = some b) (hbl : b < L.length) (hp : p L[i] L[b] = true) : bestI c p L (i + 1) = some i := by
  rw [bestI, List.getElem?_eq_getElem hi]
  simp only
  rw [if_pos h, hb, Option.bind_some, List.getElem?_eq_getElem hbl]
  simp only
  rw [if_pos hp]
theorem best_keep {c : Rn → Bool} {p : Rn → Rn → Bool} {L : List Rn} {i b : Nat} (hi : i < L.length) (h : c L[i] = true) (hb : bestI c p L i = some b) (hbl : b < L.length) (hp : p L[i] L[b] = false) : bestI c p L (i + 1) = some b := by
  rw [bestI, List.getElem?_eq_getElem hi]
  simp only
  rw [if_pos h, hb, Option.bind_some, List.getElem?_eq_getElem hbl]
  simp only
  rw [if_neg (by rw [hp]; decide)]
/-- Within a loop over the reference's entries. -/
structure LpB (w : World) (V : Value) (nums turn paid : Int) (wr : World) : Prop where
  below : Below w.heap.size w wr
  top : Cells wr w.heap.size #[V, .int .i64 nums, .int .i64 turn, .int .i64 paid] 49
theorem LpB.start (w : World) (V : Value) (nums turn paid : Int) : LpB w V nums turn paid (w.alloc (.cells #[V, .int .i64 nums, .int .i64 turn, .int .i64 paid] 49)) := ⟨(Below.refl _ _).alloc (Nat.le_refl _) _, Cells.new _ _ _⟩
theorem LpB.after {w wr w' : World} {V : Value} {nums turn paid : Int} (h : LpB w V nums turn paid wr) (hb : Below wr.heap.size wr w') : LpB w V nums turn paid w' := ⟨h.below.trans (hb.mono h.below.size), h.top.below hb h.top.lt⟩
theorem LpB.alloc {w wr : World} {V : Value} {nums turn paid : Int} (h : LpB w V nums turn paid wr) (o : Obj) : LpB w V nums turn paid (wr.alloc o) := h.after ((Below.refl _ _).alloc (Nat.le_refl _) _)
theorem LpB.drewN {w wr : World} {V : Value} {nums turn paid : Int} (h : LpB w V nums turn paid wr) (k : Nat) : LpB w V nums turn paid (wr.drewN k) := h.after (drewN_below (Below.refl _ _) k)
theorem LpB.drew {w wr : World} {V : Value} {nums turn paid : Int} (h : LpB w V nums turn paid wr) : LpB w V nums turn paid wr.drew := h.after (Below.refl _ _).drew
theorem LpB.cell {w wr : World} {V : Value} {nums turn paid : Int} (h : LpB w V nums turn paid wr) : wr.cell? ⟨w.heap.size, 0, none⟩ = some V ∧ wr.cell? ⟨w.heap.size, 1, none⟩ = some (.int .i64 nums) ∧ wr.cell? ⟨w.heap.size, 2, none⟩ = some (.int .i64 turn) ∧ wr.cell? ⟨w.heap.size, 3, none⟩ = some (.int .i64 paid) ∧ w.heap.size < wr.heap.size := by
  refine ⟨?_, ?_, ?_, ?_, h.top.lt⟩ <;> (rw [h.top.cell]; rfl)

set_option maxRecDepth 100000 in
set_option maxHeartbeats 8000000 in
theorem front_rcalls (w : World) {v : Value} {L : List Rn} (h : RowR 0 w v L) (hn : L.length ≤ 100000) (nums turn paid : Int) (side : Int) :
    Calls Try.prog 28 #[rbV v nums turn paid, .int .i64 side] w fun e w' => e = .returned (.int .i64 (optI (frontR L side))) ∧ Below w.heap.size w w' := by
  obtain ⟨p, cap, g, rfl, hp, hc⟩ := h.rows
  have HC := hid hc
  have HP := hid hp
  obtain ⟨R, hR⟩ : ∃ R : Ending → World → Prop, R = fun e w' => e = .returned (.int .i64 (optI (frontR L side))) ∧ Below w.heap.size w w' := ⟨_, rfl⟩
  have FIN := hid (show ∀ (i : Int) (w' : World), i = optI (frontR L side) → Below w.heap.size w w' → R (.returned (.int .i64 i)) w' by intro i w' hi hb; rw [hR, hi]; exact ⟨rfl, hb⟩)
  rw [← hR]
  have L0 := hid (LpB.start w (.slice p L.length cap) nums turn paid)
  obtain ⟨n, hnn⟩ : ∃ n, n = L.length := ⟨_, rfl⟩
  have HN := hid hnn
  rw [← hnn] at hn L0 ⊢
  unfold rbV
  obtain ⟨C, hC⟩ : ∃ C, C = cR side := ⟨_, rfl⟩
  obtain ⟨P, hP⟩ : ∃ P, P = pR side := ⟨_, rfl⟩
  have HCR := hid hC
  have HPR := hid hP
  clear hR h hp hc hnn hC hP
  go_enter Try.func28, Try.ntmps28
  go_wp2
  go_loopg [5, 6] n (fun k s5 s6 wr => ∃ i : Nat, i + k = n ∧ s6 = .int .i64 i ∧ s5 = .int .i64 (optI (bestI C P L i)) ∧ LpB w (.slice p n cap) nums turn paid wr)
  case atStart => exact ⟨0, by omega, rfl, rfl, L0.out⟩
  case round =>
    obtain ⟨i, hik, rfl, rfl, lp⟩ := hrel
    obtain ⟨t0, _, _, _, hwl⟩ := lp.cell
    have LP := hid lp
    have HIK := hid hik
    clear lp hik
    by_cases hin : i < n
    · have hil : i < L.length := by rw [← HN.out]; exact hin
      obtain ⟨rfl, hg⟩ := HP.out (by omega)
      obtain ⟨c0, c1, c2, c3, c4, c5, c6, c7, c8, c9, c10, c11, c12⟩ := HC.out wr LP.out.below i hil
      obtain ⟨x, hx⟩ : ∃ x, x = L[i] := ⟨_, rfl⟩
      rw [← hx] at c0 c1 c2 c3 c4 c5 c6 c7 c8 c9 c10 c11 c12
      have HX := hid hx
      have hgr : g < wr.heap.size := Nat.lt_of_lt_of_le hg LP.out.below.size
      have LA := hid (LP.out.alloc (.cells (encRn x).toArray 53))
      have hsz := LA.out.top.lt
      clear hx
      cases hw : x.w with
      | true =>
        have HS := hid (show bestI C P L (i + 1) = bestI C P L i from best_skip hil (by rw [← HX.out, HCR.out]; simp [cR, hw]))
        rw [hw] at c11
        have LA' := hid (show LpB w (.slice (some ⟨g, 0, none⟩) n cap) nums turn paid _ from LA.out)
        unfold encRn at LA'
        rw [hw] at LA'
        clear LA hw
        go_wp2
        go_roundg (n - (i + 1))
        · exact ⟨i + 1, by omega, by go_num, by rw [HS.out], LA'.out⟩
        · have := HIK.out; omega
      | false =>
        rw [hw] at c11
        by_cases hs : x.o.s = side
        · have g1 : (x.o.s != side) = false := by simpa using hs
          have CX := hid (show C L[i] = true by rw [← HX.out, HCR.out]; simp [cR, hw, hs])
          have LA' := hid (show LpB w (.slice (some ⟨g, 0, none⟩) n cap) nums turn paid _ from LA.out)
          unfold encRn at LA'
          rw [hw] at LA'
          clear LA hw hs
          cases hb : bestI C P L i with
          | none =>
            have HS := hid (best_first hil CX.out hb)
            have HB := hid hb
            have g2 : decide ((-1 : Int) < 0) = true := by decide
            clear hb
            rw [show optI none = -1 from rfl]
            go_upto_region 7 with fail
            go_cut [68] (fun s68 wx => s68 = .bool true ∧ LpB w (.slice (some ⟨g, 0, none⟩) n cap) nums turn paid wx)
            case first =>
              go_big_quiet (fail)
              go_wp2
              go_meet
              exact ⟨rfl, LA'.out.drewN _⟩
            case rest =>
              obtain ⟨rfl, lq⟩ := hcut
              have LQ := hid lq
              clear lq
              go_wp2
              go_roundg (n - (i + 1))
              · exact ⟨i + 1, by omega, by go_num, by rw [HS.out]; rfl, LQ.out⟩
              · have := HIK.out; omega
          | some b =>
            obtain ⟨hb1, hbl⟩ := bestI_lt hb
            obtain ⟨_, _, _, _, _, d5, _, _, _, _, _, _, d12⟩ := HC.out wr LP.out.below b hbl
            obtain ⟨y, hy⟩ : ∃ y, y = L[b] := ⟨_, rfl⟩
            rw [← hy] at d5 d12
            have HY := hid hy
            have HB := hid hb
            have g2 : decide ((b : Int) < 0) = false := by simp
            have g3 : (0 : Int) ≤ (b : Int) := by omega
            have g4 : (b : Int) < (n : Int) := by omega
            have g5 : b < n := by omega
            have gb : ((b : Int)).toNat = b := by omega
            clear hb hy
            rw [show optI (some b) = (b : Int) from rfl]
            obtain ⟨T, hT⟩ : ∃ T, T = P x y := ⟨_, rfl⟩
            have HT := hid hT
            rw [HPR.out] at hT
            unfold pR at hT
            go_upto_region 7 with fail
            go_cut [68] (fun s68 wx => s68 = .bool T ∧ LpB w (.slice (some ⟨g, 0, none⟩) n cap) nums turn paid wx)
            case first =>
              cases h1 : better side x.o.p y.o.p with
              | true =>
                rw [h1] at hT
                have BC := hid (fun w => rbetter_calls side x.o.p y.o.p w)
                rw [h1] at BC
                have hT2 : T = true := by rw [hT]; rfl
                subst hT2
                clear hT h1
                go_big_quiet ((go_at_call 57; exact Calls.quiet_of_same (BC.out _)))
                go_wp2
                go_meet
                exact ⟨rfl, LA'.out.drewN _⟩
              | false =>
                rw [h1] at hT
                have BC := hid (fun w => rbetter_calls side x.o.p y.o.p w)
                rw [h1] at BC
                by_cases h2 : x.o.p = y.o.p
                · have g6 : (x.o.p == y.o.p) = true := by simpa using h2
                  have hT2 : T = decide (x.t < y.t) := by rw [hT, decide_eq_true h2]; simp
                  subst hT2
                  clear hT h1 h2
                  go_big_quiet ((go_at_call 57; exact Calls.quiet_of_same (BC.out _)))
                  go_wp2
                  go_meet
                  exact ⟨rfl, LA'.out.drewN _⟩
                · have g6 : (x.o.p == y.o.p) = false := by simpa using h2
                  have hT2 : T = false := by rw [hT, decide_eq_false h2]; simp
                  subst hT2
                  clear hT h1 h2
                  go_big_quiet ((go_at_call 57; exact Calls.quiet_of_same (BC.out _)))
                  go_wp2
                  go_meet
                  exact ⟨rfl, LA'.out.drewN _⟩
            case rest =>
              obtain ⟨rfl, lq⟩ := hcut
              have LQ := hid lq
              clear lq hT
              cases T with
              | true =>
                have HS := hid (best_take hil CX.out HB.out hbl (by rw [← HX.out, ← HY.out]; exact HT.out.symm))
                go_wp2
                go_roundg (n - (i + 1))
                · exact ⟨i + 1, by omega, by go_num, by rw [HS.out]; rfl, LQ.out⟩
                · have := HIK.out; omega
              | false =>
                have HS := hid (best_keep hil CX.out HB.out hbl (by rw [← HX.out, ← HY.out]; exact HT.out.symm))
                go_wp2
                go_roundg (n - (i + 1))
                · exact ⟨i + 1, by omega, by go_num, by rw [HS.out]; rfl, LQ.out⟩
                · have := HIK.out; omega
        · have g1 : (x.o.s != side) = true := by simpa using hs
          have HS := hid (show bestI C P L (i + 1) = bestI C P L i from best_skip hil (by rw [← HX.out, HCR.out]; simp [cR, hs]))
          have LA' := hid (show LpB w (.slice (some ⟨g, 0, none⟩) n cap) nums turn paid _ from LA.out)
          unfold encRn at LA'
          rw [hw] at LA'
          clear LA hw hs
          go_wp2
          go_roundg (n - (i + 1))
          · exact ⟨i + 1, by omega, by go_num, by rw [HS.out], LA'.out⟩
          · have := HIK.out; omega
    · have hin' : i = n := by have := HIK.out; omega
      subst hin'
      have g1 : decide ((i : Int) < (i : Int)) = false := by simp
      go_wp2
      exact FIN.out _ _ (by unfold frontR; rw [← HN.out, HCR.out, HPR.out]) LP.out.below
end Go.Proofs.Ytdjhpldiifdifaa
