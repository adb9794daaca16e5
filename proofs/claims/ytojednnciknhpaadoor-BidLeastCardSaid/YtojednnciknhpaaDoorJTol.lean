/- Tools for walks. No function of the program in sight. Rows of encoded elements: append, parts. No function of the program in sight. -/
import Derived.StillTailTactics
import Derived.BigRegion
import Derived.Deep.RegionLaw
import Derived.Test.YtojednnciknhpaaDoorJMem
namespace Go.Proofs.YtojednnciknhpaaDoor
set_option linter.unusedSimpArgs false
set_option linter.unusedVariables false
open Go.RowKit

theorem region_tail {P : Program} {id : Nat} {Q : Exit → Act → World → Prop} {a : Act} {w : World} {l : List Oper} (n : Nat) (hm : P.follows .mixedOrders = true) (hB : Region.lexTailB .any l.toArray n = true)
    (h : wpStill P l.toArray w.drew (fun a' => wpList P l.toArray Q (l.drop n) a' w.drew) (l.take n) a) : (Code.region id l.toArray true).wp P Q a w := wp_region_still_tail n hm hB h
/-- A call of append whose run is known. -/
theorem step_append_run {P : Program} {ops : Array Oper} {o : Oper} {a : Act} {w : World} {K : Act → World → Prop} {Q : Exit → Act → World → Prop} {E : Prop} (hgd : o.guard = none) (s x : Operand) (t : TypeId)
    (ho : o.op = .call { callee := .builtin .append, args := #[s, x], argTypes := #[t, t] }) (sv xv v : Value) (w' : World) (hs : a.eval s = sv) (hx : a.eval x = xv) (hrun : (Builtin.append_ #[t, t] o.type #[sv, xv]).run P w = .ok v w') (hK : K (a.put o.dst v) w') :
    if Region.wanted o (yielded ops a.tmps) = true then Oper.wp P o a w K Q else E := by
  have hw : Region.wanted o (yielded ops a.tmps) = true := by simp [Region.wanted, hgd]
  rw [if_pos hw]
  unfold Oper.wp
  simp [execOp, ho, resolve, invoke, builtin, hs, hx, hrun, Result.andThen]
  exact hK
theorem wpList_append_run {P : Program} {w : World} {ops : Array Oper} {rest : List Oper} {o : Oper} {a : Act} {Q : Exit → Act → World → Prop} (hgd : o.guard = none) (s x : Operand) (t : TypeId)
    (ho : o.op = .call { callee := .builtin .append, args := #[s, x], argTypes := #[t, t] }) (sv xv v : Value) (w' : World) (hs : a.eval s = sv) (hx : a.eval x = xv) (hrun : (Builtin.append_ #[t, t] o.type #[sv, xv]).run P w = .ok v w') (h : wpList P ops Q rest (a.put o.dst v) w') :
    wpList P ops Q (o :: rest) a w := by
  refine wpList_plain hgd fun K hK => ?_
  unfold Oper.wp
  simp [execOp, ho, resolve, invoke, builtin, hs, hx, hrun, Result.andThen]
  exact hK _ _ h
theorem wpList_mapUpdate_run {P : Program} {w : World} {ops : Array Oper} {rest : List Oper} {o : Oper} {a : Act} {Q : Exit → Act → World → Prop} (hgd : o.guard = none) (m x v : Operand) (t : TypeId)
    (ho : o.op = .mapUpdate t m x v) (mv xv vv : Value) (w' : World) (hm : a.eval m = mv) (hx : a.eval x = xv) (hv : a.eval v = vv) (hrun : (Instr.mapUpdate t mv xv vv).run P w = .ok () w') (h : wpList P ops Q rest (a.put o.dst undef) w') :
    wpList P ops Q (o :: rest) a w := by
  refine wpList_plain hgd fun K hK => ?_
  unfold Oper.wp
  simp [execOp, ho, hm, hx, hv, hrun, Result.andThen]
  exact hK _ _ h
end Go.Proofs.YtojednnciknhpaaDoor
namespace Go.Proofs.YtojednnciknhpaaDoor
set_option linter.unusedSimpArgs false
set_option linter.unusedVariables false
open Go.RowKit
theorem Kept.of_grown {w w' : World} {r : Option Nat} (h : w.grownBy w' r) : Kept (fun k => some k = r) w w' :=
  ⟨h.os, h.tape, h.output, h.size, fun k hk hx => h.block k hk hx⟩
theorem own_lt {α : Type} {enc : α → List Value} {sz B : Nat} {e : TypeId} {w : World} {v : Value} {l : List α} (h : OwnE enc sz e B w v l) {x : Nat} (hx : v.ownBlock = some x) : ∃ cs, Cells w x cs e := by
  rcases h.2 with ⟨rfl, _⟩ | ⟨g, cap, cur, rfl, _, hg, _⟩
  · cases hx
  · injection hx with hx
    subst hx
    exact ⟨cur, hg⟩
def SrcE {α : Type} (enc : α → List Value) (sz : Nat) (w : World) (u : Value) (m : List α) : Prop :=
  (u = .slice none 0 0 ∧ m = []) ∨ ∃ b off c, u = .slice (some ⟨b, off, none⟩) m.length c ∧ ∀ j x, (flatE enc m)[j]? = some x → w.cell? ⟨b, off + j, none⟩ = some x
theorem OwnE.src {α : Type} {enc : α → List Value} {sz : Nat} {e : TypeId} {B : Nat} {w : World} {v : Value} {l : List α} (h : OwnE enc sz e B w v l) : SrcE enc sz w v l := by
  rcases h.2 with ⟨h1, h2⟩ | ⟨g, cap, cur, rfl, _, _, _⟩
  · exact .inl ⟨h1, List.length_eq_zero_iff.1 h2⟩
  · refine .inr ⟨g, 0, cap, rfl, fun j x hx => ?_⟩
    have hj : j < l.length * sz := by rw [← h.1]; exact (List.getElem?_eq_some_iff.1 hx).1
    have := World.ownsRow.cellAt h j hj
    rw [Nat.zero_add, this]
    exact hx
theorem info_of {e : TypeId} {z : Value} {sz by' : Nat} (h : (Tryd.prog.info? e).map (fun i => (i.zero, i.size, i.bytes)) = some (some z, sz, by')) : ∃ i, Tryd.prog.info? e = some i ∧ i.zero = some z ∧ i.size = sz ∧ i.bytes = by' := by
  cases hi : Tryd.prog.info? e with
  | none => rw [hi] at h; cases h
  | some i =>
    rw [hi] at h
    simp only [Option.map_some, Option.some.injEq, Prod.mk.injEq] at h
    exact ⟨i, rfl, h.1, h.2.1, h.2.2⟩
theorem own_append {α : Type} {enc : α → List Value} {sz : Nat} {t e ty : TypeId} {z : Value} {by' : Nat} (ht : Tryd.prog.underlying t = some (.slice e)) (hi : (Tryd.prog.info? e).map (fun i => (i.zero, i.size, i.bytes)) = some (some z, sz, by')) (hz : z.cells.size = sz) (hsz : 0 < sz)
    (hen : ∀ a, (enc a).length = sz) (hone : ∀ a, ∀ u ∈ enc a, u.oneCell' = true) {B : Nat} {w : World} {v : Value} {l : List α} (h : OwnE enc sz e B w v l) (hB : B ≤ w.heap.size) {u : Value} {m : List α} (hu : SrcE enc sz w u m) (hn : l.length + m.length ≤ maxLen) (hby : (l.length + m.length) * by' ≤ 140737488355328) :
    ∃ v' w', (Builtin.append_ #[t, t] ty #[v, u]).run Tryd.prog w = .ok v' w' ∧ OwnE enc sz e B w' v' (l ++ m) ∧ Kept (fun k => some k = v.ownBlock) w w' ∧ (v'.ownBlock = v.ownBlock ∨ v'.ownBlock = some w.heap.size) := by
  obtain ⟨i, h1, h2, h3, h4⟩ := info_of hi
  rcases hu with ⟨rfl, rfl⟩ | ⟨b, off, c, rfl, hc⟩
  · refine ⟨v, w, run_append_owned_none (P := Tryd.prog) (w := w) B t ty e i sz ht h1 v l.length (flatE enc l) h, by rw [List.append_nil]; exact h, Kept.refl _ _, .inl rfl⟩
  · obtain ⟨v', w', r1, r2, r3, _, r5⟩ := run_append_own_at w B t ty e i z sz by' ht h1 h2 h3 h4 hz hsz v l.length (flatE enc l) h ⟨b, off, none⟩ m.length c (flatE enc m) (flatE_length hen m)
      (fun j x hx => by rw [show (⟨b, off, none⟩ : Addr).add j = ⟨b, off + j, none⟩ by unfold Addr.add; split <;> simp_all]; exact hc j x hx)
      (fun x hx => by obtain ⟨a, _, ha⟩ := List.mem_flatMap.1 hx; exact hone a x ha) hn hby hB
    refine ⟨v', w', r1, ?_, Kept.of_grown r3, r5⟩
    unfold OwnE
    rw [flatE_append, List.length_append]
    exact r2
theorem OwnE.part {α : Type} {enc : α → List Value} {sz : Nat} (hen : ∀ a, (enc a).length = sz) {e : TypeId} {B : Nat} {w : World} {g cap : Nat} {n : Nat} {pre m post : List α} (h : OwnE enc sz e B w (.slice (some ⟨g, 0, none⟩) n cap) (pre ++ (m ++ post))) (hN : n = (pre ++ (m ++ post)).length) (off c : Nat) (ho : 0 < m.length → off = pre.length * sz) : SrcE enc sz w (.slice (some ⟨g, off, none⟩) m.length c) m := by
  subst hN
  refine .inr ⟨g, off, c, rfl, fun j x hx => ?_⟩
  have hj : j < m.length * sz := by rw [← flatE_length hen m]; exact (List.getElem?_eq_some_iff.1 hx).1
  have h0 : 0 < m.length := by
    rcases Nat.eq_zero_or_pos m.length with h | h
    · rw [h] at hj; omega
    · exact h
  rw [ho h0]
  have hlen : pre.length * sz + j < (pre ++ (m ++ post)).length * sz := by
    rw [List.length_append, List.length_append, Nat.add_mul, Nat.add_mul]; omega
  rw [World.ownsRow.cellAt h _ hlen]
  rw [flatE_append, flatE_append, List.getElem?_append_right (by rw [flatE_length hen]; omega), flatE_length hen, show pre.length * sz + j - pre.length * sz = j by omega, List.getElem?_append_left (by rw [flatE_length hen]; exact hj)]
  exact hx
theorem SrcE.one {α : Type} {enc : α → List Value} {sz : Nat} {w : World} {B : Nat} {a : α} {ty : TypeId} (h : Cells w B (enc a).toArray ty) : SrcE enc sz w (.slice (some ⟨B, 0, none⟩) 1 1) [a] := by
  refine .inr ⟨B, 0, 1, rfl, fun j x hx => ?_⟩
  rw [Nat.zero_add, h.cell]
  have e : flatE enc [a] = enc a := by simp [flatE]
  rw [e] at hx
  simpa using hx
theorem OwnE.reads {α : Type} {enc : α → List Value} {sz : Nat} {e : TypeId} (hlen : ∀ a, (enc a).length = sz) {B : Nat} {W : World} {v : Value} {l : List α} (h : OwnE enc sz e B W v l) (hm : l.length ≤ 9223372036854775807) : ReadsE enc sz W v l := by
  rcases h.2 with ⟨h1, h2⟩ | ⟨g, cap, cur, hv, hb, hg, h3⟩
  · have : l = [] := List.length_eq_zero_iff.1 h2
    subst this; subst h1
    exact ReadsE.nil _ _ _
  · subst hv
    refine ⟨hm, _, cap, g, 0, rfl, fun _ => ⟨rfl, (Array.getElem?_eq_some_iff.1 hg).1⟩, fun k hk j hj => ?_⟩
    rw [Nat.zero_add, World.ownsRow.cellAt h _ (by have : k * sz + sz ≤ l.length * sz := by { rw [← Nat.succ_mul]; exact Nat.mul_le_mul_right _ hk }; omega), flatE_get hlen l k hk j hj]
theorem OwnE.far {α : Type} {enc : α → List Value} {sz : Nat} {e : TypeId} {B : Nat} {w w' : World} {v : Value} {l : List α} (h : OwnE enc sz e B w v l) {r : Nat} {cs : Array Value} {ty : TypeId} (hr : Cells w r cs ty) (ht : e ≠ ty) (hk : Kept (fun k => k = r) w w') : OwnE enc sz e B w' v l :=
  OwnE.kept h hk (fun b hb => by obtain ⟨cs', hcs⟩ := own_lt h hb; exact hcs.ne hr ht)
/-- The cells of an own row whose block is named. -/
theorem OwnE.cellsAt {α : Type} {enc : α → List Value} {sz B : Nat} {e : TypeId} {w : World} {g n cap : Nat} {l : List α} (hlen : ∀ a, (enc a).length = sz) (h : OwnE enc sz e B w (.slice (some ⟨g, 0, none⟩) n cap) l) :
    n = l.length ∧ g < w.heap.size ∧ B ≤ g ∧ ∀ (k : Nat) (hk : k < l.length) (j : Nat), j < sz → w.cell? ⟨g, k * sz + j, none⟩ = (enc l[k])[j]? := by
  rcases h.2 with ⟨h1, h2⟩ | ⟨g', cap', cur, hv, hb, hg, h3⟩
  · cases h1
  · cases hv
    refine ⟨rfl, (Array.getElem?_eq_some_iff.1 hg).1, hb, fun k hk j hj => ?_⟩
    rw [World.ownsRow.cellAt h _ (by have : k * sz + sz ≤ l.length * sz := by { rw [← Nat.succ_mul]; exact Nat.mul_le_mul_right _ hk }; omega), flatE_get hlen l k hk j hj]
end Go.Proofs.YtojednnciknhpaaDoor
