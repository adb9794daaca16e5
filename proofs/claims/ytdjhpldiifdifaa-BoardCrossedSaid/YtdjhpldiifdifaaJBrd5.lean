/- tell, take, add, and the map's changes, in terms of a board's parts; board.trade. -/
import Derived.Test.YtdjhpldiifdifaaJBrd4
namespace Go.Proofs.Ytdjhpldiifdifaa
set_option linter.unusedSimpArgs false
set_option linter.unusedVariables false
open Go.RowKit Go.Shelf
attribute [local go_sem] Oper.semAt_some
attribute [local go_sem ↓] Go.wp_at_zero Go.wp_at_succ

theorem wpList_delete_run {P : Program} {w : World} {ops : Array Oper} {rest : List Oper} {o : Oper} {a : Act} {Q : Exit → Act → World → Prop} (hgd : o.guard = none) (s x : Operand) (t k : TypeId)
    (ho : o.op = .call { callee := .builtin .delete, args := #[s, x], argTypes := #[t, k] }) (sv xv : Value) (w' : World) (hs : a.eval s = sv) (hx : a.eval x = xv) (hrun : (Builtin.delete_ #[t, k] o.type #[sv, xv]).run P w = .ok (.tuple #[]) w') (h : wpList P ops Q rest (a.put o.dst (.tuple #[])) w') :
    wpList P ops Q (o :: rest) a w := by
  refine wpList_plain hgd fun K hK => ?_
  unfold Oper.wp
  simp [execOp, ho, resolve, invoke, builtin, hs, hx, hrun, Result.andThen]
  exact hK _ _ h
theorem wpList_mapUpdate_run {P : Program} {w : World} {ops : Array Oper} {rest : List Oper} {o : Oper} {a : Act} {Q : Exit → Act → World → Prop} (hgd : o.guard = none) (m x v : Operand) (t : TypeId)
    (ho : o.op = .mapUpdate t m x v) (mv xv vv : Value) (w' : World) (hm : a.eval m = mv) (hx : a.eval x = xv) (hv : a.eval v = vv) (hrun : (Instr.mapUpdate t mv xv vv).run P w = .ok () w') (h : wpList P ops Q rest (a.put o.dst undef) w') :
    wpList P ops Q (o :: rest) a w := by
  refine wpList_plain hgd fun K hK => ?_
  unfold Oper.wp
  simp [execOp, ho, hm, hx, hv, hrun, Result.andThen]
  exact hK _ _ h

section
variable {O : Nat → Nat} {q : Nat} {w : World} {b : Nat} {G : Mm} {nums last : Int} {evs : List Ev} {m : List (Int × Nat)}
def ToldP (O : Nat → Nat) (q : Nat) (w : World) (b : Nat) (G : Mm) (nums last : Int) (evs : List Ev) (m : List (Int × Nat)) (e : Ending) (w' : World) : Prop :=
  e = .returned (.tuple #[]) ∧ ∃ O', PtC O' q w' b G nums last evs m ∧ Step (fun x => x = q + 3) O w O' w'
theorem tell_pt (h : PtC O q w b G nums last evs m) (hlen : evs.length ≤ 3000000000000) {X : Nat} {x : En} {wts : Bool} {pl : Option Nat} (hX : EnC w X x wts pl) (what other price qty : Int) :
    Calls Try.prog 41 #[pt b, .int .i64 what, pt X, .int .i64 other, .int .i64 price, .int .i64 qty] w (ToldP O q w b G nums last (evs ++ [⟨what, x.n, other, price, qty⟩]) m) :=
  (tell_calls h.top hlen hX what other price qty).mono fun e w' ⟨h1, h2, h3⟩ =>
    have st : Step (fun x => x = q + 3) O w (grow O w (q + 3)) w' := Step.grow h3
    ⟨h1, _, ⟨h2, h.buy.step st (by omega) (fun _ _ => rfl), h.sell.step st (by omega) (fun _ _ => rfl), h.map.step st (by omega), h.wait.step st (by omega) (fun _ _ => rfl)⟩, st⟩
def TakenP (O : Nat → Nat) (q : Nat) (w : World) (b : Nat) (G : Mm) (nums last : Int) (evs : List Ev) (m : List (Int × Nat)) (s : Int) (Y : Nat) (e : Ending) (w' : World) : Prop :=
  e = .returned (.tuple #[]) ∧ ∃ O' ls', PtC O' q w' b (G.put s ls' G.en) nums last evs m ∧ plainH ls' G.en = popH (plainH (G.L s) G.en) ∧ ensL (G.L s) = Y :: ensL ls' ∧ HdC O' (colS q s) w' Y (G.en Y) false ∧ Step (fun x => x = colS q s) O w O' w'
theorem take_pt (h : PtC O q w b G nums last evs m) {s : Int} (hs : s = 1 ∨ s = 2) (hsh : HSh s (plainH (G.L s) G.en)) (hlen : (ensL (G.L s)).length ≤ 5000) {Y : Nat} (hY : frontL (G.L s) = some Y) :
    Calls Try.prog 72 #[pt (G.H s), pt Y] w (TakenP O q w b G nums last evs m s Y) :=
  (half_pop (h.side hs) hsh hlen hY).mono fun e w' ⟨h1, ⟨ls', h2, h3, h4⟩, h5, h6⟩ =>
    have st : Step (fun x => x = colS q s) O w (grow O w (colS q s)) w' := Step.grow h6
    ⟨h1, _, ls', h.putSide hs st h2 (fun _ _ => rfl) (fun _ _ => rfl), h3, h4, ⟨h5, grow_same ((h.side hs).front hY).1⟩, st⟩
def AddedP (O : Nat → Nat) (q : Nat) (w : World) (b : Nat) (G : Mm) (nums last : Int) (evs : List Ev) (m : List (Int × Nat)) (s : Int) (X : Nat) (e : Ending) (w' : World) : Prop :=
  e = .returned (.tuple #[]) ∧ ∃ O' ls', PtC O' q w' b (G.put s ls' G.en) nums last evs m ∧ plainH ls' G.en = addH s (G.en X) (plainH (G.L s) G.en) ∧ (ensL ls').Perm (X :: ensL (G.L s)) ∧ Step (fun x => x = colS q s) O w O' w'
theorem add_pt (h : PtC O q w b G nums last evs m) {s : Int} (hs : s = 1 ∨ s = 2) (hsh : HSh s (plainH (G.L s) G.en)) (hlen : (ensL (G.L s)).length ≤ 5000) {X : Nat} (hX : X ∉ ensL (G.L s)) (eX : HdC O (colS q s) w X (G.en X) false) :
    Calls Try.prog 67 #[pt (G.H s), pt X] w (AddedP O q w b G nums last evs m s X) :=
  (half_add (h.side hs) hsh hlen hX eX.col eX.ent).mono fun e w' ⟨h1, ⟨ls', h2, h3, h4⟩, h6⟩ =>
    have st : Step (fun x => x = colS q s) O w (grow O w (colS q s)) w' := Step.grow h6
    ⟨h1, _, ls', h.putSide hs st h2 (fun _ _ => rfl) (fun _ _ => rfl), h3, h4, st⟩
/-- delete(entries, number) -/
theorem drop_pt {n : Int} {E : Nat} {m' : List (Int × Nat)} (h : PtC O q w b G nums last evs m) (hp : m.Perm ((n, E) :: m')) (ty : TypeId) :
    ∃ w', (Builtin.delete_ #[88, 3] ty #[.map (some G.mb), .int .i64 n]).run Try.prog w = .ok (.tuple #[]) w' ∧ PtC O q w' b G nums last evs m' ∧ Step (fun x => x = q + 6) O w O w' := by
  obtain ⟨w', r1, r2, r3⟩ := (h.map.map.perm hp).drop ty
  have st : Step (fun x => x = q + 6) O w O w' := Step.of_kept0 r3 (fun k _ e => by rw [e]; exact h.map.col)
  exact ⟨w', r1, ⟨h.top.step st (by omega), h.buy.step st (by omega) (fun _ _ => rfl), h.sell.step st (by omega) (fun _ _ => rfl), ⟨r2, h.map.col⟩, h.wait.step st (by omega) (fun _ _ => rfl)⟩, st⟩
/-- entries[number] = entry -/
theorem put_pt {n : Int} {E : Nat} (h : PtC O q w b G nums last evs m) (hlen : m.length ≤ 1000000) (hn : (Lit.int .i64 n).wf = true) (hnew : n ∉ m.map Prod.fst) :
    ∃ w', (Instr.mapUpdate 88 (.map (some G.mb)) (.int .i64 n) (pt E)).run Try.prog w = .ok () w' ∧ PtC O q w' b G nums last evs ((n, E) :: m) ∧ Step (fun x => x = q + 6) O w O w' := by
  obtain ⟨w', r1, r2, r3⟩ := h.map.map.put hlen hn hnew (e := E)
  have st : Step (fun x => x = q + 6) O w O w' := Step.of_kept0 r3 (fun k _ e => by rw [e]; exact h.map.col)
  exact ⟨w', r1, ⟨h.top.step st (by omega), h.buy.step st (by omega) (fun _ _ => rfl), h.sell.step st (by omega) (fun _ _ => rfl), ⟨r2, h.map.col⟩, h.wait.step st (by omega) (fun _ _ => rfl)⟩, st⟩
end
theorem Mm.put_put {s : Int} (hs : s = 1 ∨ s = 2) (G : Mm) (l1 l2 : List Lv) (e1 e2 : Nat → En) : (G.put s l1 e1).put s l2 e2 = G.put s l2 e2 := by rcases hs with rfl | rfl <;> rfl
end Go.Proofs.Ytdjhpldiifdifaa
