/- board.Get. -/
import Derived.Test.YtdjhpldiifdifaaNew
namespace Go.Proofs.Ytdjhpldiifdifaa
set_option linter.unusedSimpArgs false
set_option linter.unusedVariables false
open Go.RowKit Go.Shelf
attribute [local go_sem] Oper.semAt_some
attribute [local go_sem ↓] Go.wp_at_zero Go.wp_at_succ

theorem wpList_lookup_run {P : Program} {w : World} {ops : Array Oper} {rest : List Oper} {o : Oper} {a : Act} {Q : Exit → Act → World → Prop} (hgd : o.guard = none) (m x : Operand) (t : TypeId)
    (ho : o.op = .lookup t m x false) (mv xv v : Value) (hm : a.eval m = mv) (hx : a.eval x = xv) (hrun : (Instr.lookup t mv xv false).run P w = .ok v w) (h : wpList P ops Q rest (a.put o.dst v) w) :
    wpList P ops Q (o :: rest) a w := by
  refine wpList_plain hgd fun K hK => ?_
  unfold Oper.wp
  simp [execOp, ho, hm, hx, hrun, Result.andThen]
  exact hK _ _ h
/-- An entry on the board: its cells. -/
theorem BdC.entry {O : Nat → Nat} {q : Nat} {w : World} {b : Nat} {G : Mm} {nums last : Int} {evs : List Ev} (h : BdC O q w b G nums last evs) {E : Nat} (hE : E ∈ G.live) : ∃ wx px, EnC w E (G.en E) wx px := by
  have := (Mm.put_live (s := 1) (.inl rfl) G [] G.en).1.mem_iff.1 hE
  rcases List.mem_append.1 this with h2 | h2
  · obtain ⟨_, P, hP⟩ := h.buy.entry h2
    exact ⟨_, _, hP⟩
  · rcases List.mem_append.1 h2 with h2 | h2
    · obtain ⟨_, P, hP⟩ := h.sell.entry h2
      exact ⟨_, _, hP⟩
    · exact ⟨_, _, (h.wait.ent E h2).2⟩
/-- The map's look-up, in terms of the board. -/
theorem BdC.look {O : Nat → Nat} {q : Nat} {w : World} {b : Nat} {G : Mm} {nums last : Int} {evs : List Ev} (h : BdC O q w b G nums last evs) {n : Int} (hn : (Lit.int .i64 n).wf = true) :
    (∃ E ∈ G.live, (G.en E).n = n ∧ (Instr.lookup 88 (.map (some G.mb)) (.int .i64 n) false).run Try.prog w = .ok (pt E) w) ∨ (n ∉ G.live.map (fun E => (G.en E).n) ∧ (Instr.lookup 88 (.map (some G.mb)) (.int .i64 n) false).run Try.prog w = .ok (.pointer none) w) := by
  have lk := h.map.map.look hn
  cases hg : getM (prs G.en G.live) n with
  | none =>
    right
    rw [hg] at lk
    have := getM_none hg
    refine ⟨fun hm => this ?_, lk⟩
    obtain ⟨E, hE, e⟩ := List.mem_map.1 hm
    exact List.mem_map.2 ⟨(_, E), List.mem_map.2 ⟨E, hE, rfl⟩, e⟩
  | some E =>
    left
    rw [hg] at lk
    obtain ⟨E', hE', e⟩ := List.mem_map.1 (getM_mem hg)
    injection e with e1 e2
    subst e2
    exact ⟨E', hE', e1, lk⟩

set_option maxRecDepth 100000 in
set_option maxHeartbeats 4000000 in
theorem get_calls {O : Nat → Nat} {q : Nat} {w : World} {b : Nat} {G : Mm} {nums last : Int} {evs : List Ev} (h : BdC O q w b G nums last evs) (n : Int) (hn : (Lit.int .i64 n).wf = true) :
    Calls Try.prog 18 #[pt b, .int .i64 n] w (GetP w G n) := by
  have hb := h.step (Step.of_below (Below.alloc (Below.refl w.heap.size w) (Nat.le_refl _) (.cells #[.int .i64 0, .int .i64 0, .int .i64 0, .int .i64 0, .int .i64 0, .int .i64 0, .int .i64 0, .int .i64 0, .int .i64 0, .int .i64 0, .bool false] 42)) (fun _ => False)) (fun _ _ => not_false)
  obtain ⟨_, bm, _, _, hbl, _, _⟩ := h.parts.cells (s := 1) (.inl rfl)
  rcases hb.look hn with ⟨E, hE, hEn, lk⟩ | ⟨hno, lk⟩
  · obtain ⟨wx, px, eE⟩ := h.entry hE
    obtain ⟨x1, x2, x3, x4, x5, x6, x7, x8, x9⟩ := eE.order
    obtain ⟨_, _, _, _, _, _, x10, hEl, _, _⟩ := eE.cells
    obtain ⟨x11, _⟩ := eE.flag
    have LK := hid lk
    have HE := hid hE
    have HN := hid hEn
    clear h hb hE hEn lk eE
    go_enter Try.func18, Try.ntmps18
    go_wp2_with (refine wpList_lookup_run rfl (.tmp 13) (.tmp 14) 88 rfl _ _ _ rfl rfl LK.out ?_)
    go_region
    all_goals go_wp2
    all_goals exact bodyPost_ret (v := .tuple #[statA (G.en E).o (G.en E).l (G.en E).h wx, .int .i64 0]) (by simp [results, Try.results18, go_sem, statA]) rfl ⟨Below.drew (Below.alloc (Below.refl _ _) (Nat.le_refl _) _), .inl ⟨E, HE.out, HN.out, wx, rfl⟩⟩
  · have LK := hid lk
    have HN := hid hno
    clear h hb lk hno
    go_enter Try.func18, Try.ntmps18
    go_wp2_with (refine wpList_lookup_run rfl (.tmp 13) (.tmp 14) 88 rfl _ _ _ rfl rfl LK.out ?_)
    exact bodyPost_ret (v := .tuple #[statA od0 0 0 false, .int .i64 4]) (by simp [results, Try.results18, go_sem, statA, od0]) rfl ⟨Below.alloc (Below.refl _ _) (Nat.le_refl _) _, .inr ⟨HN.out, rfl⟩⟩
end Go.Proofs.Ytdjhpldiifdifaa
