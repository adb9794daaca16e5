/- board.Get of an entry that the board has: all that it shows. -/
import Derived.Test.YtdjhpldiifdifaaJLk0
namespace Go.Proofs.Ytdjhpldiifdifaa
set_option linter.unusedSimpArgs false
set_option linter.unusedVariables false
open Go.RowKit Go.Shelf
attribute [local go_sem] Oper.semAt_some
attribute [local go_sem ↓] Go.wp_at_zero Go.wp_at_succ

theorem BdC.entryW {O : Nat → Nat} {q : Nat} {w : World} {b : Nat} {G : Mm} {nums last : Int} {evs : List Ev} (h : BdC O q w b G nums last evs) {E : Nat} (hE : E ∈ G.live) : ∃ wx px, (wx = true ↔ E ∈ G.wt) ∧ EnC w E (G.en E) wx px := by
  have nt : ∀ {P : Option Nat}, EnC w E (G.en E) false P → ¬ E ∈ G.wt := fun {P} h1 h2 => by
    have h3 := (h.wait.ent E h2).2
    have e1 : w.cell? ⟨E, 11, none⟩ = some (.bool false) := by rw [Cells.cell h1]; rfl
    have e2 : w.cell? ⟨E, 11, none⟩ = some (.bool true) := by rw [Cells.cell h3]; rfl
    rw [e1] at e2
    injection e2 with e2
    injection e2 with e2
    cases e2
  have := (Mm.put_live (s := 1) (.inl rfl) G [] G.en).1.mem_iff.1 hE
  rcases List.mem_append.1 this with h2 | h2
  · obtain ⟨_, P, hP⟩ := h.buy.entry h2
    exact ⟨false, _, ⟨fun e => (by cases e), fun e => absurd e (nt hP)⟩, hP⟩
  · rcases List.mem_append.1 h2 with h2 | h2
    · obtain ⟨_, P, hP⟩ := h.sell.entry h2
      exact ⟨false, _, ⟨fun e => (by cases e), fun e => absurd e (nt hP)⟩, hP⟩
    · exact ⟨true, _, ⟨fun _ => h2, fun _ => rfl⟩, (h.wait.ent E h2).2⟩

set_option maxRecDepth 100000 in
set_option maxHeartbeats 4000000 in
theorem get_found {O : Nat → Nat} {q : Nat} {w : World} {b : Nat} {G : Mm} {nums last : Int} {evs : List Ev} (h : BdC O q w b G nums last evs) {E : Nat} (hE : E ∈ G.live) :
    Calls Try.prog 18 #[pt b, .int .i64 (G.en E).n] w fun e w' => Below w.heap.size w w' ∧ ∃ wts, (wts = true ↔ E ∈ G.wt) ∧ e = .returned (.tuple #[statA (G.en E).o (G.en E).l (G.en E).h wts, .int .i64 0]) := by
  have hmem : G.en E ∈ (G.bd nums last).live := by rw [Mm.bd_live]; exact List.mem_map.2 ⟨E, hE, rfl⟩
  have hnu := (live_ok h.ok hmem).1
  have hnb := h.ok.nums
  have hn : (Lit.int .i64 (G.en E).n).wf = true := WalkArith.wf_i64 (by omega)
  have hb := h.step (Step.of_below (Below.alloc (Below.refl w.heap.size w) (Nat.le_refl _) (.cells #[.int .i64 0, .int .i64 0, .int .i64 0, .int .i64 0, .int .i64 0, .int .i64 0, .int .i64 0, .int .i64 0, .int .i64 0, .int .i64 0, .bool false] 42)) (fun _ => False)) (fun _ _ => not_false)
  obtain ⟨_, bm, _, _, hbl, _, _⟩ := h.parts.cells (s := 1) (.inl rfl)
  obtain ⟨nn, hnn⟩ : ∃ nn, nn = (G.en E).n := ⟨_, rfl⟩
  have hlk : (Instr.lookup 88 (.map (some G.mb)) (.int .i64 nn) false).run Try.prog (w.alloc (.cells #[.int .i64 0, .int .i64 0, .int .i64 0, .int .i64 0, .int .i64 0, .int .i64 0, .int .i64 0, .int .i64 0, .int .i64 0, .int .i64 0, .bool false] 42)) = .ok (pt E) (w.alloc (.cells #[.int .i64 0, .int .i64 0, .int .i64 0, .int .i64 0, .int .i64 0, .int .i64 0, .int .i64 0, .int .i64 0, .int .i64 0, .int .i64 0, .bool false] 42)) := by
    rw [hnn]
    rcases hb.look hn with ⟨E', hE', hEn, lk⟩ | ⟨hno, _⟩
    · have hnd : (G.live.map fun E => (G.en E).n).Nodup := by
        have := h.ok.once
        rw [Mm.bd_live] at this
        simpa [numsL, Function.comp_def] using this
      have e : E' = E := nodup_map_inj hnd hE' hE hEn
      rw [e] at lk
      exact lk
    · exact absurd (List.mem_map.2 ⟨E, hE, rfl⟩) hno
  obtain ⟨wx, px, hw, eE⟩ := h.entryW hE
  obtain ⟨x1, x2, x3, x4, x5, x6, x7, x8, x9⟩ := eE.order
  obtain ⟨_, _, _, _, _, _, x10, hEl, _, _⟩ := eE.cells
  obtain ⟨x11, _⟩ := eE.flag
  have LK := hid hlk
  have HW := hid hw
  rw [← hnn]
  obtain ⟨R, hR⟩ : ∃ R : Ending → World → Prop, R = fun e w' => Below w.heap.size w w' ∧ ∃ wts, (wts = true ↔ E ∈ G.wt) ∧ e = .returned (.tuple #[statA (G.en E).o (G.en E).l (G.en E).h wts, .int .i64 0]) := ⟨_, rfl⟩
  have HR := hid hR
  rw [← hR]
  clear h hb hE hlk eE hmem hnu hnb hn hnn hw hR
  go_enter Try.func18, Try.ntmps18
  go_wp2_with (refine wpList_lookup_run rfl (.tmp 13) (.tmp 14) 88 rfl _ _ _ rfl rfl LK.out ?_)
  go_region
  all_goals go_wp2
  all_goals exact bodyPost_ret (v := .tuple #[statA (G.en E).o (G.en E).l (G.en E).h wx, .int .i64 0]) (by simp [results, Try.results18, go_sem, statA]) rfl (by rw [HR.out]; exact ⟨Below.drew (Below.alloc (Below.refl _ _) (Nat.le_refl _) _), wx, HW.out, rfl⟩)
end Go.Proofs.Ytdjhpldiifdifaa
