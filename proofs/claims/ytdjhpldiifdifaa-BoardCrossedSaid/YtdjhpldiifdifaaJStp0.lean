/- A waiting entry is taken in hand: memory. No function of the program in sight. -/
import Derived.Test.YtdjhpldiifdifaaJSlc
namespace Go.Proofs.Ytdjhpldiifdifaa
set_option linter.unusedSimpArgs false
set_option linter.unusedVariables false
open Go.RowKit Go.Shelf

/-- The board without waiting entries but these. -/
def Mm.wait (G : Mm) (l : List Nat) : Mm := { G with wt := l }
theorem PtC.waits {O : Nat → Nat} {q : Nat} {w : World} {b : Nat} {G : Mm} {nums last : Int} {evs : List Ev} {m : List (Int × Nat)} (h : PtC O q w b G nums last evs m) : ∃ vw, w.cell? ⟨b, 4, none⟩ = some vw ∧ OwnE encPt 1 92 0 w vw G.wt ∧ (∀ x, vw.ownBlock = some x → O x = q + 3) ∧ b < w.heap.size ∧ w.frozen? ⟨b, 4, none⟩ = false := by
  obtain ⟨vw, ve, h1, h2, _, h4, _⟩ := h.top.cell
  exact ⟨vw, by rw [h1.cell]; rfl, h2, h4, h1.lt, h1.frozen 4⟩
/-- waiting = Delete(waiting, i, i + 1) -/
theorem PtC.setWait {O : Nat → Nat} {q : Nat} {w w1 : World} {b : Nat} {G : Mm} {nums last : Int} {evs : List Ev} {m : List (Int × Nat)} (h : PtC O q w b G nums last evs m) {vw v' : Value} (hc : w.cell? ⟨b, 4, none⟩ = some vw) {l : List Nat} (ho : OwnE encPt 1 92 0 w1 v' l) (hk : Kept (fun k => some k = vw.ownBlock) w w1) (hb : v'.ownBlock = vw.ownBlock) (hl : ∀ E ∈ l, E ∈ G.wt) (hn : l.Nodup) :
    PtC O q (w1.setCell ⟨b, 4, none⟩ v') b (G.wait l) nums last evs m ∧ Step (fun c => c = q + 3) O w O (w1.setCell ⟨b, 4, none⟩ v') ∧ ∀ E ∈ G.wt, HdC O (q + 4) (w1.setCell ⟨b, 4, none⟩ v') E (G.en E) true := by
  obtain ⟨vw', ve, h1, h2, h3, h4, h5⟩ := h.top.cell
  have e : vw' = vw := by
    rw [h1.cell] at hc
    injection hc
  subst e
  have hbv : ∀ g, vw'.ownBlock = some g → g ≠ b := fun g hg => by obtain ⟨cs, hcs⟩ := own_lt h2 hg; exact hcs.ne h1 (by decide)
  have hB1 := h1.kept hk (fun e => hbv b e.symm rfl)
  have hve : OwnE encEv 5 40 0 w1 ve evs := OwnE.kept h3 hk (fun g hg e => by
    obtain ⟨cs, hcs⟩ := own_lt h3 hg
    obtain ⟨cs', hcs'⟩ := own_lt h2 e.symm
    exact hcs.ne hcs' (by decide) rfl)
  have st1 : Step (fun c => c = q + 3) O w O w1 := Step.of_kept0 hk (fun k _ e => h4 k e.symm)
  have st2 : Step (fun c => c = q + 3) O w1 O (w1.setCell ⟨b, 4, none⟩ v') := Step.set h.top.col 4 v'
  have st := st1.trans st2
  refine ⟨⟨⟨⟨v', ve, hB1.set 4 v', ho.set hB1 (by decide) 4 v', hve.set hB1 (by decide) 4 v', fun x hx => ?_, h5⟩, h.top.col⟩, h.buy.step st (by omega) (fun _ _ => rfl), h.sell.step st (by omega) (fun _ _ => rfl), h.map.step st (by omega), ?_⟩, st, fun E hE => ?_⟩
  · rw [hb] at hx; exact h4 x hx
  · have wt := h.wait.step st (by omega) (fun _ _ => rfl)
    exact ⟨fun E hE => wt.ent E (hl E hE), hn⟩
  · have wt := h.wait.step st (by omega) (fun _ _ => rfl)
    obtain ⟨w1, w2⟩ := wt.ent E hE
    exact ⟨w2, w1⟩
theorem PtC.keptTop {O : Nat → Nat} {q : Nat} {w w1 : World} {b : Nat} {G : Mm} {nums last : Int} {evs : List Ev} {m : List (Int × Nat)} (h : PtC O q w b G nums last evs m) {vw : Value} (hc : w.cell? ⟨b, 4, none⟩ = some vw) (hk : Kept (fun k => some k = vw.ownBlock) w w1) : (∃ u, w1.cell? ⟨b, 4, none⟩ = some u) ∧ w1.frozen? ⟨b, 4, none⟩ = false ∧ b < w1.heap.size := by
  obtain ⟨vw', ve, h1, h2, h3, h4, h5⟩ := h.top.cell
  have e : vw' = vw := by
    rw [h1.cell] at hc
    injection hc
  subst e
  have hbv : ∀ g, vw'.ownBlock = some g → g ≠ b := fun g hg => by obtain ⟨cs, hcs⟩ := own_lt h2 hg; exact hcs.ne h1 (by decide)
  have hB1 := h1.kept hk (fun e => hbv b e.symm rfl)
  exact ⟨⟨_, by rw [hB1.cell]; rfl⟩, hB1.frozen 4, hB1.lt⟩
theorem EnC.flag {w : World} {X : Nat} {x : En} {wx : Bool} {px : Option Nat} (h : EnC w X x wx px) : w.cell? ⟨X, 11, none⟩ = some (.bool wx) ∧ w.frozen? ⟨X, 11, none⟩ = false := ⟨by rw [Cells.cell h]; rfl, Cells.frozen h 11⟩
/-- waits = false -/
theorem PtC.grab {O : Nat → Nat} {q : Nat} {w : World} {b : Nat} {G : Mm} {nums last : Int} {evs : List Ev} {m : List (Int × Nat)} (h : PtC O q w b G nums last evs m) {E : Nat} {e : En} (hE : HdC O (q + 4) w E e true) (hn : E ∉ G.wt) :
    PtC (paint O E (q + 5)) q (w.setCell ⟨E, 11, none⟩ (.bool false)) b G nums last evs m ∧ HdC (paint O E (q + 5)) (q + 5) (w.setCell ⟨E, 11, none⟩ (.bool false)) E e false ∧ Step (colB q) O w (paint O E (q + 5)) (w.setCell ⟨E, 11, none⟩ (.bool false)) := by
  have hc := hE.col
  have hk : Kept (fun k => k = E) w (w.setCell ⟨E, 11, none⟩ (.bool false)) := (Kept.refl (fun k => k = E) w).set (C := E) rfl 11 _
  have s1 : Step (fun c => c = q + 4 ∨ c = q + 5) O w (paint O E (q + 5)) w := Step.paint O w (.inl hc) (.inl (.inr rfl))
  have s2 : Step (fun c => c = q + 4 ∨ c = q + 5) (paint O E (q + 5)) w (paint O E (q + 5)) (w.setCell ⟨E, 11, none⟩ (.bool false)) := by
    refine ⟨hk.os, hk.tape, hk.output, hk.size, fun k hkk hn => ⟨hk.block k hkk (fun e => hn (.inr (by rw [e, paint_self]))), rfl⟩, fun k _ h => .inl h⟩
  have st := s1.trans s2
  refine ⟨⟨h.top.step st (by omega), h.buy.step st (by omega) (fun _ _ => rfl), h.sell.step st (by omega) (fun _ _ => rfl), h.map.step st (by omega), ⟨fun D hD => ?_, h.wait.nod⟩⟩, ⟨?_, paint_self _ _ _⟩, st.wider (fun c hc => ?_)⟩
  · obtain ⟨d1, d2⟩ := h.wait.ent D hD
    have hne : D ≠ E := fun e => hn (by rw [← e]; exact hD)
    exact ⟨by rw [paint_far O hne]; exact d1, d2.kept hk hne⟩
  · exact Cells.set hE.ent 11 (.bool false)
  · rcases hc with rfl | rfl <;> exact ⟨by omega, by omega⟩
theorem PtC.live_col {O : Nat → Nat} {q : Nat} {w : World} {b : Nat} {G : Mm} {nums last : Int} {evs : List Ev} {m : List (Int × Nat)} (h : PtC O q w b G nums last evs m) {E : Nat} (hE : E ∈ G.live) : colB q (O E) := by
  have := (Mm.put_live (s := 1) (.inl rfl) G [] G.en).1.mem_iff.1 hE
  rcases List.mem_append.1 this with h1 | h1
  · rw [((h.side (.inl rfl)).entry h1).1]; exact colS_cases q (.inl rfl)
  · rcases List.mem_append.1 h1 with h1 | h1
    · rw [((h.side (.inr rfl)).entry (en := G.en) h1).1]; exact colS_cases q (.inr rfl)
    · rw [(h.wait.ent E h1).1]; exact ⟨by omega, by omega⟩
theorem PtC.live_ne {O : Nat → Nat} {q : Nat} {w : World} {b : Nat} {G : Mm} {nums last : Int} {evs : List Ev} {m : List (Int × Nat)} (h : PtC O q w b G nums last evs m) {E : Nat} (hE : E ∈ G.live) : O E ≠ q + 3 := by
  have := (Mm.put_live (s := 1) (.inl rfl) G [] G.en).1.mem_iff.1 hE
  rcases List.mem_append.1 this with h1 | h1
  · rw [((h.side (.inl rfl)).entry h1).1]; exact (colS_ne q (.inl rfl)).2.1
  · rcases List.mem_append.1 h1 with h1 | h1
    · rw [((h.side (.inr rfl)).entry (en := G.en) h1).1]; exact (colS_ne q (.inr rfl)).2.1
    · rw [(h.wait.ent E h1).1]; omega
theorem Mm.wait_live (G : Mm) {pre post : List Nat} {E : Nat} (h : G.wt = pre ++ E :: post) : G.live.Perm (E :: (G.wait (pre ++ post)).live) := by
  show (ensL G.lb ++ (ensL G.ls ++ G.wt)).Perm (E :: (ensL G.lb ++ (ensL G.ls ++ (pre ++ post))))
  rw [h]
  exact (((List.perm_middle).append_left _).trans List.perm_middle).append_left _ |>.trans List.perm_middle
theorem Mm.wait_bd (G : Mm) (l : List Nat) (nums last : Int) : (G.wait l).bd nums last = { G.bd nums last with wait := l.map G.en } := rfl
theorem map_split {l : List Nat} {en : Nat → En} {pre post : List En} {x : En} (h : l.map en = pre ++ x :: post) : ∃ p E r, l = p ++ E :: r ∧ p.map en = pre ∧ en E = x ∧ r.map en = post := by
  obtain ⟨p, r', h1, h2, h3⟩ := List.map_eq_append_iff.1 h
  obtain ⟨E, r, h4, h5, h6⟩ := List.map_eq_cons_iff.1 h3
  exact ⟨p, E, r, by rw [h1, h4], h2, h5, h6⟩
end Go.Proofs.Ytdjhpldiifdifaa
