/- Amend in plain Lean, and an entry that is changed in its place. board.Amend. board.Amend: an order that is not there, or another's. board.Amend: the entry is less where it rests. board.Amend: less, in its place. board.Amend: the order comes in again: behind takeOff. board.Amend: the order comes in again. board.Amend. -/
import Derived.Test.YtdjhpldiifdifaaJCan
namespace Go.Proofs.Ytdjhpldiifdifaa
set_option linter.unusedSimpArgs false
set_option linter.unusedVariables false
open Go.RowKit Go.Shelf

/-- The order that comes in again. -/
def amO (o : Od) (p q : Int) : Od := ⟨o.m, o.s, 1, 1, p, 0, q, min o.pk q⟩
theorem amO_ok {o : Od} (ho : o.ok = true) {p q : Int} (hp : 1 ≤ p ∧ p ≤ 1000000) (hq : 1 ≤ q ∧ q ≤ 1000000000) : (amO o p q).ok = true := by
  have hpk := okPk ho
  have hm : inB2 o.m 1 1000 = true ∧ sideB o.s = true := by
    unfold Od.ok at ho
    simp only [Bool.and_eq_true] at ho
    exact ⟨ho.1.1.1.1.1.1, ho.1.1.1.1.1.2⟩
  unfold Od.ok amO
  simp only [hm.1, hm.2, Bool.true_and, if_true]
  have h1 : inB2 1 1 4 = true := by decide
  have h2 : inB2 q 1 1000000000 = true := inB2_iff.2 hq
  have h3 : inB2 0 0 1000000 = true := by decide
  have h4 : inB2 p 1 1000000 = true := inB2_iff.2 hp
  have h5 : (decide (min o.pk q = 0) || inB2 (min o.pk q) 1 q && (decide ((1 : Int) = 1) || decide ((1 : Int) = 4))) = true := by
    rcases hpk with h | h
    · rw [decide_eq_true (show min o.pk q = 0 by omega)]; rfl
    · rw [show inB2 (min o.pk q) 1 q = true from inB2_iff.2 (by omega)]; simp
  simp only [h1, h2, h3, h4, Bool.true_and, Bool.and_true, Bool.and_self]
  simpa using h5
/-- An entry's left and shown are less. -/
def lessE (e : En) (q : Int) : En := { e with l := q, h := min e.h q }
def updH (n q : Int) (h : Half) : Half := h.map fun x => (x.1, x.2.map fun e => if e.n = n then lessE e q else e)
/-- Amend: the error. -/
def amendE (S : Bd) (e : En) (wts : Bool) (m p q : Int) : Int := if e.o.m ≠ m then 8 else if wts = true then 5 else if inB2 p 1 1000000 = false ∨ inB2 q 1 1000000000 = false then 1 else 0
/-- Amend: the board and the events. -/
def amendF (S : Bd) (e : En) (p q : Int) : Bd × List Ev :=
  if p = e.o.p ∧ q ≤ e.l then (S.put e.o.s (updH e.n q (S.half e.o.s)), [])
  else
    let r := comeF (S.off e false) e.n (amO e.o p q) q []
    stopsF r.1.wait.length r.1 r.2
theorem updH_ok {side nums n q : Int} (hq : 1 ≤ q) {h : Half} (hh : HOk side nums h) (hl : ∀ e ∈ h.all, e.n = n → q ≤ e.l) : HOk side nums (updH n q h) := by
  refine ⟨fun x hx => ?_, fun x hx e he => ?_, fun x hx e he => ?_, ?_⟩
  · obtain ⟨y, hy, rfl⟩ := List.mem_map.1 hx
    have := hh.full y hy
    simpa using this
  · obtain ⟨y, hy, rfl⟩ := List.mem_map.1 hx
    obtain ⟨d, hd, rfl⟩ := List.mem_map.1 he
    have k := hh.ent y hy d hd
    split
    · rename_i hdn
      have hql := hl d (List.mem_flatMap.2 ⟨y, hy, hd⟩) hdn
      obtain ⟨k1, k2, k3, k4, k5, k6, k7⟩ := k
      exact ⟨k1, k2, k3, by simp only [lessE]; omega, by simp only [lessE]; omega, k6, fun hlt => k7 (by simp only [lessE] at hlt; omega)⟩
    · exact k
  · obtain ⟨y, hy, rfl⟩ := List.mem_map.1 hx
    obtain ⟨d, hd, rfl⟩ := List.mem_map.1 he
    have k := hh.price y hy d hd
    split
    · exact k
    · exact k
  · have := hh.sorted
    unfold updH
    rw [List.pairwise_map]
    exact this
theorem updH_nums (n q : Int) (h : Half) : numsL (updH n q h).all = numsL h.all := by
  induction h with
  | nil => rfl
  | cons x r ih =>
    show numsL (((x.2.map fun e => if e.n = n then lessE e q else e)) ++ (updH n q r).all) = numsL (x.2 ++ Half.all r)
    rw [numsL_append, numsL_append, ih]
    congr 1
    unfold numsL
    rw [List.map_map]
    refine List.map_congr_left fun e _ => ?_
    simp only [Function.comp]
    split <;> rfl
/-- An entry of a side is changed where it rests. -/
theorem HlfC.setAt {O : Nat → Nat} {c : Nat} {w w' : World} {H : Nat} {side : Int} {ls : List Lv} {en : Nat → En} (h : HlfC O c w H side ls en) {X : Nat} (hX : X ∈ ensL ls) {q : Int} (hk : Kept (fun k => k = X) w w') (he : ∀ E, EnC w X (en X) false (some E) → EnC w' X (lessE (en X) q) false (some E)) (hn : (numsL ((ensL ls).map en)).Nodup) :
    HlfC O c w' H side ls (setEn en X (lessE (en X) q)) ∧ plainH ls (setEn en X (lessE (en X) q)) = updH (en X).n q (plainH ls en) := by
  obtain ⟨_, P, eX⟩ := h.entry hX
  obtain ⟨v, c1, c2, c3⟩ := h.cell
  refine ⟨⟨⟨v, c1.kept hk (c1.ne eX (by decide)), OwnE.kept c2 hk (fun b hb => by obtain ⟨cs, hcs⟩ := own_lt c2 hb; exact hcs.ne eX (by decide)), c3⟩, h.col, fun x hx => ?_, h.nodL, h.nodE, h.nodN⟩, ?_⟩
  · have hx' := h.lv x hx
    refine ⟨hx'.1.keptC hk (hx'.1.c.ne eX (by decide)) (fun y hy => by obtain ⟨cs, hc⟩ := hx'.el hy; exact hc.ne eX (by decide)), hx'.2.1, fun y hy => ?_⟩
    obtain ⟨d1, d2, d3⟩ := hx'.2.2 y hy
    refine ⟨d1, d2, ?_⟩
    by_cases hyX : y.2 = X
    · rw [hyX, setEn_self]
      refine he _ ?_
      have := d3
      rw [hyX] at this
      exact this
    · rw [setEn_far _ _ hyX]
      exact d3.kept hk hyX
  · unfold plainH updH
    rw [List.map_map]
    refine List.map_congr_left fun x hx => ?_
    simp only [Function.comp]
    congr 1
    rw [List.map_map]
    refine List.map_congr_left fun y hy => ?_
    simp only [Function.comp]
    by_cases hyX : y.2 = X
    · rw [hyX, setEn_self, if_pos rfl]
    · rw [setEn_far _ _ hyX, if_neg (fun e => hyX ?_)]
      have hyl := mem_ens hx hy
      obtain ⟨i, hi, e1⟩ := List.getElem_of_mem hyl
      obtain ⟨j, hj, e2⟩ := List.getElem_of_mem hX
      have h2 : ((ensL ls).map fun E => (en E).n).Nodup := by
        have := hn
        simp only [numsL, List.map_map] at this
        exact this
      have := (List.getElem_inj (h₀ := by simpa using hi) (h₁ := by simpa using hj) h2).1 (by simp [e1, e2, e])
      subst this
      rw [← e1, ← e2]
end Go.Proofs.Ytdjhpldiifdifaa
namespace Go.Proofs.Ytdjhpldiifdifaa
set_option linter.unusedSimpArgs false
set_option linter.unusedVariables false
open Go.RowKit Go.Shelf
attribute [local go_sem] Oper.semAt_some
attribute [local go_sem ↓] Go.wp_at_zero Go.wp_at_succ

theorem owned_cases {O : Nat → Nat} {q : Nat} {w : World} {b : Nat} {G : Mm} {nums last : Int} {evs : List Ev} (h : BdC O q w b G nums last evs) (n m : Int) (hn : (Lit.int .i64 n).wf = true) :
    (n ∉ G.live.map (fun E => (G.en E).n) ∧ Calls Try.prog 39 #[pt b, .int .i64 n, .int .i64 m] w fun e w' => e = .returned (.tuple #[.pointer none, .int .i64 4]) ∧ w' = w) ∨
      (∃ E ∈ G.live, (G.en E).n = n ∧ (G.en E).o.m ≠ m ∧ Calls Try.prog 39 #[pt b, .int .i64 n, .int .i64 m] w fun e w' => e = .returned (.tuple #[.pointer none, .int .i64 8]) ∧ w' = w) ∨
      ∃ E ∈ G.live, (G.en E).n = n ∧ (G.en E).o.m = m ∧ Calls Try.prog 39 #[pt b, .int .i64 n, .int .i64 m] w fun e w' => e = .returned (.tuple #[pt E, .int .i64 0]) ∧ w' = w := by
  have HO := owned_calls h n m hn
  have uniq : ∀ {D E : Nat}, D ∈ G.live → E ∈ G.live → (G.en D).n = (G.en E).n → D = E := fun {D E} hD hE e => by
    have h1 := h.ok.once
    rw [Mm.bd_live] at h1
    have h2 : (G.live.map fun E => (G.en E).n).Nodup := by
      have := h1
      simp only [numsL, List.map_map] at this
      exact this
    obtain ⟨i, hi, rfl⟩ := List.getElem_of_mem hD
    obtain ⟨j, hj, rfl⟩ := List.getElem_of_mem hE
    have := (List.getElem_inj (h₀ := by simpa using hi) (h₁ := by simpa using hj) h2).1 (by simpa using e)
    subst this
    rfl
  by_cases hno : n ∈ G.live.map (fun E => (G.en E).n)
  · obtain ⟨E, hE, hEn⟩ := List.mem_map.1 hno
    by_cases hm : (G.en E).o.m = m
    · refine .inr (.inr ⟨E, hE, hEn, hm, HO.mono ?_⟩)
      rintro e w' ⟨rfl, ⟨D, hD, h1, h2, rfl⟩ | ⟨D, hD, h1, h2, rfl⟩ | ⟨h1, _⟩⟩
      · rw [uniq hD hE (h1.trans hEn.symm)]; exact ⟨rfl, rfl⟩
      · rw [uniq hD hE (h1.trans hEn.symm)] at h2; exact absurd hm h2
      · exact absurd hno h1
    · refine .inr (.inl ⟨E, hE, hEn, hm, HO.mono ?_⟩)
      rintro e w' ⟨rfl, ⟨D, hD, h1, h2, rfl⟩ | ⟨D, hD, h1, h2, rfl⟩ | ⟨h1, _⟩⟩
      · rw [uniq hD hE (h1.trans hEn.symm)] at h2; exact absurd h2 hm
      · exact ⟨rfl, rfl⟩
      · exact absurd hno h1
  · refine .inl ⟨hno, HO.mono ?_⟩
    rintro e w' ⟨rfl, ⟨D, hD, h1, h2, rfl⟩ | ⟨D, hD, h1, h2, rfl⟩ | ⟨h1, rfl⟩⟩
    · exact absurd (List.mem_map.2 ⟨D, hD, h1⟩) hno
    · exact absurd (List.mem_map.2 ⟨D, hD, h1⟩) hno
    · exact ⟨rfl, rfl⟩
/-- What Amend comes to. -/
def AmendP (O : Nat → Nat) (q : Nat) (w : World) (b : Nat) (G : Mm) (nums last : Int) (n m p qt : Int) (e : Ending) (w' : World) : Prop :=
  (n ∉ G.live.map (fun E => (G.en E).n) ∧ e = .returned (.tuple #[.slice none 0 0, .int .i64 4]) ∧ BdC O q w' b G nums last [] ∧ Step (colB q) O w O w') ∨
  (∃ E ∈ G.live, (G.en E).n = n ∧ ∃ wts, (wts = true ↔ E ∈ G.wt) ∧
    ((amendE (G.bd nums last) (G.en E) wts m p qt ≠ 0 ∧ e = .returned (.tuple #[.slice none 0 0, .int .i64 (amendE (G.bd nums last) (G.en E) wts m p qt)]) ∧ BdC O q w' b G nums last [] ∧ Step (colB q) O w O w') ∨
     (amendE (G.bd nums last) (G.en E) wts m p qt = 0 ∧ ∃ v O' G' last', e = .returned (.tuple #[v, .int .i64 0]) ∧ OwnE encEv 5 40 0 w' v (amendF (G.bd nums last) (G.en E) p qt).2 ∧ (∀ g, v.ownBlock = some g → O' g = q + 3) ∧ BdC O' q w' b G' nums last' [] ∧ G'.bd nums last' = (amendF (G.bd nums last) (G.en E) p qt).1 ∧ Step (colB q) O w O' w')))

set_option maxRecDepth 100000 in
set_option maxHeartbeats 8000000 in
theorem amend_no {O : Nat → Nat} {q : Nat} {w : World} {b : Nat} {G : Mm} {nums last : Int} (h : BdC O q w b G nums last []) (n m p qt : Int) {E : Nat} (hE : E ∈ G.live) (hEn : (G.en E).n = n) (hm : (G.en E).o.m = m) (ow : Calls Try.prog 39 #[pt b, .int .i64 n, .int .i64 m] w fun e w' => e = .returned (.tuple #[pt E, .int .i64 0]) ∧ w' = w) {wts : Bool} (hw : wts = true ↔ E ∈ G.wt)
    (hA : amendE (G.bd nums last) (G.en E) wts m p qt ≠ 0) :
    Calls Try.prog 30 #[pt b, .int .i64 n, .int .i64 m, .int .i64 p, .int .i64 qt] w (AmendP O q w b G nums last n m p qt) := by
  have OW := hid ow
  have flag : w.cell? ⟨E, 11, none⟩ = some (.bool wts) ∧ E < w.heap.size := by
    rcases live_cases hE with hwE | ⟨s, hs, hsE⟩
    · have := (h.wait.ent E hwE).2
      rw [hw.2 hwE]
      exact ⟨this.flag.1, this.lt⟩
    · obtain ⟨hO, P, eS⟩ := (h.side hs).entry hsE
      have : wts = false := by
        cases hc : wts with
        | false => rfl
        | true =>
          have := (h.wait.ent E (hw.1 hc)).1
          rw [hO] at this
          exact absurd this (colS_ne q hs).2.2.1
      rw [this]
      exact ⟨eS.flag.1, eS.lt⟩
  obtain ⟨f11, hEl⟩ := flag
  have fin : AmendP O q w b G nums last n m p qt (.returned (.tuple #[.slice none 0 0, .int .i64 (amendE (G.bd nums last) (G.en E) wts m p qt)])) w := .inr ⟨E, hE, hEn, wts, hw, .inl ⟨hA, rfl, h, Step.refl _ _ _⟩⟩
  have hA2 := hA
  unfold amendE at hA2
  rw [if_neg (by simpa using hm)] at hA2
  by_cases h1 : wts = true
  · have he : amendE (G.bd nums last) (G.en E) wts m p qt = 5 := by unfold amendE; rw [if_neg (by simpa using hm), if_pos h1]
    rw [he] at fin
    have FIN := hid fin
    rw [h1] at f11
    clear ow h hE hEn hm hw hA hA2 he fin h1
    generalize AmendP O q w b G nums last n m p qt = R at *
    go_enter Try.func30, Try.ntmps30
    go_wp2_with fail
    refine OW.out.mono ?_
    rintro e w1 ⟨rfl, rfl⟩
    go_wp2
    exact FIN.out
  · rw [if_neg h1] at hA2
    have h1f : wts = false := by simpa using h1
    rw [h1f] at f11
    have h2 : inB2 p 1 1000000 = false ∨ inB2 qt 1 1000000000 = false := by
      refine Decidable.byContradiction fun hc => ?_
      rw [if_neg hc] at hA2
      exact hA2 rfl
    have he : amendE (G.bd nums last) (G.en E) wts m p qt = 1 := by unfold amendE; rw [if_neg (by simpa using hm), if_neg h1, if_pos h2]
    rw [he] at fin
    have FIN := hid fin
    clear ow h hE hEn hm hw hA hA2 he fin h1 h1f
    generalize AmendP O q w b G nums last n m p qt = R at *
    cases hp : inB2 p 1 1000000 with
    | false =>
      have I1 := hid (in_calls p 1 1000000 w)
      rw [hp] at I1
      clear h2 hp
      go_enter Try.func30, Try.ntmps30
      go_wp2_with fail
      refine OW.out.mono ?_
      rintro e w1 ⟨rfl, rfl⟩
      go_wp2_with fail
      refine I1.out.mono ?_
      rintro e w1 ⟨rfl, rfl⟩
      go_wp2
      exact FIN.out
    | true =>
      have hq : inB2 qt 1 1000000000 = false := by
        rcases h2 with h2 | h2
        · rw [hp] at h2; cases h2
        · exact h2
      have I1 := hid (in_calls p 1 1000000 w)
      rw [hp] at I1
      have I2 := hid (in_calls qt 1 1000000000 w)
      rw [hq] at I2
      clear h2 hp hq
      go_enter Try.func30, Try.ntmps30
      go_wp2_with fail
      refine OW.out.mono ?_
      rintro e w1 ⟨rfl, rfl⟩
      go_wp2_with fail
      refine I1.out.mono ?_
      rintro e w1 ⟨rfl, rfl⟩
      go_wp2_with fail
      refine I2.out.mono ?_
      rintro e w1 ⟨rfl, rfl⟩
      go_wp2
      exact FIN.out
end Go.Proofs.Ytdjhpldiifdifaa
namespace Go.Proofs.Ytdjhpldiifdifaa
set_option linter.unusedSimpArgs false
set_option linter.unusedVariables false
open Go.RowKit Go.Shelf
attribute [local go_sem] Oper.semAt_some
attribute [local go_sem ↓] Go.wp_at_zero Go.wp_at_succ

set_option maxRecDepth 100000 in
set_option maxHeartbeats 8000000 in
theorem amend_none {O : Nat → Nat} {q : Nat} {w : World} {b : Nat} {G : Mm} {nums last : Int} (h : BdC O q w b G nums last []) (n m p qt : Int) (hno : n ∉ G.live.map (fun E => (G.en E).n)) (ow : Calls Try.prog 39 #[pt b, .int .i64 n, .int .i64 m] w fun e w' => e = .returned (.tuple #[.pointer none, .int .i64 4]) ∧ w' = w) :
    Calls Try.prog 30 #[pt b, .int .i64 n, .int .i64 m, .int .i64 p, .int .i64 qt] w (AmendP O q w b G nums last n m p qt) := by
  have OW := hid ow
  have fin : AmendP O q w b G nums last n m p qt (.returned (.tuple #[.slice none 0 0, .int .i64 4])) w := .inl ⟨hno, rfl, h, Step.refl _ _ _⟩
  have FIN := hid fin
  clear ow h hno fin
  generalize AmendP O q w b G nums last n m p qt = R at *
  go_enter Try.func30, Try.ntmps30
  go_wp2_with fail
  refine OW.out.mono ?_
  rintro e w1 ⟨rfl, rfl⟩
  go_wp2
  exact FIN.out
set_option maxRecDepth 100000 in
set_option maxHeartbeats 8000000 in
theorem amend_other {O : Nat → Nat} {q : Nat} {w : World} {b : Nat} {G : Mm} {nums last : Int} (h : BdC O q w b G nums last []) (n m p qt : Int) {E : Nat} (hE : E ∈ G.live) (hEn : (G.en E).n = n) (hm : (G.en E).o.m ≠ m) (ow : Calls Try.prog 39 #[pt b, .int .i64 n, .int .i64 m] w fun e w' => e = .returned (.tuple #[.pointer none, .int .i64 8]) ∧ w' = w) :
    Calls Try.prog 30 #[pt b, .int .i64 n, .int .i64 m, .int .i64 p, .int .i64 qt] w (AmendP O q w b G nums last n m p qt) := by
  have OW := hid ow
  have he : ∀ wts, amendE (G.bd nums last) (G.en E) wts m p qt = 8 := fun wts => by unfold amendE; rw [if_pos hm]
  have fin : AmendP O q w b G nums last n m p qt (.returned (.tuple #[.slice none 0 0, .int .i64 8])) w :=
    .inr ⟨E, hE, hEn, decide (E ∈ G.wt), by simp, .inl ⟨by rw [he]; decide, by rw [he], h, Step.refl _ _ _⟩⟩
  have FIN := hid fin
  clear ow h hE hEn hm he fin
  generalize AmendP O q w b G nums last n m p qt = R at *
  go_enter Try.func30, Try.ntmps30
  go_wp2_with fail
  refine OW.out.mono ?_
  rintro e w1 ⟨rfl, rfl⟩
  go_wp2
  exact FIN.out
end Go.Proofs.Ytdjhpldiifdifaa
namespace Go.Proofs.Ytdjhpldiifdifaa
set_option linter.unusedSimpArgs false
set_option linter.unusedVariables false
open Go.RowKit Go.Shelf

/-- An entry rests with less. -/
theorem BdC.less {O : Nat → Nat} {q : Nat} {w : World} {b : Nat} {G : Mm} {nums last : Int} (h : BdC O q w b G nums last []) {E : Nat} {s : Int} (hs : s = 1 ∨ s = 2) (hE : E ∈ ensL (G.L s)) {k : Int} (hk : 1 ≤ k) (hl : k ≤ (G.en E).l) {w' : World} (hw : w' = (w.setCell ⟨E, 9, none⟩ (.int .i64 k)).setCell ⟨E, 10, none⟩ (.int .i64 (min (G.en E).h k))) :
    ∃ G', BdC O q w' b G' nums last [] ∧ G'.bd nums last = (G.bd nums last).put s (updH (G.en E).n k ((G.bd nums last).half s)) ∧ Step (colB q) O w O w' := by
  obtain ⟨hO, P, eS⟩ := (h.side hs).entry hE
  have lv := Mm.put_live hs G (G.L s) (setEn G.en E (lessE (G.en E) k))
  have h1 := h.ok.once
  rw [Mm.bd_live] at h1
  have hnd : (numsL ((ensL (G.L s)).map G.en)).Nodup := by
    have h2 := (numsL_perm (lv.1.map G.en)).nodup_iff.1 h1
    rw [List.map_append, numsL_append] at h2
    exact (List.nodup_append.1 h2).1
  have kY : Kept (fun c => c = E) w w' := by rw [hw]; exact ((Kept.refl (fun c => c = E) w).set (C := E) rfl 9 _).set (C := E) rfl 10 _
  have st : Step (fun c => c = colS q s) O w O w' := Step.of_kept0 kY (fun c _ e => by rw [e]; exact hO)
  obtain ⟨g1, g2⟩ := (h.side hs).setAt hE kY (q := k) (fun P eP => by rw [hw]; exact (eP.setL _).setH _) hnd
  obtain ⟨f1, f2⟩ := h.parts.enF hs hO (lessE (G.en E) k)
  have p := h.parts.putSide hs st g1 f1 f2
  obtain ⟨v1, v2, v3⟩ := Mm.put_same hs G (G.L s) _ f1 f2
  have hc := colS_cases q hs
  have lvp : G.live.Perm (G.put s (G.L s) (setEn G.en E (lessE (G.en E) k))).live := lv.1.trans lv.2.symm
  have eb : (G.put s (G.L s) (setEn G.en E (lessE (G.en E) k))).bd nums last = (G.bd nums last).put s (updH (G.en E).n k ((G.bd nums last).half s)) := by
    rw [bd_put hs v1 nums last last, v2, v3, g2, Mm.plain G hs]
    exact put_last hs _
  have en : ∀ D, (setEn G.en E (lessE (G.en E) k) D).n = (G.en D).n := fun D => setEn_n G.en E (lessE (G.en E) k) rfl D
  refine ⟨_, (p.perm ?_).board ?_ ?_, eb, st.B hc.1 hc.2⟩
  · rw [v3, prs_congr (fun D _ => en D)]
    exact prs_perm _ lvp
  · rw [eb]
    refine put_ok h.ok hs (updH_ok hk ?_ ?_) ?_
    · exact h.ok.half hs
    · intro e he hen
      rw [Mm.plain G hs, plainH_all] at he
      obtain ⟨D, hD, rfl⟩ := List.mem_map.1 he
      have : D = E := by
        obtain ⟨i, hi, e1⟩ := List.getElem_of_mem hD
        obtain ⟨j, hj, e2⟩ := List.getElem_of_mem hE
        have h2 : ((ensL (G.L s)).map fun E => (G.en E).n).Nodup := by
          have := hnd
          simp only [numsL, List.map_map] at this
          exact this
        have := (List.getElem_inj (h₀ := by simpa using hi) (h₁ := by simpa using hj) h2).1 (by simp [e1, e2, hen])
        subst this
        rw [← e1, ← e2]
      rw [this]
      exact hl
    · rw [← eb, Mm.bd_live, v3]
      have e : numsL ((G.put s (G.L s) (setEn G.en E (lessE (G.en E) k))).live.map (setEn G.en E (lessE (G.en E) k))) = numsL ((G.put s (G.L s) (setEn G.en E (lessE (G.en E) k))).live.map G.en) := by
        unfold numsL
        rw [List.map_map, List.map_map]
        exact List.map_congr_left fun D _ => en D
      rw [e]
      exact (numsL_perm (lvp.map G.en)).nodup_iff.1 h1
  · rw [← lvp.length_eq]
    exact h.few
end Go.Proofs.Ytdjhpldiifdifaa
namespace Go.Proofs.Ytdjhpldiifdifaa
set_option linter.unusedSimpArgs false
set_option linter.unusedVariables false
open Go.RowKit Go.Shelf
attribute [local go_sem] Oper.semAt_some
attribute [local go_sem ↓] Go.wp_at_zero Go.wp_at_succ

set_option maxRecDepth 100000 in
set_option maxHeartbeats 8000000 in
theorem amend_here {O : Nat → Nat} {q : Nat} {w : World} {b : Nat} {G : Mm} {nums last : Int} (h : BdC O q w b G nums last []) (n m p qt : Int) {E : Nat} (hE : E ∈ G.live) (hEn : (G.en E).n = n) (hm : (G.en E).o.m = m) (ow : Calls Try.prog 39 #[pt b, .int .i64 n, .int .i64 m] w fun e w' => e = .returned (.tuple #[pt E, .int .i64 0]) ∧ w' = w) (hw : E ∉ G.wt)
    (hp : inB2 p 1 1000000 = true) (hq : inB2 qt 1 1000000000 = true) (hpo : p = (G.en E).o.p) (hql : qt ≤ (G.en E).l) :
    Calls Try.prog 30 #[pt b, .int .i64 n, .int .i64 m, .int .i64 p, .int .i64 qt] w (AmendP O q w b G nums last n m p qt) := by
  have OW := hid ow
  have hq1 := (inB2_iff.1 hq).1
  obtain ⟨s, hs, hsE⟩ : ∃ s, (s = 1 ∨ s = 2) ∧ E ∈ ensL (G.L s) := by
    rcases live_cases hE with hwE | hx
    · exact absurd hwE hw
    · exact hx
  obtain ⟨hO, P, eS⟩ := (h.side hs).entry hsE
  have ok := (h.sok hs).mem (G.en E) (by rw [plainH_all]; exact List.mem_map.2 ⟨E, hsE, rfl⟩)
  have f11 := eS.flag.1
  obtain ⟨_, _, _, x5, _, x9, x10, hEl, z9, z10⟩ := eS.cells
  rw [← hpo] at x5
  have hA : amendE (G.bd nums last) (G.en E) false m p qt = 0 := by
    unfold amendE
    rw [if_neg (by simpa using hm), if_neg (by decide), if_neg (by rw [hp, hq]; decide)]
  obtain ⟨W, hW⟩ : ∃ W, W = (w.setCell ⟨E, 9, none⟩ (.int .i64 qt)).setCell ⟨E, 10, none⟩ (.int .i64 (min (G.en E).h qt)) := ⟨_, rfl⟩
  obtain ⟨G', b1, b2, b3⟩ := h.less hs hsE hq1 hql hW
  have hF : amendF (G.bd nums last) (G.en E) p qt = (G'.bd nums last, []) := by
    unfold amendF
    rw [if_pos ⟨hpo, hql⟩, b2, ok.s]
  have fin : AmendP O q w b G nums last n m p qt (.returned (.tuple #[.slice none 0 0, .int .i64 0])) W := .inr ⟨E, hE, hEn, false, ⟨fun e => (by cases e), fun e => absurd e hw⟩, .inr ⟨hA, _, O, G', last, rfl, by rw [hF]; exact OwnE.nil 0 _, fun g hg => (by cases hg), b1, by rw [hF], b3⟩⟩
  have FIN := hid fin
  have HW := hid hW
  have I1 := hid (in_calls p 1 1000000 w)
  rw [hp] at I1
  have I2 := hid (in_calls qt 1 1000000000 w)
  rw [hq] at I2
  clear ow h hE hEn hm hw hp hq hpo hO eS ok hA hW b1 b2 b3 hF fin hsE hs hq1
  generalize AmendP O q w b G nums last n m p qt = R at *
  generalize (G.en E).l = L at *
  generalize (G.en E).h = H at *
  go_enter Try.func30, Try.ntmps30
  go_wp2_with fail
  refine OW.out.mono ?_
  rintro e w1 ⟨rfl, rfl⟩
  go_wp2_with fail
  refine I1.out.mono ?_
  rintro e w1 ⟨rfl, rfl⟩
  go_wp2_with fail
  refine I2.out.mono ?_
  rintro e w1 ⟨rfl, rfl⟩
  go_wp2
  all_goals (
    have HWW := HW.out
    first
    | (have hz : min H qt = H := by omega
       rw [hz] at HWW
       rw [← HWW]
       exact FIN.out)
    | (have hz : min H qt = qt := by omega
       rw [hz] at HWW
       rw [← HWW]
       exact FIN.out))
end Go.Proofs.Ytdjhpldiifdifaa
namespace Go.Proofs.Ytdjhpldiifdifaa
set_option linter.unusedSimpArgs false
set_option linter.unusedVariables false
open Go.RowKit Go.Shelf

/-- The order is in again. -/
structure AmB (O : Nat → Nat) (q : Nat) (w W : World) (b : Nat) (G : Mm) (nums last : Int) (R : Bd × List Ev) (O1 : Nat → Nat) (G1 : Mm) (l1 : Int) : Prop where
  bd : BdC O1 q W b G1 nums l1 R.2
  eq : G1.bd nums l1 = R.1
  ev : ∀ e ∈ R.2, EvOk nums e
  size : R.2.length + sizeL R.1.live ≤ 2000000000000
  step : Step (colB q) O w O1 W
theorem amend_come {O : Nat → Nat} {q : Nat} {w : World} {b : Nat} {G : Mm} {nums last : Int} (h : BdC O q w b G nums last []) {E : Nat} (hE : E ∈ G.live) {s : Int} (ok : EnOk s nums (G.en E)) {p qt : Int} (hp : inB2 p 1 1000000 = true) (hq : inB2 qt 1 1000000000 = true) (hsz : sizeL (G.bd nums last).live ≤ 1000000000000)
    {w2 : World} {O2 : Nat → Nat} {G2 : Mm} {wts : Bool} (p2 : PtC O2 q w2 b G2 nums last [] (prs G2.en G2.live)) (q2 : G2.bd nums last = (G.bd nums last).off (G.en E) wts) (q3 : wts = true ↔ E ∈ G.wt) (q4 : G.live.Perm (E :: G2.live)) (q5 : G2.en = G.en) (q6 : Step (colB q) O w O2 w2)
    {ob : Obj} {pk : Int} (hpk : pk = min (G.en E).o.pk qt) :
    Calls Try.prog 45 #[pt b, pt (w2.heap.size + 1)] ((w2.alloc ob).alloc (.cells #[.int .i64 (G.en E).n, .int .i64 (G.en E).o.m, .int .i64 (G.en E).o.s, .int .i64 1, .int .i64 1, .int .i64 p, .int .i64 0, .int .i64 qt, .int .i64 pk, .int .i64 qt, .int .i64 0, .bool false, .pointer none] 99)) fun e w' =>
      e = .returned (.tuple #[]) ∧ ∃ O1 G1 l1, AmB O q w w' b G nums last (comeF ((G.bd nums last).off (G.en E) wts) (G.en E).n (amO (G.en E).o p qt) qt []) O1 G1 l1 := by
  have hp1 := inB2_iff.1 hp
  have hq1 := inB2_iff.1 hq
  have ok2 := off_ok h hE q2 q3 q4 q5
  have hlen := q4.length_eq
  rw [List.length_cons] at hlen
  have hf := h.few
  have few2 : G2.live.length ≤ 4096 := by omega
  have oo := amO_ok ok.ok hp1 hq1
  obtain ⟨w3, hw3⟩ : ∃ w3, w3 = w2.alloc ob := ⟨_, rfl⟩
  rw [← hw3]
  have sz3 : w3.heap.size = w2.heap.size + 1 := by rw [hw3]; simp
  obtain ⟨w4, hw4⟩ : ∃ w4, w4 = w3.alloc (.cells #[.int .i64 (G.en E).n, .int .i64 (G.en E).o.m, .int .i64 (G.en E).o.s, .int .i64 1, .int .i64 1, .int .i64 p, .int .i64 0, .int .i64 qt, .int .i64 pk, .int .i64 qt, .int .i64 0, .bool false, .pointer none] 99) := ⟨_, rfl⟩
  have b3 : Below w2.heap.size w2 w3 := by rw [hw3]; exact (Below.refl _ w2).alloc (Nat.le_refl _) _
  have b4 : Below w2.heap.size w2 w4 := by rw [hw4]; exact b3.alloc (by omega) _
  have cX : EnC w4 (w2.heap.size + 1) ⟨(G.en E).n, amO (G.en E).o p qt, qt, 0⟩ false none := by
    rw [hw4, ← sz3, hpk]
    exact Cells.new w3 _ _
  rw [← hw4]
  obtain ⟨pf, sf⟩ := p2.fresh b4 (q + 5)
  have hX : HdC (grow O2 w2 (q + 5)) (q + 5) w4 (w2.heap.size + 1) ⟨(G.en E).n, amO (G.en E).o p qt, qt, 0⟩ false := ⟨cX, grow_new (by omega)⟩
  have bd := pf.board ok2 few2
  have hnew : (G.en E).n ∉ numsL (G2.bd nums last).live := by
    have h1 := h.ok.once
    rw [Mm.bd_live] at h1 ⊢
    have h2 := (numsL_perm (q4.map G.en)).nodup_iff.1 h1
    rw [q5]
    exact (List.nodup_cons.1 (show (_ :: numsL (G2.live.map G.en)).Nodup from h2)).1
  have hs2 : sizeL (G2.bd nums last).live ≤ 1000000000000 := by
    rw [Mm.bd_live] at hsz ⊢
    have e := sizeL_perm (q4.map G.en)
    rw [List.map_cons, sizeL_cons] at e
    rw [q5]
    omega
  have cm := come_calls bd hX oo ok.n hnew ⟨by simp only; omega, by simp only [amO]; omega⟩ (by omega) (by simp) (by simp only [List.length_nil]; omega)
  have ck := comeF_ok (left := qt) (n := (G.en E).n) bd.ok oo ok.n hnew ⟨by omega, by simp only [amO]; omega⟩ (evs := []) (by simp)
  refine cm.mono ?_
  rintro e w' ⟨r1, O', G', l', r2, r3, r4, r5, r6, r7⟩
  have ev := ck.evok
  rw [q2] at r2 r3 ev
  refine ⟨r1, O', G', l', ⟨r2, r3, fun e he => ?_, ?_, (q6.trans sf).trans r5⟩⟩
  · have := ev e he
    have hn : ((G.bd nums last).off (G.en E) wts).nums = nums := by rw [← q2]; rfl
    rw [hn] at this
    exact this
  have := ck.size
  rw [← q2]
  simp only [List.length_nil] at this
  omega
end Go.Proofs.Ytdjhpldiifdifaa
namespace Go.Proofs.Ytdjhpldiifdifaa
set_option linter.unusedSimpArgs false
set_option linter.unusedVariables false
open Go.RowKit Go.Shelf
attribute [local go_sem] Oper.semAt_some
attribute [local go_sem ↓] Go.wp_at_zero Go.wp_at_succ

set_option maxRecDepth 100000 in
set_option maxHeartbeats 8000000 in
theorem amend_again {O : Nat → Nat} {q : Nat} {w : World} {b : Nat} {G : Mm} {nums last : Int} (h : BdC O q w b G nums last []) (n m p qt : Int) {E : Nat} (hE : E ∈ G.live) (hEn : (G.en E).n = n) (hm : (G.en E).o.m = m) (ow : Calls Try.prog 39 #[pt b, .int .i64 n, .int .i64 m] w fun e w' => e = .returned (.tuple #[pt E, .int .i64 0]) ∧ w' = w) (hw : E ∉ G.wt)
    (hp : inB2 p 1 1000000 = true) (hq : inB2 qt 1 1000000000 = true) (hno : ¬ (p = (G.en E).o.p ∧ qt ≤ (G.en E).l)) (hsz : sizeL (G.bd nums last).live ≤ 1000000000000) :
    Calls Try.prog 30 #[pt b, .int .i64 n, .int .i64 m, .int .i64 p, .int .i64 qt] w (AmendP O q w b G nums last n m p qt) := by
  have OW := hid ow
  obtain ⟨s, hs, hsE⟩ : ∃ s, (s = 1 ∨ s = 2) ∧ E ∈ ensL (G.L s) := by
    rcases live_cases hE with hwE | hx
    · exact absurd hwE hw
    · exact hx
  obtain ⟨hO, P, eS⟩ := (h.side hs).entry hsE
  have ok := (h.sok hs).mem (G.en E) (by rw [plainH_all]; exact List.mem_map.2 ⟨E, hsE, rfl⟩)
  have f11 := eS.flag.1
  obtain ⟨_, _, _, x5, _, x9, x10, hEl, z9, z10⟩ := eS.cells
  have hA : amendE (G.bd nums last) (G.en E) false m p qt = 0 := by
    unfold amendE
    rw [if_neg (by simpa using hm), if_neg (by decide), if_neg (by rw [hp, hq]; decide)]
  have HF := hid (show amendF (G.bd nums last) (G.en E) p qt = (let r := comeF ((G.bd nums last).off (G.en E) false) (G.en E).n (amO (G.en E).o p qt) qt []; stopsF r.1.wait.length r.1 r.2) by unfold amendF; rw [if_neg hno])
  have HA := hid hA
  have HNO := hid hno
  have HP := hid hp
  have HQ := hid hq
  have HOK := hid ok
  have HSZ := hid hsz
  have HH := hid h
  have HE := hid hE
  have HEN := hid hEn
  have HM := hid hm
  have HWT := hid hw
  have TO := hid (takeOff_calls h hE)
  have I1 := hid (in_calls p 1 1000000 w)
  rw [hp] at I1
  have I2 := hid (in_calls qt 1 1000000000 w)
  rw [hq] at I2
  have ch : ((p == (G.en E).o.p) = true ∧ decide (qt ≤ (G.en E).l) = false) ∨ (p == (G.en E).o.p) = false := by
    by_cases c1 : p = (G.en E).o.p
    · refine .inl ⟨by simpa using c1, ?_⟩
      simpa using fun c2 => hno ⟨c1, c2⟩
    · exact .inr (by simpa using c1)
  clear ow h hE hEn hm hw hp hq hO eS ok hA hsE hs hno hsz
  generalize hLL : (G.en E).l = L at x9 ch
  generalize hPP : (G.en E).o.p = P0 at x5 ch
  clear hLL hPP
  go_enter Try.func30, Try.ntmps30
  go_wp2_with fail
  refine OW.out.mono ?_
  rintro e w1 ⟨rfl, rfl⟩
  go_wp2_with fail
  refine I1.out.mono ?_
  rintro e w1 ⟨rfl, rfl⟩
  go_wp2_with fail
  refine I2.out.mono ?_
  rintro e w1 ⟨rfl, rfl⟩
  obtain ⟨rb, hrb⟩ : ∃ rb, rb = (if (p == P0) = true then decide (qt ≤ L) else (p == P0)) := ⟨_, rfl⟩
  rcases ch with ⟨c1, c2⟩ | c1
  all_goals (
    go_wp2_with fail
    refine TO.out.mono ?_
    rintro e w2 ⟨rfl, O2, G2, wts, p2, q2, q3, q4, q5, ⟨wx, px, eE⟩, q6⟩
    obtain ⟨k1, k2, k3, k4, k5, k6, k7, k8, k9⟩ := eE.order
    have hEl2 := eE.lt
    go_wp2_with fail
    all_goals (
      have pkc : ∃ pk, pk = min (G.en E).o.pk qt ∧ (pk = (G.en E).o.pk ∨ pk = qt) := ⟨_, rfl, by omega⟩
      have CC := fun {ob : Obj} {pk : Int} (hpk : pk = min (G.en E).o.pk qt) => amend_come (ob := ob) HH.out HE.out HOK.out HP.out HQ.out HSZ.out p2 q2 q3 q4 q5 q6 hpk
      rw [HEN.out] at CC
      first
      | refine (CC (pk := qt) (by omega)).mono ?_
      | refine (CC (pk := (G.en E).o.pk) (by omega)).mono ?_
      clear CC
      have hwf : wts = false := by
        cases hc : wts with
        | false => rfl
        | true => exact absurd (q3.1 hc) HWT.out
      rw [hwf]
      obtain ⟨R, hR⟩ : ∃ R, R = comeF ((G.bd nums last).off (G.en E) false) n (amO (G.en E).o p qt) qt [] := ⟨_, rfl⟩
      rw [← hR]
      have hFR : amendF (G.bd nums last) (G.en E) p qt = stopsF R.1.wait.length R.1 R.2 := by rw [HF.out, HEN.out, ← hR]
      have HFR := hid hFR
      clear hFR hR p2 q2 q3 q4 q5 q6 k1 k2 k3 k4 k5 k6 k7 k8 k9 eE hEl2 hwf pkc
      rintro e w3 ⟨rfl, O1, G1, l1, EB⟩
      have hfw := EB.bd.few
      have hwl1 : G1.wt.length ≤ G1.live.length := by simp [Mm.live]; omega
      have hszB := EB.size
      rw [← EB.eq] at hszB
      have sp := stops_calls EB.bd EB.ev (by omega)
      have hwt : R.1.wait.length = G1.wt.length := by rw [← EB.eq]; exact List.length_map _
      have fin : ∀ e w', StopP O1 q w3 b G1 nums l1 R.2 e w' → e = .returned (.tuple #[]) ∧ ∃ O' G' last', BdC O' q w' b G' nums last' (amendF (G.bd nums last) (G.en E) p qt).2 ∧ G'.bd nums last' = (amendF (G.bd nums last) (G.en E) p qt).1 ∧ Step (colB q) O w1 O' w' := by
        rintro e w' ⟨r1, O', G', l', r2, r3, r4, r5, r6⟩
        rw [EB.eq, ← hwt, ← HFR.out] at r2 r3
        exact ⟨r1, O', G', l', r2, r3, EB.step.trans r5⟩
      have SP := hid (sp.mono fin)
      clear fin sp hszB hwl1 hfw hwt EB HFR
      go_wp2_with fail
      refine SP.out.mono ?_
      rintro e w4 ⟨rfl, O2', G2', l2, h1, h2, h3⟩
      have dn := done_calls h1.top
      have fin : ∀ e w', DoneR O2' (q + 3) w4 b G2'.hb G2'.hs G2'.mb G2'.wt nums l2 (amendF (G.bd nums last) (G.en E) p qt).2 e w' → ∃ pp nn cc, e = .returned (.slice pp nn cc) ∧ AmendP O q w1 b G nums last n m p qt (.returned (.tuple #[.slice pp nn cc, .int .i64 0])) w' := by
        rintro e w' ⟨v, rfl, g2, g3, g4, g5⟩
        obtain ⟨pp, cc, hv, _⟩ := g2.form
        have st : Step (fun c => c = q + 3) O2' w4 O2' w' := Step.of_kept0 g5 (fun k _ e => e)
        exact ⟨pp, _, cc, by rw [hv], .inr ⟨E, HE.out, HEN.out, false, ⟨fun e => (by cases e), fun e => absurd e HWT.out⟩, .inr ⟨HA.out, v, O2', G2', l2, by rw [hv], g2, g3, ⟨g4, h1.buy.step st (by omega) (fun _ _ => rfl), h1.sell.step st (by omega) (fun _ _ => rfl), h1.map.step st (by omega), h1.wait.step st (by omega) (fun _ _ => rfl), h1.ok, h1.few⟩, h2, h3.trans (st.B (by omega) (by omega))⟩⟩⟩
      have DN := hid (dn.mono fin)
      clear fin dn h1 h2 h3
      generalize AmendP O q w1 b G nums last n m p qt = RR at *
      go_wp2_with fail
      refine DN.out.mono ?_
      rintro e w5 ⟨pp, nn, cc, rfl, hr⟩
      have HR := hid hr
      clear hr
      go_wp2
      exact HR.out))
end Go.Proofs.Ytdjhpldiifdifaa
namespace Go.Proofs.Ytdjhpldiifdifaa
set_option linter.unusedSimpArgs false
set_option linter.unusedVariables false
open Go.RowKit Go.Shelf

theorem amend_calls {O : Nat → Nat} {q : Nat} {w : World} {b : Nat} {G : Mm} {nums last : Int} (h : BdC O q w b G nums last []) (n m p qt : Int) (hn : (Lit.int .i64 n).wf = true) (hsz : sizeL (G.bd nums last).live ≤ 1000000000000) :
    Calls Try.prog 30 #[pt b, .int .i64 n, .int .i64 m, .int .i64 p, .int .i64 qt] w (AmendP O q w b G nums last n m p qt) := by
  rcases owned_cases h n m hn with ⟨hno, ow⟩ | ⟨E, hE, hEn, hm, ow⟩ | ⟨E, hE, hEn, hm, ow⟩
  · exact amend_none h n m p qt hno ow
  · exact amend_other h n m p qt hE hEn hm ow
  · by_cases hw : E ∈ G.wt
    · refine amend_no h n m p qt hE hEn hm ow (wts := true) (by simp [hw]) ?_
      unfold amendE
      rw [if_neg (by simpa using hm), if_pos rfl]
      decide
    · by_cases hb : inB2 p 1 1000000 = false ∨ inB2 qt 1 1000000000 = false
      · refine amend_no h n m p qt hE hEn hm ow (wts := false) (by simp [hw]) ?_
        unfold amendE
        rw [if_neg (by simpa using hm), if_neg (by decide), if_pos hb]
        decide
      · have hp : inB2 p 1 1000000 = true := by
          cases e : inB2 p 1 1000000 with
          | true => rfl
          | false => exact absurd (.inl e) hb
        have hq : inB2 qt 1 1000000000 = true := by
          cases e : inB2 qt 1 1000000000 with
          | true => rfl
          | false => exact absurd (.inr e) hb
        by_cases hc : p = (G.en E).o.p ∧ qt ≤ (G.en E).l
        · exact amend_here h n m p qt hE hEn hm ow hw hp hq hc.1 hc.2
        · exact amend_again h n m p qt hE hEn hm ow hw hp hq hc hsz
end Go.Proofs.Ytdjhpldiifdifaa
