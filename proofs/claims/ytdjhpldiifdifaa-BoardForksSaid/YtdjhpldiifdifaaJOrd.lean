/- board.Orders: the keys of the map, sorted. board.Orders: all numbers, rising. BoardCrossed: what the calls leave. No function of the program in sight but by contract. BoardCrossed: what Best and Orders show of such a board. No program in sight. -/
import Derived.Shelf.SlIterI.Nil
import Derived.Shelf.SortM.Plain
import Derived.Shelf.SortM.SortNone
import Derived.Ground.GgzProg
import Derived.Ground.SlgmProg
import Derived.Test.YtdjhpldiifdifaaJRwi
import Derived.Test.YtdjhpldiifdifaaJShelf
import Derived.Test.YtdjhpldiifdifaaJKee0
import Derived.Test.YtdjhpldiifdifaaJKee1
import Derived.Test.YtdjhpldiifdifaaJLvl
namespace Go.Proofs.Ytdjhpldiifdifaa
set_option linter.unusedSimpArgs false
set_option linter.unusedVariables false
open Go.RowKit Go.Maps Go.Sort Go.Shelf
attribute [local go_sem] Oper.semAt_some
attribute [local go_sem ↓] Go.wp_at_zero Go.wp_at_succ


theorem sortsA (m : Nat) : AnyZI.SortsIn Try.prog Try.sortedA_ren Fence.wide m :=
  ⟨fun blk off cap ss W hH hblk hsz => callsIn_wide.2 (AnyM.slices_Sort_int Try.sortA blk off cap ss W hH hblk hsz),
   fun p cap W => callsIn_wide.2 (AnyM.slices_Sort_int_none Try.sortA p cap W)⟩
set_option maxRecDepth 100000 in
set_option maxHeartbeats 4000000 in
theorem orders_run {H : Type} (b bo nn : Nat) (D0 : DataW H) (R : Value → Option (DataW H × List MemPlace)) (w : World) (hbo : w.cell? ⟨bo, 3, none⟩ = some (.map (some b))) (hbl0 : bo < w.heap.size) (hown : w.ownsMap Try.prog 3 R b nn D0) (hmax : Maps.size D0 ≤ maxLen) (hbytes : Maps.size D0 * 8 ≤ 140737488355328) :
    Calls Try.prog 31 #[pt bo] w fun e w' => ∃ (v : Value) (ss : List Int), e = .returned v ∧ ss.Perm (intKeys D0) ∧
      w'.ownsRow w.heap.size 3 1 v ss.length ((ss.mergeSort (fun x y => decide (x ≤ y))).map encZ) ∧ (v = .slice none 0 0 ↔ ss = []) ∧ Below w.heap.size w w' := by
  have hbl := hown.lt
  have hseq : SeqGives Fence.wide 2 Try.prog 83 #[.pointer (some ⟨w.heap.size, 0, none⟩)] encZ (fun ss => ss.Perm (intKeys D0)) (Maps.size D0) (w.alloc (.cells #[.map (some b)] 88)) :=
    AnyZI.keys_gives (ρ := Try.keysA_ren) { Try.keysA with } Fence.wide _ trivial rfl (by omega) w.heap.size b nn D0 _ (by simp) (by simp) (by
      obtain ⟨es, clock, hb, Ft, hs, hD⟩ := hown
      exact ⟨es, clock, (Below.heap_alloc _ _ b hbl).trans hb, Ft, hs, hD⟩)
  have cK : ∀ mb W, CallsIn Fence.wide 5 Try.prog 59 #[.map mb] W fun e w' => e = .returned (.func (.func 83) #[] #[.pointer (some ⟨W.heap.size, 0, none⟩)]) ∧ w' = W.alloc (.cells #[.map mb] 88) := fun mb W => AnyZI.keys_in Try.keysA Fence.wide 5 trivial rfl mb W
  have cS := AnyZI.sorted_in Try.sortedA Fence.wide 5 trivial trivial trivial trivial rfl (by omega) (sortsA _) (enters_of Try.func82 (by kernel_rfl) rfl) 83 #[.pointer (some ⟨w.heap.size, 0, none⟩)] trivial (enters_of Try.func83 (by kernel_rfl) rfl) _ _ hmax hbytes _ hseq
  change CallsIn _ _ Try.prog 58 _ _ _ at cS
  have CK := hid (callsIn_wide.1 (cK (some b) w))
  have CS := hid (callsIn_wide.1 cS)
  clear cK cS hseq hown hmax hbytes hbl
  go_enter Try.func31, Try.ntmps31
  go_wp2_with fail
  refine CK.out.mono ?_
  rintro e w' ⟨rfl, rfl⟩
  go_wp2_with fail
  refine CS.out.mono ?_
  rintro e w' ⟨v, ss, rfl, hS, hrow, hnil, hb⟩
  have FN := hid (And.intro hS (And.intro hnil hb))
  have HROW := hid hrow
  clear hS hrow hnil hb
  go_wp2
  go_ret
  exact ⟨v, ss, rfl, FN.out.1, World.ownsRow.mono HROW.out (by simp), FN.out.2.1, ((Below.refl _ w).alloc (Nat.le_refl _) _).trans (FN.out.2.2.mono (by simp))⟩
end Go.Proofs.Ytdjhpldiifdifaa
namespace Go.Proofs.Ytdjhpldiifdifaa
set_option linter.unusedSimpArgs false
set_option linter.unusedVariables false
open Go.RowKit Go.Maps Go.Sort Go.Shelf

/-- Numbers, each once, rising. -/
structure Risen (l T : List Int) : Prop where
  rise : T.Pairwise (· < ·)
  perm : T.Perm l
theorem risen_sort {l ss : List Int} (hp : ss.Perm l) (hn : l.Nodup) : Risen l (ss.mergeSort (fun x y => decide (x ≤ y))) := by
  have tr : ∀ a b c : Int, decide (a ≤ b) = true → decide (b ≤ c) = true → decide (a ≤ c) = true := fun a b c h1 h2 => by simp only [decide_eq_true_eq] at *; omega
  have tt : ∀ a b : Int, (decide (a ≤ b) || decide (b ≤ a)) = true := fun a b => by simp only [Bool.or_eq_true, decide_eq_true_eq]; omega
  have h1 := List.pairwise_mergeSort tr tt ss
  have h2 : (ss.mergeSort (fun x y => decide (x ≤ y))).Perm l := (List.mergeSort_perm ss _).trans hp
  have h3 : (ss.mergeSort (fun x y => decide (x ≤ y))).Nodup := h2.nodup_iff.2 hn
  refine ⟨(h1.and h3).imp (fun {a b} ⟨x, y⟩ => ?_), h2⟩
  simp only [decide_eq_true_eq] at x
  omega
theorem orders_calls {O : Nat → Nat} {q : Nat} {w : World} {b : Nat} {G : Mm} {nums last : Int} {evs : List Ev} (h : BdC O q w b G nums last evs) :
    Calls Try.prog 31 #[pt b] w fun e w' => ∃ u T, e = .returned u ∧ RowI w.heap.size w' u T ∧ Risen (G.live.map fun E => (G.en E).n) T ∧ Below w.heap.size w w' := by
  obtain ⟨_, bm, _, _, hbl, _, _⟩ := h.parts.cells (s := 1) (.inl rfl)
  obtain ⟨D, d1, d2, d3, d4⟩ := h.map.map.own
  have hn := h.map.map.nodup
  have hl : (prs G.en G.live).length ≤ 4096 := by have := h.few; simpa [prs] using this
  have hc : CollectedI D (fun _ => false) ((prs G.en G.live).map Prod.fst) := ⟨hn, fun x => by
    constructor
    · intro hx
      obtain ⟨y, hy, rfl⟩ := List.mem_map.1 hx
      exact ⟨has_true_of_atKey (d3 y hy), rfl⟩
    · rintro ⟨hx, _⟩
      refine Decidable.byContradiction fun hne => ?_
      rw [d4 x hne] at hx
      cases hx⟩
  have hp := hc.perm d1 kInt (by kernel_rfl) (fun _ => rfl)
  have ef : (prs G.en G.live).map Prod.fst = G.live.map fun E => (G.en E).n := by simp [prs]
  rw [ef] at hp hn
  refine (orders_run G.mb b _ D _ w bm hbl d1 (by rw [d2]; unfold maxLen; omega) (by rw [d2]; omega)).mono ?_
  rintro e w' ⟨v, ss, rfl, h1, h2, h3, h4⟩
  refine ⟨v, _, rfl, ?_, risen_sort (h1.trans hp.symm) hn, h4⟩
  unfold RowI OwnE
  rw [flat_int, List.length_mergeSort]
  exact h2
end Go.Proofs.Ytdjhpldiifdifaa
namespace Go.Proofs.Ytdjhpldiifdifaa
set_option linter.unusedSimpArgs false
set_option linter.unusedVariables false
open Go.RowKit Go.Shelf

/-- The board at the head of a round. -/
structure CrC (w0 wr : World) (b : Nat) (O : Nat → Nat) (G : Mm) (N : Nat) (last : Int) : Prop where
  bd : BdC O 0 wr b G N last []
  nox : NoX (G.bd N last)
  below : Below w0.heap.size w0 wr
  low : ∀ k, k < w0.heap.size → O k = 0
theorem CrC.next {w0 wr w' : World} {b : Nat} {O : Nat → Nat} {G : Mm} {N : Nat} {last : Int} (h : CrC w0 wr b O G N last) (hb : Below wr.heap.size wr w') : CrC w0 w' b O G N last :=
  ⟨h.bd.step (Step.of_below hb (fun _ => False)) (fun _ _ => not_false), h.nox, h.below.trans (hb.mono h.below.size), h.low⟩
theorem CrC.move {w0 wr w' : World} {b : Nat} {O O' : Nat → Nat} {G G' : Mm} {N N' : Nat} {last last' : Int} (h : CrC w0 wr b O G N last) (st : Step (colB 0) O wr O' w') (bd : BdC O' 0 w' b G' N' last' []) (nox : NoX (G'.bd N' last')) : CrC w0 w' b O' G' N' last' := by
  obtain ⟨l1, l2⟩ := st.low h.below.size h.low
  exact ⟨bd, nox, h.below.trans l1, l2⟩
/-- Behind a call. -/
def MidX (w : World) (b i : Nat) (s4 : Value) (wx : World) : Prop := ∃ (O : Nat → Nat) (G : Mm) (N : Nat) (last : Int), s4 = .int .i64 N ∧ N ≤ i + 1 ∧ CrC w wx b O G N last
theorem live_side {S : Bd} (hS : BdOk S) {e : En} (he : e ∈ S.live) : e.o.s = 1 ∨ e.o.s = 2 := by
  unfold Bd.live at he
  rcases List.mem_append.1 he with h | h
  · exact okS (hS.buy.mem _ h).ok
  · rcases List.mem_append.1 h with h | h
    · exact okS (hS.sell.mem _ h).ok
    · exact okS (hS.wait _ h).ok
theorem midx_cancel {w wa w' : World} {b i : Nat} {O : Nat → Nat} {G : Mm} {N : Nat} {last : Int} (h : CrC w wa b O G N last) (hNi : N ≤ i) {n m : Int} {e : Ending} (hc : CancelP O 0 wa b G N last n m e w') :
    ∃ v er, e = .returned (.tuple #[v, .int .i64 er]) ∧ MidX w b i (.int .i64 N) w' := by
  rcases hc with ⟨_, he, bd, st⟩ | ⟨E, _, _, _, he, bd, st⟩ | ⟨E, hE, hEn, hm, v, O', G', wts, he, hv, hcol, bd, hbd, hw, hp, hen, st⟩
  · exact ⟨_, 4, he, O, G, N, last, rfl, by omega, h.move st bd h.nox⟩
  · exact ⟨_, 8, he, O, G, N, last, rfl, by omega, h.move st bd h.nox⟩
  · have hmem : G.en E ∈ (G.bd N last).live := by rw [Mm.bd_live]; exact List.mem_map.2 ⟨E, hE, rfl⟩
    exact ⟨v, 0, he, O', G', N, last, rfl, by omega, h.move st bd (by rw [hbd]; exact off_nox h.bd.ok h.nox (live_side h.bd.ok hmem) wts)⟩
theorem midx_amend {w wa w' : World} {b i : Nat} {O : Nat → Nat} {G : Mm} {N : Nat} {last : Int} (h : CrC w wa b O G N last) (hNi : N ≤ i) {n m p qt : Int} {e : Ending} (hc : AmendP O 0 wa b G N last n m p qt e w') :
    ∃ v er, e = .returned (.tuple #[v, .int .i64 er]) ∧ MidX w b i (.int .i64 N) w' := by
  rcases hc with ⟨_, he, bd, st⟩ | ⟨E, hE, hEn, wts, hw, ⟨hA, he, bd, st⟩ | ⟨hA, v, O', G', last', he, hv, hcol, bd, hbd, st⟩⟩
  · exact ⟨_, 4, he, O, G, N, last, rfl, by omega, h.move st bd h.nox⟩
  · exact ⟨_, _, he, O, G, N, last, rfl, by omega, h.move st bd h.nox⟩
  · unfold amendE at hA
    split at hA
    · cases hA
    · split at hA
      · cases hA
      · split at hA
        · cases hA
        · rename_i _ hwf hr
          have hp : 1 ≤ p ∧ p ≤ 1000000 := by
            cases e1 : inB2 p 1 1000000 with
            | true => exact inB2_iff.1 e1
            | false => exact absurd (.inl e1) hr
          have hq : 1 ≤ qt ∧ qt ≤ 1000000000 := by
            cases e1 : inB2 qt 1 1000000000 with
            | true => exact inB2_iff.1 e1
            | false => exact absurd (.inr e1) hr
          have hnw : E ∉ G.wt := fun hx => hwf (hw.2 hx)
          rcases live_cases hE with hx | ⟨s, hs, hx⟩
          · exact absurd hx hnw
          · have hin : G.en E ∈ ((G.bd N last).half s).all := by rw [Mm.plain G hs, plainH_all]; exact List.mem_map.2 ⟨E, hx, rfl⟩
            have hok := (h.bd.ok.half hs).mem _ hin
            have hes : (G.en E).o.s = s := hok.s
            have hs' : (G.en E).o.s = 1 ∨ (G.en E).o.s = 2 := by rw [hes]; exact hs
            obtain ⟨q1, q2, q3, q4⟩ := off_plain h.bd.ok hs' (by rw [hes]; exact hin)
            exact ⟨v, 0, he, O', G', N, last', rfl, by omega, h.move st bd (by rw [hbd]; exact amendF_nox h.nox hs' h.bd.ok q1 q4 q2 q3 hp hq)⟩
theorem midx_enter {w wa w' : World} {b i : Nat} {O : Nat → Nat} {G : Mm} {N : Nat} {last : Int} (h : CrC w wa b O G N last) (hNi : N ≤ i) (hN : N < 1000) {o : Od} {e : Ending} (hc : EnterP O 0 wa b G N last o e w') :
    (enterE (G.bd N last) o ≠ 0 ∧ e = .returned (.tuple #[.int .i64 0, .slice none 0 0, .int .i64 (enterE (G.bd N last) o)]) ∧ MidX w b i (.int .i64 N) w') ∨ (enterE (G.bd N last) o = 0 ∧ ∃ v, e = .returned (.tuple #[.int .i64 ((N : Int) + 1), v, .int .i64 0]) ∧ MidX w b i (.int .i64 ((N : Int) + 1)) w') := by
  rcases hc with ⟨h1, h2, h3, h4⟩ | ⟨h1, v, O', G', last', h2, h3, h4, h5, h6, h7⟩
  · exact .inl ⟨h1, h2, O, G, N, last, rfl, by omega, h.move h4 h3 h.nox⟩
  · have hok : o.ok = true := by
      have hE := h1
      unfold enterE at hE
      by_cases h8 : o.ok = false
      · rw [if_pos h8] at hE; cases hE
      · simpa using h8
    have hnn : ((N + 1 : Nat) : Int) = (N : Int) + 1 := by omega
    refine .inr ⟨h1, v, h2, O', G', N + 1, last', by rw [hnn], by omega, h.move h7 (by rw [hnn]; exact h5) ?_⟩
    rw [hnn, h6]
    exact enterF_nox h.bd.ok h.nox (by show (N : Int) < _; omega) hok
end Go.Proofs.Ytdjhpldiifdifaa
namespace Go.Proofs.Ytdjhpldiifdifaa
set_option linter.unusedSimpArgs false
set_option linter.unusedVariables false
open Go.RowKit Go.Shelf

theorem shown_pos {l : List En} (hl : l ≠ []) (h : ∀ e ∈ l, 1 ≤ e.h) : 1 ≤ shownL l := by
  have nn : ∀ m : List En, (∀ e ∈ m, 1 ≤ e.h) → 0 ≤ shownL m := by
    intro m
    induction m with
    | nil => intro _; exact Int.le_refl _
    | cons e m ih =>
      intro hm
      have h1 := hm e List.mem_cons_self
      have h2 := ih (fun x hx => hm x (List.mem_cons_of_mem _ hx))
      simp only [shownL, List.map_cons, List.sum_cons] at *
      omega
  cases l with
  | nil => exact absurd rfl hl
  | cons e m =>
    have h1 := h e List.mem_cons_self
    have h2 := nn m (fun x hx => h x (List.mem_cons_of_mem _ hx))
    simp only [shownL, List.map_cons, List.sum_cons] at *
    omega
theorem best_pos {side nums : Int} {h : Half} (hh : HOk side nums h) (hb : (bestF h).2.2 = true) : 1 ≤ (bestF h).2.1 ∧ ∃ e ∈ h.all, e.o.p = (bestF h).1 := by
  cases h with
  | nil => cases hb
  | cons x r =>
    have h1 := hh.full x List.mem_cons_self
    have h2 := hh.ent x List.mem_cons_self
    have h3 := hh.price x List.mem_cons_self
    refine ⟨shown_pos h1 fun e he => (h2 e he).h.1, ?_⟩
    obtain ⟨e, he⟩ := List.exists_mem_of_ne_nil _ h1
    exact ⟨e, by unfold Half.all; exact List.mem_flatMap.2 ⟨x, List.mem_cons_self, he⟩, h3 e he⟩
/-- What Best shows of both sides. -/
structure BestX (a c : Int × Int × Bool) : Prop where
  one : a.2.2 = true → 1 ≤ a.2.1
  two : c.2.2 = true → 1 ≤ c.2.1
  less : a.2.2 = true → c.2.2 = true → a.1 < c.1
theorem best_x {S : Bd} (hS : BdOk S) (hX : NoX S) : BestX (bestF S.buy) (bestF S.sell) := by
  refine ⟨fun h => (best_pos hS.buy h).1, fun h => (best_pos hS.sell h).1, fun h g => ?_⟩
  obtain ⟨a, ha, e1⟩ := (best_pos hS.buy h).2
  obtain ⟨c, hc, e2⟩ := (best_pos hS.sell g).2
  have := hX a ha c hc
  omega
theorem live_nums {S : Bd} (hS : BdOk S) {e : En} (he : e ∈ S.live) : 1 ≤ e.n ∧ e.n ≤ S.nums := by
  unfold Bd.live at he
  rcases List.mem_append.1 he with h | h
  · exact (hS.buy.mem _ h).n
  · rcases List.mem_append.1 h with h | h
    · exact (hS.sell.mem _ h).n
    · exact (hS.wait _ h).n
theorem risen_bd {w0 wr : World} {b : Nat} {O : Nat → Nat} {G : Mm} {N : Nat} {last : Int} (h : CrC w0 wr b O G N last) {T : List Int} (hT : Risen (G.live.map fun E => (G.en E).n) T) : (∀ n ∈ T, 1 ≤ n ∧ n ≤ (N : Int)) ∧ T.length ≤ 4096 := by
  refine ⟨fun n hn => ?_, ?_⟩
  · obtain ⟨E, hE, rfl⟩ := List.mem_map.1 (hT.perm.mem_iff.1 hn)
    have hmem : G.en E ∈ (G.bd N last).live := by rw [Mm.bd_live]; exact List.mem_map.2 ⟨E, hE, rfl⟩
    exact live_nums h.bd.ok hmem
  · have := h.bd.few
    rw [hT.perm.length_eq, List.length_map]
    exact this
end Go.Proofs.Ytdjhpldiifdifaa
