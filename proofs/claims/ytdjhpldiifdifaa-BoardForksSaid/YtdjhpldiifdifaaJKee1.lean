/- BoardKeeps: the walk. -/
import Derived.Test.YtdjhpldiifdifaaJKee0
namespace Go.Proofs.Ytdjhpldiifdifaa
set_option linter.unusedSimpArgs false
set_option linter.unusedVariables false
open Go.RowKit Go.Shelf
attribute [local go_sem] Oper.semAt_some
attribute [local go_sem ↓] Go.wp_at_zero Go.wp_at_succ

theorem u64_nonneg (x : Int) : 0 ≤ IntKind.u64.wrap x := by simp only [IntKind.wrap, IntKind.signed, IntKind.bits]; simp; omega
theorem kind_mod (k : Int) : ∃ r : Int, (IntKind.u64.wrap k).tmod 8 = r ∧ IntKind.u64.wrap r = r ∧ 0 ≤ r ∧ r < 8 := by
  have h := u64_nonneg k
  have h2 : 0 ≤ (IntKind.u64.wrap k).tmod 8 ∧ (IntKind.u64.wrap k).tmod 8 < 8 := by
    rw [Int.tmod_eq_emod_of_nonneg h]; omega
  exact ⟨_, rfl, IntWalk.u64_in _ (by omega), by omega⟩
/-- The board and the quantities. -/
structure KpC (w0 wr : World) (b : Nat) (O : Nat → Nat) (G : Mm) (N : Nat) (last : Int) (g cap : Nat) (Q : List Int) (evs : List Ev) : Prop where
  bd : BdC O 0 wr b G N last []
  row : OwnE encI 1 2 0 wr (.slice (some ⟨g, 0, none⟩) (N + 1) cap) Q
  rcol : O g = 0
  len : Q.length = N + 1
  evok : ∀ e ∈ evs, EvOk N e
  sums : ∀ n : Int, 1 ≤ n → n ≤ N → Q.getD n.toNat 0 - takes n evs = sumL n (G.bd N last).live
  top : ∀ n : Int, 1 ≤ n → n ≤ N → Q.getD n.toNat 0 ≤ 1000000000
  below : Below w0.heap.size w0 wr
  low : ∀ k, k < w0.heap.size → O k = 0
theorem KpC.step {w0 wr w' : World} {b : Nat} {O O' : Nat → Nat} {G : Mm} {N : Nat} {last : Int} {g cap : Nat} {Q : List Int} {evs : List Ev} (h : KpC w0 wr b O G N last g cap Q evs) (hb : Below wr.heap.size wr w') (hO : ∀ k, k < wr.heap.size → O' k = O k) : KpC w0 w' b O' G N last g cap Q evs := by
  have st : Step (fun _ => False) O wr O' w' := ⟨hb.os, hb.tape, hb.output, hb.size, fun k hk _ => ⟨hb.block k hk, hO k hk⟩, fun _ _ h => h.elim⟩
  have hg : g < wr.heap.size := by have := h.row; rw [← h.len] at this; exact (own_int_get this 0 (by rw [h.len]; omega)).2.2
  exact ⟨h.bd.step st (fun _ _ => not_false), OwnE.below h.row hb, by rw [hO g hg, h.rcol], h.len, h.evok, h.sums, h.top, h.below.trans (hb.mono h.below.size), fun k hk => by rw [hO k (Nat.lt_of_lt_of_le hk h.below.size), h.low k hk]⟩
theorem KpC.next {w0 wr w' : World} {b : Nat} {O : Nat → Nat} {G : Mm} {N : Nat} {last : Int} {g cap : Nat} {Q : List Int} {evs : List Ev} (h : KpC w0 wr b O G N last g cap Q evs) (hb : Below wr.heap.size wr w') : KpC w0 w' b O G N last g cap Q evs := h.step hb (fun _ _ => rfl)
/-- A quantity is written. -/
theorem KpC.put {w0 wr : World} {b : Nat} {O : Nat → Nat} {G : Mm} {N : Nat} {last : Int} {g cap : Nat} {Q : List Int} {evs : List Ev} (h : KpC w0 wr b O G N last g cap Q evs) (k : Nat) (hk : k < N + 1) (z : Int) (hg : w0.heap.size ≤ g) :
    BdC O 0 (wr.setCell ⟨g, k, none⟩ (.int .i64 z)) b G N last [] ∧ OwnE encI 1 2 0 (wr.setCell ⟨g, k, none⟩ (.int .i64 z)) (.slice (some ⟨g, 0, none⟩) (N + 1) cap) (Q.set k z) ∧ Below w0.heap.size w0 (wr.setCell ⟨g, k, none⟩ (.int .i64 z)) ∧ Kept (fun c => c = g) wr (wr.setCell ⟨g, k, none⟩ (.int .i64 z)) := by
  have hk1 : Kept (fun c => c = g) wr (wr.setCell ⟨g, k, none⟩ (.int .i64 z)) := (Kept.refl (fun c => c = g) wr).set (C := g) rfl k _
  have st : Step (fun c => c = 0) O wr O (wr.setCell ⟨g, k, none⟩ (.int .i64 z)) := Step.set h.rcol k _
  have row := h.row
  rw [← h.len] at row ⊢
  exact ⟨h.bd.step st (fun x hx e => by have := hx.1; omega), own_int_set row k (by rw [h.len]; exact hk) z, h.below.trans (hk1.below h.below.size (fun c e => by omega)), hk1⟩
theorem KpC.book {w0 wr w' : World} {b : Nat} {O : Nat → Nat} {G : Mm} {N : Nat} {last : Int} {g cap : Nat} {Q : List Int} {e : Ev} {evs : List Ev} (h : KpC w0 wr b O G N last g cap Q (e :: evs)) (bd : BdC O 0 w' b G N last []) (row : OwnE encI 1 2 0 w' (.slice (some ⟨g, 0, none⟩) (N + 1) cap) (evQ Q e)) (below : Below w0.heap.size w0 w') : KpC w0 w' b O G N last g cap (evQ Q e) evs := by
  have he := h.evok e (by simp)
  have key : ∀ n : Int, 1 ≤ n → n ≤ N → (evQ Q e).getD n.toNat 0 = Q.getD n.toNat 0 - takesE n e := fun n h1 h2 => evQ_get he (by omega) (by rw [h.len]; omega)
  refine ⟨bd, row, h.rcol, by rw [evQ_len, h.len], fun x hx => h.evok x (List.mem_cons_of_mem _ hx), fun n h1 h2 => ?_, fun n h1 h2 => ?_, below, h.low⟩
  · have := h.sums n h1 h2
    simp only [takes] at this
    rw [key n h1 h2]; omega
  · have := h.top n h1 h2
    have := takesE_nonneg he n
    rw [key n h1 h2]; omega
theorem KpC.bound {w0 wr : World} {b : Nat} {O : Nat → Nat} {G : Mm} {N : Nat} {last : Int} {g cap : Nat} {Q : List Int} {evs : List Ev} (h : KpC w0 wr b O G N last g cap Q evs) (n : Int) (h1 : 1 ≤ n) (h2 : n ≤ N) : takes n evs ≤ Q.getD n.toNat 0 ∧ 0 ≤ takes n evs ∧ Q.getD n.toNat 0 ≤ 1000000000 := by
  have := h.sums n h1 h2
  have := (sumL_bd h.bd.ok n).1
  exact ⟨by omega, takes_nonneg n h.evok, h.top n h1 h2⟩

/-- The board has moved on; the quantities stay. -/
theorem KpC.move {w0 wr w' : World} {b : Nat} {O O' : Nat → Nat} {G G' : Mm} {N : Nat} {last last' : Int} {g cap : Nat} {Q : List Int} (h : KpC w0 wr b O G N last g cap Q []) (st : Step (colB 0) O wr O' w') (bd : BdC O' 0 w' b G' N last' []) {evs : List Ev} (evok : ∀ e ∈ evs, EvOk N e) (sums : ∀ n : Int, 1 ≤ n → n ≤ N → takes n evs + sumL n (G'.bd N last').live = sumL n (G.bd N last).live) : KpC w0 w' b O' G' N last' g cap Q evs := by
  have hg : g < wr.heap.size := by have := h.row; rw [← h.len] at this; exact (own_int_get this 0 (by rw [h.len]; omega)).2.2
  have n0 : ¬ colB 0 (O g) := by rw [h.rcol]; exact fun e => absurd e.1 (by omega)
  obtain ⟨l1, l2⟩ := st.low h.below.size h.low
  refine ⟨bd, OwnE.kept h.row st.kept (fun x hx => ?_), by rw [(st.old g hg n0).2, h.rcol], h.len, evok, fun n h1 h2 => ?_, h.top, h.below.trans l1, l2⟩
  · injection hx with hx
    rw [← hx]
    exact n0
  · have := h.sums n h1 h2
    have := sums n h1 h2
    simp only [takes] at *
    omega
theorem live_one {S : Bd} (hS : BdOk S) {e : En} (he : e ∈ S.live) : 1 ≤ e.l := by
  unfold Bd.live at he
  rcases List.mem_append.1 he with he | he
  · exact (hS.buy.mem e he).l.1
  · rcases List.mem_append.1 he with he | he
    · exact (hS.sell.mem e he).l.1
    · have k := hS.wait e he; have := okQ k.ok; have := k.l; omega
theorem infoI64 : (Try.prog.info? 2).map (fun i => (i.zero, i.size, i.bytes)) = some (some (.int .i64 0), 1, 8) := by kernel_rfl
theorem info_i64 : ∃ i, Try.prog.info? 2 = some i ∧ i.zero = some (.int .i64 0) ∧ i.size = 1 ∧ i.bytes = 8 := by
  have h := infoI64
  cases hi : Try.prog.info? 2 with
  | none => rw [hi] at h; cases h
  | some i =>
    rw [hi] at h
    simp only [Option.map_some, Option.some.injEq, Prod.mk.injEq] at h
    exact ⟨i, rfl, h.1, h.2.1, h.2.2⟩
theorem undI64 : Try.prog.underlying 25 = some (.slice 2) := by kernel_rfl
/-- append(qty, x) -/
theorem int_append {w : World} {v : Value} {l : List Int} (h : OwnE encI 1 2 0 w v l) (hlen : l.length ≤ 1000000) (x : Int) {B : Nat} (hB : Cells w B #[.int .i64 x] 2) (ty : TypeId) :
    ∃ g cap w', (Builtin.append_ #[25, 25] ty #[v, .slice (some ⟨B, 0, none⟩) 1 1]).run Try.prog w = .ok (.slice (some ⟨g, 0, none⟩) (l.length + 1) cap) w' ∧ OwnE encI 1 2 0 w' (.slice (some ⟨g, 0, none⟩) (l.length + 1) cap) (l ++ [x]) ∧ Kept (fun k => some k = v.ownBlock) w w' ∧ (v.ownBlock = some g ∨ g = w.heap.size) := by
  obtain ⟨i, h1, h2, h3, h4⟩ := info_i64
  obtain ⟨v', w', r1, r2, r3, _, r5⟩ := run_append_own_at w 0 25 ty 2 i _ 1 8 undI64 h1 h2 h3 h4 rfl (by omega) v l.length (flatE encI l) h ⟨B, 0, none⟩ 1 1 [.int .i64 x] rfl
    (fun j u hu => news_of hB j u (by simpa using hu)) (by intro u hu; rw [List.mem_singleton] at hu; rw [hu]; rfl) (by unfold maxLen; omega) (by omega) (by omega)
  have r2' : OwnE encI 1 2 0 w' v' (l ++ [x]) := by
    unfold OwnE
    rw [flatE_snoc, List.length_append]
    exact r2
  obtain ⟨p, cap, hv, hp⟩ := r2'.form
  rcases hp with ⟨_, e⟩ | ⟨g, rfl, _, _⟩
  · simp at e
  · have hl : (l ++ [x]).length = l.length + 1 := by simp
    rw [hl] at hv
    subst hv
    refine ⟨g, cap, w', r1, r2', Kept.of_grown r3, ?_⟩
    rcases r5 with r5 | r5
    · exact .inl r5.symm
    · injection r5 with r5
      exact .inr r5
/-- A new order's quantity came to the row. -/
theorem KpC.entered {w0 wa w5 w6 w7 : World} {b : Nat} {O O' : Nat → Nat} {G G' : Mm} {N : Nat} {last last' : Int} {g cap g' cap' : Nat} {Q : List Int} {o : Od} (h : KpC w0 wa b O G N last g cap Q []) (hN : N ≤ 90) (hE : enterE (G.bd N last) o = 0) (st : Step (colB 0) O wa O' w5) (bd : BdC O' 0 w5 b G' ((N : Int) + 1) last' []) (hbd : G'.bd ((N : Int) + 1) last' = (enterF (G.bd N last) o).1)
    (b6 : Below w5.heap.size w5 w6) (hrow : OwnE encI 1 2 0 w7 (.slice (some ⟨g', 0, none⟩) (N + 1 + 1) cap') (Q ++ [o.q])) (hk : Kept (fun k => some k = some g) w6 w7) (hg : some g = some g' ∨ g' = w6.heap.size) (hgw : w0.heap.size ≤ g) :
    ∃ O'', KpC w0 w7 b O'' G' (N + 1) last' g' cap' (Q ++ [o.q]) (enterF (G.bd N last) o).2 ∧ (∀ k, O' k = 3 → k < w5.heap.size → O'' k = 3) ∧ O'' g' = 0 ∧ w0.heap.size ≤ g' := by
  have hnn : ((N + 1 : Nat) : Int) = (N : Int) + 1 := by omega
  have hgl : g < wa.heap.size := by have := h.row; rw [← h.len] at this; exact (own_int_get this 0 (by rw [h.len]; omega)).2.2
  have n0 : ¬ colB 0 (O g) := by rw [h.rcol]; exact fun e => absurd e.1 (by omega)
  have og : O' g = 0 := by rw [(st.old g hgl n0).2, h.rcol]
  have hg5 : g < w5.heap.size := Nat.lt_of_lt_of_le hgl st.size
  obtain ⟨l1, l2⟩ := st.low h.below.size h.low
  have b05 := h.below.trans l1
  -- the worlds behind
  have k57 : Kept (fun k => k = g) w5 w7 := (Kept.of_below (X := fun k => k = g) b6).trans hk (fun k _ e => by injection e)
  have s57 : Step (fun c => c = 0) O' w5 (grow O' w5 0) w7 := Step.of_kept k57 (fun k _ e => by rw [e]; exact og)
  have hok : o.ok = true := by
    have hE' := hE
    unfold enterE at hE'
    by_cases h1 : o.ok = false
    · rw [if_pos h1] at hE'; omega
    · simpa using h1
  have hq := okQ hok
  have hS := h.bd.ok
  have hnum : (G.bd (N : Int) last).nums = N := rfl
  obtain ⟨e1, e2, e3, e4, e5⟩ := enterF_ok hS (by rw [hnum]; omega) hok
  rw [hnum] at e2 e3 e4
  refine ⟨grow O' w5 0, ⟨?_, ?_, ?_, ?_, ?_, fun m h1 h2 => ?_, fun m h1 h2 => ?_, ?_, fun k hk => ?_⟩, fun k hk hl => by rw [grow_old hl]; exact hk, ?_, ?_⟩
  · rw [hnn]; exact bd.step s57 (fun x hx e => by have := hx.1; omega)
  · exact hrow
  · rcases hg with hg | hg
    · injection hg with hg; rw [← hg]; exact grow_same og
    · rw [hg]; exact grow_new b6.size
  · rw [List.length_append, h.len]; rfl
  · rw [hnn]; exact e3
  · have hm := e4 m
    rw [hnn] at h2
    rw [hnn, hbd]
    by_cases hmN : m = (N : Int) + 1
    · rw [if_pos hmN] at hm
      have h0 : sumL m (G.bd N last).live = 0 := by rw [hmN]; exact sumL_none (bd_fresh hS)
      have : (Q ++ [o.q]).getD m.toNat 0 = o.q := by
        rw [List.getD_eq_getElem?_getD, List.getElem?_append_right (by rw [h.len]; omega), h.len, show m.toNat - (N + 1) = 0 by omega]
        rfl
      rw [this]; omega
    · rw [if_neg hmN] at hm
      have : (Q ++ [o.q]).getD m.toNat 0 = Q.getD m.toNat 0 := by
        rw [List.getD_eq_getElem?_getD, List.getElem?_append_left (by rw [h.len]; omega), ← List.getD_eq_getElem?_getD]
      have hs := h.sums m h1 (by omega)
      simp only [takes] at hs
      rw [this]; omega
  · rw [hnn] at h2
    by_cases hmN : m = (N : Int) + 1
    · have : (Q ++ [o.q]).getD m.toNat 0 = o.q := by
        rw [List.getD_eq_getElem?_getD, List.getElem?_append_right (by rw [h.len]; omega), h.len, show m.toNat - (N + 1) = 0 by omega]
        rfl
      rw [this]; omega
    · have : (Q ++ [o.q]).getD m.toNat 0 = Q.getD m.toNat 0 := by
        rw [List.getD_eq_getElem?_getD, List.getElem?_append_left (by rw [h.len]; omega), ← List.getD_eq_getElem?_getD]
      rw [this]
      exact h.top m h1 (by omega)
  · exact b05.trans (k57.below b05.size (fun k e => by omega))
  · rw [grow_old (Nat.lt_of_lt_of_le hk b05.size)]; exact l2 k hk
  · rcases hg with hg | hg
    · injection hg with hg; rw [← hg]; exact grow_same og
    · rw [hg]; exact grow_new b6.size
  · rcases hg with hg | hg
    · injection hg with hg; omega
    · have := b05.size; have := b6.size; omega

/-- Behind a call: the events, and the quantities ahead of booking them. -/
def MidP (w : World) (b i : Nat) (s4 s7 : Value) (wx : World) : Prop :=
  ∃ (O : Nat → Nat) (G : Mm) (N : Nat) (last : Int) (g cap : Nat) (Q : List Int) (evs : List Ev) (pv : Option Addr) (cv : Nat), s4 = .slice (some ⟨g, 0, none⟩) (N + 1) cap ∧ s7 = .slice pv evs.length cv ∧ N ≤ i + 1 ∧ w.heap.size ≤ g ∧ KpC w wx b O G N last g cap Q evs ∧ OwnE encEv 5 40 0 wx (.slice pv evs.length cv) evs ∧ (∀ h, (Value.slice pv evs.length cv).ownBlock = some h → h ≠ g)
theorem mid_cancel {w wa w' : World} {b i : Nat} {O : Nat → Nat} {G : Mm} {N : Nat} {last : Int} {g cap : Nat} {Q : List Int} (h : KpC w wa b O G N last g cap Q []) (hNi : N ≤ i) (hg : w.heap.size ≤ g) {n m : Int} {e : Ending} (hc : CancelP O 0 wa b G N last n m e w') :
    ∃ pv nv cv er, e = .returned (.tuple #[.slice pv nv cv, .int .i64 er]) ∧ MidP w b i (.slice (some ⟨g, 0, none⟩) (N + 1) cap) (.slice pv nv cv) w' := by
  rcases hc with ⟨_, he, bd, st⟩ | ⟨E, _, _, _, he, bd, st⟩ | ⟨E, hE, hEn, hm, v, O', G', wts, he, hv, hcol, bd, hbd, hw, hp, hen, st⟩
  · exact ⟨none, 0, 0, 4, he, O, G, N, last, g, cap, Q, [], none, 0, rfl, rfl, by omega, hg, h.move st bd (by simp) (fun n _ _ => by simp [takes]), OwnE.nil _ _, fun h hh => by cases hh⟩
  · exact ⟨none, 0, 0, 8, he, O, G, N, last, g, cap, Q, [], none, 0, rfl, rfl, by omega, hg, h.move st bd (by simp) (fun n _ _ => by simp [takes]), OwnE.nil _ _, fun h hh => by cases hh⟩
  · obtain ⟨pv, cv, hv', _⟩ := hv.form
    have hmem : G.en E ∈ (G.bd N last).live := by rw [Mm.bd_live]; exact List.mem_map.2 ⟨E, hE, rfl⟩
    have hlo := live_ok h.bd.ok hmem
    have hl1 := live_one h.bd.ok hmem
    have hnn : (G.bd (N : Int) last).nums = N := rfl
    rw [hnn, hEn] at hlo
    have km := h.move st bd (evs := [⟨3, n, 0, 0, (G.en E).l⟩]) (fun x hx => by
      simp only [List.mem_cons, List.not_mem_nil, or_false] at hx
      subst hx
      exact ⟨hlo.1, ⟨by simp only; omega, by simp only; omega⟩, hl1, hlo.2.2, fun h => by simp at h⟩) (fun k _ _ => by
      have hpm : ((G.bd N last).live).Perm (G.en E :: (G'.bd N last).live) := by rw [Mm.bd_live, Mm.bd_live, hen]; exact hp.map G.en
      rw [sumL_perm hpm, takes_one]
      simp only [sumL, takesE, hEn]
      simp)
    subst hv'
    refine ⟨pv, _, cv, 0, he, O', G', N, last, g, cap, Q, _, pv, cv, rfl, rfl, by omega, hg, km, hv, fun x hx e => ?_⟩
    have := hcol x hx
    rw [e, km.rcol] at this
    omega
theorem mid_no {w wa w' : World} {b i : Nat} {O : Nat → Nat} {G : Mm} {N : Nat} {last : Int} {g cap : Nat} {Q : List Int} (h : KpC w wa b O G N last g cap Q []) (hNi : N ≤ i) (hg : w.heap.size ≤ g) (bd : BdC O 0 w' b G N last []) (st : Step (colB 0) O wa O w') : MidP w b i (.slice (some ⟨g, 0, none⟩) (N + 1) cap) (.slice none 0 0) w' :=
  ⟨O, G, N, last, g, cap, Q, [], none, 0, rfl, rfl, by omega, hg, h.move st bd (by simp) (fun n _ _ => by simp [takes]), OwnE.nil _ _, fun h hh => by cases hh⟩

theorem mid_yes {w w3 w4 w5 : World} {b i : Nat} {O : Nat → Nat} {G : Mm} {N : Nat} {last : Int} {g cap : Nat} {Q : List Int} {o : Od} (h : KpC w w4 b (grow O w3 0) G N last g cap Q []) (hNi : N ≤ i) (hN : N ≤ 90) (hg : w.heap.size ≤ g) (hE : enterE (G.bd N last) o = 0) (cO : Cells w4 w3.heap.size #[.int .i64 o.m, .int .i64 o.s, .int .i64 o.k, .int .i64 o.f, .int .i64 o.p, .int .i64 o.t, .int .i64 o.q, .int .i64 o.pk] 27) {e : Ending} (hc : EnterP (grow O w3 0) 0 w4 b G N last o e w5) :
    ∃ pv nv cv, e = .returned (.tuple #[.int .i64 ((N : Int) + 1), .slice pv nv cv, .int .i64 0]) ∧ w5.cell? ⟨w3.heap.size, 6, none⟩ = some (.int .i64 o.q) ∧ w3.heap.size < w5.heap.size ∧
      ∃ g' cap' w7, (Builtin.append_ #[25, 25] 25 #[.slice (some ⟨g, 0, none⟩) (N + 1) cap, .slice (some ⟨w5.heap.size, 0, none⟩) 1 1]).run Try.prog (w5.alloc (.cells #[.int .i64 o.q] 2)) = .ok (.slice (some ⟨g', 0, none⟩) (N + 1 + 1) cap') w7 ∧ MidP w b i (.slice (some ⟨g', 0, none⟩) (N + 1 + 1) cap') (.slice pv nv cv) w7 := by
  rcases hc with ⟨h1, _⟩ | ⟨_, v5, O5, G5, l5, h2, h3, h4, h5, h6, h7⟩
  · exact absurd hE h1
  · obtain ⟨pv, cv, hv, _⟩ := h3.form
    subst hv
    have oB : ¬ colB 0 (grow O w3 0 w3.heap.size) := by rw [grow_new (Nat.le_refl _)]; exact fun e => absurd e.1 (by omega)
    have cO5 := cO.kept h7.kept oB
    have og : ¬ colB 0 (grow O w3 0 g) := by rw [h.rcol]; exact fun e => absurd e.1 (by omega)
    have row5 : OwnE encI 1 2 0 w5 (.slice (some ⟨g, 0, none⟩) (N + 1) cap) Q := OwnE.kept h.row h7.kept (fun x hx => by injection hx with hx; rw [← hx]; exact og)
    have b6 : Below w5.heap.size w5 (w5.alloc (.cells #[.int .i64 o.q] 2)) := (Below.refl _ w5).alloc (Nat.le_refl _) _
    have row6 := OwnE.below row5 b6
    obtain ⟨g', cap', w7, q1, q2, q3, q4⟩ := int_append row6 (by rw [h.len]; omega) o.q (Cells.new w5 #[.int .i64 o.q] 2) 25
    rw [h.len] at q1 q2
    obtain ⟨O7, k7, _, _, hg7⟩ := h.entered hN hE h7 h5 h6 b6 q2 q3 q4 hg
    have hev := OwnE.below h3 b6
    have hev7 : OwnE encEv 5 40 0 w7 (.slice pv (enterF (G.bd N last) o).2.length cv) (enterF (G.bd N last) o).2 := by
      refine OwnE.kept hev q3 (fun x hx e => ?_)
      obtain ⟨cs, hcs⟩ := own_lt hev hx
      rw [← h.len] at row6
      obtain ⟨cu, hcu, _⟩ := own_int row6
      injection e with e
      exact hcs.ne hcu (by decide) e
    refine ⟨pv, _, cv, h2, by rw [cO5.cell]; rfl, cO5.lt, g', cap', w7, q1, O7, G5, N + 1, l5, g', cap', _, _, pv, cv, rfl, rfl, by omega, hg7, k7, hev7, fun x hx => ?_⟩
    obtain ⟨cs, hcs⟩ := own_lt hev7 hx
    have q2' := q2
    rw [show N + 1 + 1 = (Q ++ [o.q]).length by rw [List.length_append, h.len]; rfl] at q2'
    obtain ⟨cu, hcu, _⟩ := own_int q2'
    exact hcs.ne hcu (by decide)

/-- A quantity is written: the board, the row, the worlds. -/
structure RowC (w0 wr : World) (b : Nat) (O : Nat → Nat) (G : Mm) (N : Nat) (last : Int) (g cap : Nat) (Q : List Int) : Prop where
  bd : BdC O 0 wr b G N last []
  row : OwnE encI 1 2 0 wr (.slice (some ⟨g, 0, none⟩) (N + 1) cap) Q
  rcol : O g = 0
  len : Q.length = N + 1
  below : Below w0.heap.size w0 wr
theorem KpC.rowC {w0 wr : World} {b : Nat} {O : Nat → Nat} {G : Mm} {N : Nat} {last : Int} {g cap : Nat} {Q : List Int} {evs : List Ev} (h : KpC w0 wr b O G N last g cap Q evs) : RowC w0 wr b O G N last g cap Q := ⟨h.bd, h.row, h.rcol, h.len, h.below⟩
theorem RowC.get {w0 wr : World} {b : Nat} {O : Nat → Nat} {G : Mm} {N : Nat} {last : Int} {g cap : Nat} {Q : List Int} (h : RowC w0 wr b O G N last g cap Q) {n : Int} (h1 : 0 ≤ n) (h2 : n ≤ N) : wr.cell? ⟨g, n.toNat, none⟩ = some (.int .i64 (Q.getD n.toNat 0)) ∧ wr.frozen? ⟨g, n.toNat, none⟩ = false ∧ g < wr.heap.size := by
  have row := h.row
  rw [← h.len] at row
  exact own_int_get row n.toNat (by rw [h.len]; omega)
theorem RowC.drew {w0 wr : World} {b : Nat} {O : Nat → Nat} {G : Mm} {N : Nat} {last : Int} {g cap : Nat} {Q : List Int} (h : RowC w0 wr b O G N last g cap Q) : RowC w0 wr.drew b O G N last g cap Q := ⟨h.bd.step (Step.of_below (Below.drew (Below.refl _ wr)) (fun _ => False)) (fun _ _ => not_false), h.row.drew, h.rcol, h.len, h.below.drew⟩
theorem RowC.put {w0 wr : World} {b : Nat} {O : Nat → Nat} {G : Mm} {N : Nat} {last : Int} {g cap : Nat} {Q : List Int} (h : RowC w0 wr b O G N last g cap Q) {n : Int} (h1 : 0 ≤ n) (h2 : n ≤ N) (q : Int) (hg : w0.heap.size ≤ g) : RowC w0 (wr.setCell ⟨g, n.toNat, none⟩ (.int .i64 (Q.getD n.toNat 0 - q))) b O G N last g cap (subQ Q n q) := by
  have hk1 : Kept (fun c => c = g) wr (wr.setCell ⟨g, n.toNat, none⟩ (.int .i64 (Q.getD n.toNat 0 - q))) := (Kept.refl (fun c => c = g) wr).set (C := g) rfl _ _
  have st : Step (fun c => c = 0) O wr O (wr.setCell ⟨g, n.toNat, none⟩ (.int .i64 (Q.getD n.toNat 0 - q))) := Step.set h.rcol _ _
  have row := h.row
  rw [← h.len] at row
  have r2 := own_int_set row n.toNat (by rw [h.len]; omega) (Q.getD n.toNat 0 - q)
  rw [h.len] at r2
  exact ⟨h.bd.step st (fun x hx e => by have := hx.1; omega), r2, h.rcol, by rw [subQ_len, h.len], h.below.trans (hk1.below h.below.size (fun c e => by omega))⟩
end Go.Proofs.Ytdjhpldiifdifaa
