/- board.enough. -/
import Derived.Test.YtdjhpldiifdifaaJBrd2
namespace Go.Proofs.Ytdjhpldiifdifaa
set_option linter.unusedSimpArgs false
set_option linter.unusedVariables false
open Go.RowKit Go.Shelf
attribute [local go_sem] Oper.semAt_some
attribute [local go_sem ↓] Go.wp_at_zero Go.wp_at_succ

theorem needF_cons (o : Od) (y : En) (r : List En) (need : Int) : needF o (y :: r) need = if o.good y.o.p = true then (if 0 < need1 o y need then needF o r (need1 o y need) else need1 o y need) else need := by
  show (if o.good y.o.p = false then need else _) = _
  cases o.good y.o.p <;> rfl
/-- The search stands before the k-th entry. -/
structure EnJ (w : World) (B1 B2 X : Nat) (o : Od) (all : List En) (l : Int) (k : Nat) (W : World) : Prop where
  below : Below B1 w W
  one : Cells W B1 #[pt X] 92
  two : ∃ n, Cells W B2 #[.int .i64 n] 2 ∧ 0 ≤ n ∧ n ≤ 1000000000 ∧ needF o (all.drop k) n = needF o all l
theorem HlfC.entry {O : Nat → Nat} {c : Nat} {w : World} {H : Nat} {side : Int} {ls : List Lv} {en : Nat → En} (h : HlfC O c w H side ls en) {E : Nat} (hE : E ∈ ensL ls) : O E = c ∧ ∃ P, EnC w E (en E) false (some P) := by
  obtain ⟨x, hx, hm⟩ := List.mem_flatMap.1 hE
  obtain ⟨y, hy, rfl⟩ := List.mem_map.1 hm
  obtain ⟨b1, b2, b3⟩ := (h.lv x hx).2.2 y hy
  exact ⟨b2, _, b3⟩

set_option maxRecDepth 100000 in
set_option maxHeartbeats 4000000 in
theorem enough_calls {O : Nat → Nat} {q : Nat} {w : World} {b : Nat} {G : Mm} {nums last : Int} {evs : List Ev} (h : BdC O q w b G nums last evs) {X : Nat} {x : En} {wx : Bool} {px : Option Nat} (hX : EnC w X x wx px) (hs : x.o.s = 1 ∨ x.o.s = 2) (hl : 0 ≤ x.l ∧ x.l ≤ 1000000000) :
    Calls Try.prog 75 #[pt b, pt X] w fun e w' => e = .returned (.bool (decide (needF x.o (plainH (G.L (3 - x.o.s)) G.en).all x.l = 0))) ∧ Below w.heap.size w w' := by
  have ho := other_side hs
  have hok := h.sok ho
  have hl1 := lv_len hok.sh
  have hl2 := few_side (G := G) ho
  have hfew := h.few
  obtain ⟨w1, hw1⟩ : ∃ w1, w1 = (w.alloc (.cells #[pt X] 92)).alloc (.cells #[.int .i64 x.l] 2) := ⟨_, rfl⟩
  have hk1 : Below w.heap.size w w1 := by rw [hw1]; exact ((Below.refl _ w).alloc (Nat.le_refl _) _).alloc (by simp) _
  have b1 : Cells w1 w.heap.size #[pt X] 92 := by rw [hw1]; exact (Cells.new w _ _).alloc _
  have b2 : Cells w1 (w.heap.size + 1) #[.int .i64 x.l] 2 := by rw [hw1]; have := Cells.new (w.alloc (.cells #[pt X] 92)) #[.int .i64 x.l] 2; simpa using this
  have st : Step (fun k => k = q) O w (grow O w q) w1 := Step.grow (Kept.of_below hk1)
  have h1 := h.step st (fun c hc => by have := hc.1; omega)
  have hot := other_calls h1.top hs
  rw [← G.other hs] at hot
  have hsd := h1.side ho
  rw [plainH_all]
  have hgr1 : grow O w q w.heap.size = q := grow_new (Nat.le_refl _)
  have hgr2 : grow O w q (w.heap.size + 1) = q := grow_new (by omega)
  have hcol := colS_cases q ho
  have hjs : ∀ k W, EnJ w w.heap.size (w.heap.size + 1) X x.o ((ensL (G.L (3 - x.o.s))).map G.en) x.l k W → Stays (grow O w q) (colS q (3 - x.o.s)) w1 W := fun k W hJ => by
    have hsz : w1.heap.size = w.heap.size + 1 + 1 := by rw [hw1]; simp
    obtain ⟨n, hn, _⟩ := hJ.two
    refine ⟨by have := hn.lt; omega, fun k hk hO => ?_⟩
    have hk2 : k < w.heap.size := by
      rcases Nat.lt_trichotomy k w.heap.size with g | g | g
      · exact g
      · rw [g, hgr1] at hO; omega
      · have : k = w.heap.size + 1 := by omega
        rw [this, hgr2] at hO; omega
    rw [hJ.below.block k hk2, hk1.block k hk2]
  have hea := each_calls hsd (by omega) 91 #[pt w.heap.size, pt (w.heap.size + 1)] (enters_of Try.func91 (by kernel_rfl) rfl)
    (EnJ w w.heap.size (w.heap.size + 1) X x.o ((ensL (G.L (3 - x.o.s))).map G.en) x.l)
    (fun _ W => Below w.heap.size w W ∧ Cells W (w.heap.size + 1) #[.int .i64 (needF x.o ((ensL (G.L (3 - x.o.s))).map G.en) x.l)] 2)
    ⟨hk1, b1, x.l, b2, hl.1, hl.2, rfl⟩ hjs (fun k E W hE hJ => by
      have hJs := hjs k W hJ
      obtain ⟨n, hn, hn0, hn1, hnf⟩ := hJ.two
      have hEm : E ∈ ensL (G.L (3 - x.o.s)) := List.mem_of_getElem? hE
      obtain ⟨hOE, P, eE⟩ := hsd.entry hEm
      have hEok : EnOk (3 - x.o.s) nums (G.en E) := hok.mem _ (by rw [plainH_all]; exact List.mem_map.2 ⟨E, hEm, rfl⟩)
      have eE2 : EnC W E (G.en E) false (some P) := (hJs.block E eE.lt hOE).trans eE
      have eX2 : EnC W X x wx px := Cells.below hX hJ.below hX.lt
      have hq := okQ hEok.ok
      have hEl := hEok.l
      refine (enough1_calls eX2 eE2 hJ.one hn ⟨hn0, hn1⟩ (by omega)).mono ?_
      rintro e W' ⟨rfl, r2, r3⟩
      have hbW : Below w.heap.size w W' := hJ.below.trans (r3.below hJ.below.size (fun k hk => by omega))
      have hdrop : ((ensL (G.L (3 - x.o.s))).map G.en).drop k = G.en E :: ((ensL (G.L (3 - x.o.s))).map G.en).drop (k + 1) := by
        have hlt := (List.getElem?_eq_some_iff.1 hE).1
        rw [List.drop_eq_getElem_cons (by simpa using hlt)]
        congr 1
        rw [List.getElem_map, (List.getElem?_eq_some_iff.1 hE).2]
      rw [hdrop, needF_cons] at hnf
      cases hgd : x.o.good (G.en E).o.p
      · right
        rw [hgd] at r2 hnf
        simp only [Bool.false_eq_true, if_false] at r2 hnf
        exact ⟨by simp, hbW, by rw [← hnf]; exact r2⟩
      · rw [hgd] at r2 hnf
        simp only [if_true] at r2 hnf
        by_cases hp : 0 < need1 x.o (G.en E) n
        · left
          rw [if_pos hp] at hnf
          refine ⟨by simp [hp], hbW, hJ.one.kept r3 (by omega), _, r2, by omega, ?_, hnf⟩
          unfold need1
          split <;> omega
        · right
          rw [if_neg hp] at hnf
          exact ⟨by simp [hp], hbW, by rw [← hnf]; exact r2⟩)
  have x2 : w.cell? ⟨X, 2, none⟩ = some (.int .i64 x.o.s) := by rw [Cells.cell hX]; rfl
  have x9 : w.cell? ⟨X, 9, none⟩ = some (.int .i64 x.l) := by rw [Cells.cell hX]; rfl
  have hXl := hX.lt
  have hfin : ∀ w', (EnJ w w.heap.size (w.heap.size + 1) X x.o ((ensL (G.L (3 - x.o.s))).map G.en) x.l (ensL (G.L (3 - x.o.s))).length w' ∨ ∃ k, k < (ensL (G.L (3 - x.o.s))).length ∧ Below w.heap.size w w' ∧ Cells w' (w.heap.size + 1) #[.int .i64 (needF x.o ((ensL (G.L (3 - x.o.s))).map G.en) x.l)] 2) → Below w.heap.size w w' ∧ Cells w' (w.heap.size + 1) #[.int .i64 (needF x.o ((ensL (G.L (3 - x.o.s))).map G.en) x.l)] 2 := by
    rintro w' (hJ | ⟨_, _, h1, h2⟩)
    · obtain ⟨n, hn, _, _, hf⟩ := hJ.two
      rw [List.drop_of_length_le (by simp)] at hf
      refine ⟨hJ.below, ?_⟩
      rw [← hf]
      exact hn
    · exact ⟨h1, h2⟩
  have hea := hea.mono (R' := fun e w' => e = .returned (.tuple #[]) ∧ Below w.heap.size w w' ∧ Cells w' (w.heap.size + 1) #[.int .i64 (needF x.o ((ensL (G.L (3 - x.o.s))).map G.en) x.l)] 2) (fun e w' ⟨h1, h2⟩ => ⟨h1, hfin w' h2⟩)
  rw [hw1] at hot hea
  have HO := hid hot
  have HE := hid hea
  generalize needF x.o ((ensL (G.L (3 - x.o.s))).map G.en) x.l = N at *
  clear hea hot h h1 hsd hjs hok hl1 hl2 hfew st hk1 hw1 hX hfin b1 b2 hgr1 hgr2 hcol
  go_enter Try.func75, Try.ntmps75
  go_wp2_with fail
  refine HO.out.mono ?_
  rintro e w2 ⟨rfl, rfl⟩
  go_wp2_with fail
  refine HE.out.mono ?_
  rintro e w2 ⟨rfl, hb, hc⟩
  have c0 : w2.cell? ⟨w.heap.size + 1, 0, none⟩ = some (.int .i64 N) := by rw [hc.cell]; rfl
  have hlt := hc.lt
  clear hc
  go_wp2
  go_ret
  exact ⟨rfl, hb⟩
end Go.Proofs.Ytdjhpldiifdifaa
