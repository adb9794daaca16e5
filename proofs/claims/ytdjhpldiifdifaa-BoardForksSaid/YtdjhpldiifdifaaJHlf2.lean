/- half.front, half.take. -/
import Derived.StillTailTactics
import Derived.BigRegion
import Derived.Deep.RegionLaw
import Derived.Test.YtdjhpldiifdifaaJHlf1
import Derived.Test.YtdjhpldiifdifaaJMem
import Derived.Test.YtdjhpldiifdifaaJLst1
namespace Go.Proofs.Ytdjhpldiifdifaa
set_option linter.unusedSimpArgs false
set_option linter.unusedVariables false
open Go.RowKit Go.Shelf
attribute [local go_sem] Oper.semAt_some
attribute [local go_sem ↓] Go.wp_at_zero Go.wp_at_succ

theorem region_tail {P : Program} {id : Nat} {Q : Exit → Act → World → Prop} {a : Act} {w : World} {l : List Oper} (n : Nat) (hm : P.follows .mixedOrders = true) (hB : Region.lexTailB .any l.toArray n = true)
    (h : wpStill P l.toArray w.drew (fun a' => wpList P l.toArray Q (l.drop n) a' w.drew) (l.take n) a) : (Code.region id l.toArray true).wp P Q a w := wp_region_still_tail n hm hB h
/-- The entry at the front. -/
def frontL : List Lv → Option Nat
  | [] => none
  | x :: _ => x.2.2.head?.map Prod.snd

set_option maxRecDepth 100000 in
set_option maxHeartbeats 2000000 in
theorem front_calls {O : Nat → Nat} {c : Nat} {w : World} {H : Nat} {side : Int} {ls : List Lv} {en : Nat → En} (h : HlfC O c w H side ls en) (hfull : ∀ x ∈ ls, x.2.2 ≠ []) (hlen : ls.length ≤ 1000000) :
    Calls Try.prog 73 #[pt H] w fun e w' => e = .returned (op (frontL ls)) ∧ ∃ m, w' = w.drewN m := by
  obtain ⟨p, cap, b, hc, hp, hb, hrow, _⟩ := h.row
  have hp := fun h0 => (hp h0).1
  have c1 : w.cell? ⟨H, 1, none⟩ = some (.slice p ls.length cap) := by rw [hc.cell]; rfl
  have hHlt := hc.lt
  cases ls with
  | nil =>
    clear h hc hrow hfull hp
    go_enter Try.func73, Try.ntmps73
    go_wp2
    go_ret
    exact ⟨rfl, 0, rfl⟩
  | cons x r =>
    obtain ⟨pr, L, es⟩ := x
    have r0 := hrow 0 (by simp)
    simp only [List.getElem_cons_zero] at r0
    have hpp := hp (by simp)
    subst hpp
    have hl := (h.lv (pr, L, es) (by simp)).1
    cases es with
    | nil => exact absurd rfl (hfull (pr, L, []) (by simp))
    | cons y es =>
      obtain ⟨E, X⟩ := y
      have l1 : w.cell? ⟨L, 1, none⟩ = some (pt E) := by rw [hl.c.cell]; rfl
      have l2 : w.cell? ⟨E, 2, none⟩ = some (pt X) := by rw [hl.l.1.cell]; rfl
      have hLlt := hl.c.lt
      have hElt := hl.l.1.lt
      simp only at hLlt hElt
      clear h hc hrow hfull hp hl
      generalize hn : ((pr, L, (E, X) :: es) :: r).length = n at *
      have hn0 : 0 < n := by rw [← hn]; simp
      have hn1 : (0 : Int) < n := by omega
      have hne : ((n : Int) == 0) = false := by simp; omega
      clear hn
      go_enter Try.func73, Try.ntmps73
      go_wp2
      go_ret
      exact ⟨rfl, 0, rfl⟩

/-- The colours behind a call: new blocks are of colour c. -/
def grow (O : Nat → Nat) (w : World) (c : Nat) : Nat → Nat := fun k => if k < w.heap.size then O k else c
theorem grow_old {O : Nat → Nat} {w : World} {c k : Nat} (h : k < w.heap.size) : grow O w c k = O k := if_pos h
theorem grow_same {O : Nat → Nat} {w : World} {c k : Nat} (h : O k = c) : grow O w c k = c := by unfold grow; split; exact h; rfl
theorem grow_new {O : Nat → Nat} {w : World} {c k : Nat} (h : w.heap.size ≤ k) : grow O w c k = c := if_neg (by omega)
/-- The side without the entry X of element E. -/
def cutL (pre : List Lv) (p : Int) (L : Nat) (q : List (Nat × Nat)) (post : List Lv) : List Lv := if q = [] then pre ++ post else pre ++ (p, L, q) :: post
/-- What take comes to. -/
def Taken (O : Nat → Nat) (c : Nat) (w : World) (H : Nat) (side : Int) (pre : List Lv) (p : Int) (L : Nat) (q : List (Nat × Nat)) (post : List Lv) (X : Nat) (en : Nat → En) (e : Ending) (w' : World) : Prop :=
  e = .returned (.tuple #[]) ∧ HlfC (grow O w c) c w' H side (cutL pre p L q post) en ∧ EnC w' X (en X) false none ∧ Kept (fun k => O k = c) w w'

set_option maxRecDepth 100000 in
set_option maxHeartbeats 4000000 in
theorem take_calls {O : Nat → Nat} {c : Nat} {w : World} {H : Nat} {side : Int} {pre post : List Lv} {p : Int} {L E X : Nat} {q1 q2 : List (Nat × Nat)} {en : Nat → En} (h : HlfC O c w H side (pre ++ (p, L, q1 ++ (E, X) :: q2) :: post) en) (hp : (en X).o.p = p)
    (h1 : ∀ x ∈ pre, better side x.1 p = true) (h2 : ∀ x ∈ (p, L, q1 ++ (E, X) :: q2) :: post, better side x.1 p = false) (hlen : (pre ++ (p, L, q1 ++ (E, X) :: q2) :: post).length ≤ 1000000) (hql : (q1 ++ (E, X) :: q2).length ≤ 1000000) :
    Calls Try.prog 72 #[pt H, pt X] w (Taken O c w H side pre p L (q1 ++ q2) post X en) := by
  have hmem : (p, L, q1 ++ (E, X) :: q2) ∈ pre ++ (p, L, q1 ++ (E, X) :: q2) :: post := by simp
  obtain ⟨a1, a2, a3⟩ := h.lv _ hmem
  obtain ⟨b1, b2, b3⟩ := a3 (E, X) (by simp)
  simp only at a1 a2 a3 b1 b2 b3
  have hfind := find_calls h (en X).o.p (by rw [hp]; exact h1) (by rw [hp]; exact h2) hlen
  simp only [List.head?_cons, Option.map_some, hp, decide_true] at hfind
  obtain ⟨pp, cap, b, hc, hpp, hb, hrow, hown, hocol⟩ := h.row
  have hn0 : 0 < (pre ++ (p, L, q1 ++ (E, X) :: q2) :: post).length := by simp; omega
  have hpp := (hpp hn0).1
  subst hpp
  have r0 := hrow pre.length (by simp)
  rw [List.getElem_append_right (Nat.le_refl _)] at r0
  simp only [Nat.sub_self, List.getElem_cons_zero] at r0
  obtain ⟨n, hn⟩ : ∃ n, n = (pre ++ (p, L, q1 ++ (E, X) :: q2) :: post).length := ⟨_, rfl⟩
  obtain ⟨i, hi⟩ : ∃ i, i = pre.length := ⟨_, rfl⟩
  have hin : i < n := by rw [hi, hn]; simp
  have hinI : (i : Int) < n := by omega
  have c1 : w.cell? ⟨H, 1, none⟩ = some (.slice (some ⟨b, 0, none⟩) n cap) := by rw [hc.cell, hn]; rfl
  have hHlt := hc.lt
  have x5 : w.cell? ⟨X, 5, none⟩ = some (.int .i64 p) := by rw [Cells.cell b3, ← hp]; rfl
  have x12 : w.cell? ⟨X, 12, none⟩ = some (pt E) := by rw [Cells.cell b3]; rfl
  have hXlt := b3.lt
  have hLlt := a1.c.lt
  rw [← hi] at r0 hfind

  have HH := hid h
  have HF := hid hfind
  have HL := hid a1
  have HC := hid hc
  have HO := hid hown
  have HOC := hid hocol
  have HI := hid hi
  have HN := hid hn
  clear hi hn
  clear h hmem a1 a2 a3 b1 b2 b3 hfind hc hrow hown hocol hn0 h1 h2
  generalize hR : Taken O c w H side pre p L (q1 ++ q2) post X en = R
  have HR := hid hR
  clear hR
  go_enter Try.func72, Try.ntmps72
  go_wp2_with fail
  refine HF.out.mono ?_
  rintro e w1 ⟨rfl, m, hw1⟩
  have k1 : w1.cell? ⟨H, 1, none⟩ = some (.slice (some ⟨b, 0, none⟩) n cap) := by rw [hw1]; exact c1
  have k2 : w1.cell? ⟨b, i, none⟩ = some (pt L) := by rw [hw1]; exact r0
  have k3 : w1.cell? ⟨X, 12, none⟩ = some (pt E) := by rw [hw1]; exact x12
  have hs1 : w1.heap.size = w.heap.size := by rw [hw1]; rfl
  rw [← hs1] at hHlt hb hXlt hLlt
  have HW := hid hw1
  have HS := hid hs1
  clear c1 r0 x12 x5 hw1 hs1
  go_wp2
  refine region_tail 13 (by kernel_rfl) (by kernel_rfl) ?_
  simp only [List.take_succ_cons, List.take_zero, List.drop_succ_cons, List.drop_zero]
  repeat still_step
  refine wpStill_nil ?_
  go_wp2_with fail
  refine (remove_calls w1.drew L p q1 q2 (E, X) (by rw [HW.out]; exact HL.out.kept (X := fun _ => False) (((Kept.refl _ w).drewN m).drew) (fun _ _ => not_false)) (by omega)).mono ?_
  rintro e w2 ⟨rfl, hl2, hk2⟩
  have hd1 : HlfC O c w1.drew H side (pre ++ (p, L, q1 ++ (E, X) :: q2) :: post) en := by rw [HW.out]; exact HH.out.keptG (P := fun _ => False) (((Kept.refl _ w).drewN m).drew) not_false (fun _ _ _ _ => not_false) (fun _ _ => ⟨not_false, fun _ _ => ⟨not_false, not_false⟩⟩) (fun _ _ h => h) (fun _ _ _ _ => rfl)
  obtain ⟨g1, g2, g3, g4⟩ := hd1.cutE hl2 hk2
  have kk : Kept (fun k => O k = c) w w2 := by
    have k0 : Kept (fun k => O k = c) w w1.drew := by rw [HW.out]; exact ((Kept.refl _ w).drewN m).drew
    refine k0.trans hk2 (fun k _ hk => ?_)
    rcases hk with rfl | hk
    · exact (HH.out.lv (p, k, q1 ++ (E, X) :: q2) (by simp)).2.1
    · obtain ⟨y, hy, rfl⟩ := List.mem_map.1 hk
      exact ((HH.out.lv (p, L, q1 ++ (E, X) :: q2) (by simp)).2.2 y hy).1
  have f12 : w2.frozen? ⟨X, 12, none⟩ = false := Cells.frozen g2 12
  have y12 : w2.cell? ⟨X, 12, none⟩ = some (pt E) := by rw [Cells.cell g2]; rfl
  have hX2 := g2.lt
  have G1 := hid g1
  have G2 := hid g2
  have G3 := hid g3
  have G4 := hid g4
  have KK := hid kk
  clear hd1 hl2 hk2 g1 g2 g3 g4 kk k1 k2 k3 hHlt hb hXlt hLlt
  -- the place
  have p1 : EnC (w2.setCell ⟨X, 12, none⟩ (.pointer none)) X (en X) false none := Cells.set G2.out 12 (.pointer none)
  have p2 : Kept (fun k => k = X) w2 (w2.setCell ⟨X, 12, none⟩ (.pointer none)) := (Kept.refl (fun k => k = X) w2).set (C := X) rfl 12 _
  have p3 : HlfC O c (w2.setCell ⟨X, 12, none⟩ (.pointer none)) H side (pre ++ (p, L, q1 ++ q2) :: post) en := by
    obtain ⟨v, hv, _⟩ := G1.out.cell
    refine G1.out.keptG p2 (hv.ne G2.out (by decide)) (fun b cs _ hb => hb.ne G2.out (by decide)) (fun x hx => ⟨(G1.out.lv x hx).1.c.ne G2.out (by decide), fun y hy => ⟨?_, fun e => G3.out (by rw [← e]; exact mem_ens hx hy)⟩⟩) (fun _ _ h => h) (fun _ _ _ _ => rfl)
    obtain ⟨cs, hc⟩ := (G1.out.lv x hx).el hy
    exact hc.ne G2.out (by decide)
  have P1 := hid p1
  have P3 := hid p3
  have P4 := hid (KK.out.trans p2 (fun k _ (hk : k = X) => by rw [hk]; exact G4.out) : Kept (fun k => O k = c) w (w2.setCell ⟨X, 12, none⟩ (.pointer none)))
  clear p1 p2 p3
  -- the level's size
  obtain ⟨pp, cap2, b2, hc2, hpp, hb2, hrow2, hown2, hocol2⟩ := G1.out.row
  have hn2 : (pre ++ (p, L, q1 ++ q2) :: post).length = n := by rw [HN.out]; simp
  have hpp := hpp (by simp; omega)
  obtain ⟨hpp, hOb⟩ := hpp
  subst hpp
  have l1 := (G1.out.lv (p, L, q1 ++ q2) (by simp)).1.c
  simp only at l1
  have k1 : w2.cell? ⟨H, 1, none⟩ = some (.slice (some ⟨b2, 0, none⟩) n cap2) := by rw [hc2.cell, ← hn2]; rfl
  have k2 : w2.cell? ⟨b2, i, none⟩ = some (pt L) := by
    have := hrow2 pre.length (by simp)
    rw [List.getElem_append_right (Nat.le_refl _)] at this
    simp only [Nat.sub_self, List.getElem_cons_zero] at this
    rw [HI.out]
    exact this
  have k3 : w2.cell? ⟨L, 3, none⟩ = some (.int .i64 (q1 ++ q2).length) := by rw [l1.cell]; rfl
  have hHX : H ≠ X := hc2.ne G2.out (by decide)
  have hLX : L ≠ X := l1.ne G2.out (by decide)
  have hbX : b2 ≠ X := by
    rcases hown2.2 with ⟨e, _⟩ | ⟨g, cp, cur, e, _, hg, _⟩
    · cases e
    · injection e with e; injection e with e; injection e with e
      subst e
      exact Cells.ne hg G2.out (by decide)
  have hHlt := hc2.lt
  have hLlt := l1.lt
  have HC2 := hid hc2
  have HOB := hid hOb
  have HB := hid hb2
  clear hc2 hrow2 hown2 hocol2 hn2 l1 hOb
  by_cases hq : q1 ++ q2 = []
  · have h0 : ((q1 ++ q2).length : Int) = 0 := by rw [hq]; rfl
    rw [h0] at k3
    have HQ := hid hq
    clear hq h0
    have hrow3 := P3.out.row
    obtain ⟨pp3, cap3, b3, hc3, hpp3, hb3, hrow3, hown3, hocol3⟩ := hrow3
    have hsame : pp3 = some ⟨b2, 0, none⟩ ∧ cap3 = cap2 ∧ (pre ++ (p, L, q1 ++ q2) :: post).length = n := by
      have e1 := hc3.cell 1
      have e2 : (w2.setCell ⟨X, 12, none⟩ (.pointer none)).cell? ⟨H, 1, none⟩ = some (.slice (some ⟨b2, 0, none⟩) n cap2) := by
        rw [World.cell?_setCell_other _ _ _ _ (fun e => hHX (congrArg Addr.block e).symm)]
        exact k1
      rw [e2] at e1
      simp at e1
      exact ⟨e1.1.symm, e1.2.2.symm, by rw [HN.out]; simp⟩
    obtain ⟨rfl, rfl, hn3⟩ := hsame
    have hnp : n - (i + 1) = post.length := by rw [HN.out, HI.out]; simp; omega
    obtain ⟨A, hA, hA2⟩ : ∃ A : Addr, (if cap3 = i + 1 then some (⟨b2, 0, none⟩ : Addr) else some ⟨b2, i + 1, none⟩) = some A ∧ (cap3 ≠ i + 1 → A = ⟨b2, i + 1, none⟩) := by
      by_cases h : cap3 = i + 1
      · exact ⟨⟨b2, 0, none⟩, by simp [h], fun hn => absurd h hn⟩
      · exact ⟨⟨b2, i + 1, none⟩, by simp [h], fun _ => rfl⟩
    have hnn : n ≤ 1000000 := by rw [← hn3]; simp at hlen ⊢; omega
    have hncap : n ≤ cap3 := by
      rcases hown3.2 with ⟨e, _⟩ | ⟨g, cp, cur, e, _, hg, h5, _⟩
      · cases e
      · injection e with e1 e2 e3
        rw [e3, ← hn3]
        simpa using h5
    have ho : OwnE encPt 1 108 0 ((w2.setCell ⟨X, 12, none⟩ (.pointer none)).drew) (.slice (some ⟨b2, 0, none⟩) ((pre.map fun x => x.2.1) ++ L :: (post.map fun x => x.2.1)).length cap3) ((pre.map fun x => x.2.1) ++ L :: (post.map fun x => x.2.1)) := by
      have := hown3.drew
      simpa using this
    obtain ⟨v', w4, r1, r2, r3, r4⟩ := row_cut (ty := 106) undLev infoLev ho (by rw [← hn3] at hin; simp; simp at hlen; omega) A (fun h0 => by rw [hA2 (by rw [List.length_map] at h0; omega), HI.out, List.length_map]) (cap3 - (i + 1))
    rw [List.length_map, List.length_map, ← HI.out, ← hnp] at r1
    obtain ⟨pn, capn, hv', _⟩ := r2.form
    generalize hpl : ((pre.map fun x => x.2.1) ++ post.map fun x => x.2.1).length = nn at hv'
    subst hv'
    have HPL := hid hpl
    clear hpl
    have HNP := hid hnp
    clear hnp
    have hHb : H ≠ b2 := by
      rcases hown3.2 with ⟨e, _⟩ | ⟨g, cp, cur, e, _, hg, _⟩
      · cases e
      · injection e with e; injection e with e; injection e with e
        subst e
        exact hc3.ne hg (by decide)
    have hbX2 : ∃ cs, Cells (w2.setCell ⟨X, 12, none⟩ (.pointer none)) b2 cs 108 := by
      rcases hown3.2 with ⟨e, _⟩ | ⟨g, cp, cur, e, _, hg, _⟩
      · cases e
      · injection e with e; injection e with e; injection e with e
        subst e
        exact ⟨cur, hg⟩
    obtain ⟨csb, hcb⟩ := hbX2
    have c4 : Cells w4 H #[betV side, .slice (some ⟨b2, 0, none⟩) (pre ++ (p, L, q1 ++ q2) :: post).length cap3] 136 := hc3.drew.kept r3 hHb
    have x1 : w4.cell? ⟨H, 1, none⟩ = some (.slice (some ⟨b2, 0, none⟩) (pre ++ (p, L, q1 ++ q2) :: post).length cap3) := by rw [c4.cell]; rfl
    obtain ⟨u1, x1⟩ : ∃ u, w4.cell? ⟨H, 1, none⟩ = some u := ⟨_, x1⟩
    have x2 : w4.frozen? ⟨H, 1, none⟩ = false := c4.frozen 1
    have x3 := c4.lt
    have R1 := hid r1
    have R2 := hid r2
    have R3 := hid r3
    have R4 := hid r4
    have C4 := hid c4
    have HC3 := hid hcb
    have hic : i ≤ cap3 := by omega
    have hwr : IntKind.i64.wrap ((i : Int) + 1) = (i : Int) + 1 := by rw [IntKind.wrap_i64]; omega
    have hp0 : (0 : Int) ≤ (i : Int) + 1 := by omega
    have hp1 : (i : Int) + 1 ≤ (n : Int) := by omega
    have hp2 : ((i : Int) + 1).toNat = i + 1 := by omega
    clear r1 r2 r3 r4 c4 hcb hA2 ho hrow3 hown3 hocol3 hc3 hb3 hpp3 hn3
    have fin : R (.returned (.tuple #[])) (w4.setCell ⟨H, 1, none⟩ (.slice pn nn capn)) := by
      rw [← HR.out]
      have h5 : Cells (w4.setCell ⟨H, 1, none⟩ (.slice pn nn capn)) H #[betV side, .slice pn nn capn] 136 := C4.out.set 1 (.slice pn nn capn)
      have hl5 : H ≠ X := hHX
      have k5 : Kept (fun k => k = b2 ∨ k = H) (w2.setCell ⟨X, 12, none⟩ (.pointer none)) (w4.setCell ⟨H, 1, none⟩ (.slice pn nn capn)) := by
        have k0 : Kept (fun k => k = b2 ∨ k = H) (w2.setCell ⟨X, 12, none⟩ (.pointer none)) (w2.setCell ⟨X, 12, none⟩ (.pointer none)).drew := (Kept.refl _ _).drew
        exact (k0.trans R3.out (fun k _ hk => .inl hk)).set (C := H) (.inr rfl) 1 _
      have szz : w.heap.size ≤ (w2.setCell ⟨X, 12, none⟩ (.pointer none)).drew.heap.size := P4.out.size
      refine ⟨rfl, ?_, P1.out.kept k5 (fun e => e.elim (fun e => hbX e.symm) (fun e => hl5 e.symm)), P4.out.trans k5 (fun k _ hk => ?_)⟩
      · unfold cutL
        rw [if_pos HQ.out]
        refine P3.out.offL k5 (fun k cs t hc hk => ?_) ⟨_, h5, ?_, fun k hk => ?_⟩ (fun k _ hk => grow_same hk)
        · rcases hk with rfl | rfl
          · left
            exact (cells_type HC3.out hc).symm
          · exact .inr rfl
        · have := R2.out
          have h6 : OwnE encPt 1 108 0 w4 (.slice pn nn capn) ((pre ++ post).map fun x => x.2.1) := by simpa using this
          exact h6.set C4.out (by decide) 1 _
        · rcases R4.out with e | e
          · have e2 := hk.symm.trans e
            injection e2 with e2
            rw [e2]
            exact grow_same HOB.out
          · have e2 := hk.symm.trans e
            injection e2 with e2
            rw [e2]
            exact grow_new szz
      · rcases hk with rfl | rfl
        · exact HOB.out
        · exact HH.out.col
    have FIN := hid fin
    clear fin
    go_wp2
    go_region_law (refine step_append_run rfl (.tmp 51) (.tmp 58) 106 rfl _ _ (.slice pn nn capn) w4 (by simp [Act.eval, Act.put]) (by simp [Act.eval, Act.put]) R1.out ?_)
    all_goals go_wp2
    all_goals go_end0
    all_goals exact FIN.out
  · have h0 : ((q1 ++ q2).length : Int) ≠ 0 := by
      intro e
      exact hq (List.length_eq_zero_iff.1 (by omega))
    have HQ := hid hq
    generalize hql2 : ((q1 ++ q2).length : Int) = z at *
    clear hql2 hq
    go_wp2
    go_end0
    rw [← HR.out]
    refine ⟨rfl, ?_, P1.out, P4.out⟩
    unfold cutL
    rw [if_neg HQ.out]
    have := P3.out
    exact this.keptG (Kept.refl (fun _ => False) _) not_false (fun _ _ _ _ => not_false) (fun _ _ => ⟨not_false, fun _ _ => ⟨not_false, not_false⟩⟩) (fun k _ hk => grow_same hk) (fun _ _ _ _ => rfl)
end Go.Proofs.Ytdjhpldiifdifaa
