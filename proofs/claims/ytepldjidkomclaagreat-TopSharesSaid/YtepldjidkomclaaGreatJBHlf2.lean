/- half.front, half.take. half.add. (printed by gen_hlf3.py) half.each: a closure is called for all entries of a side, the best price first. The board in memory. No function of the program in sight. -/
import Derived.StillTailTactics
import Derived.BigRegion
import Derived.Deep.RegionLaw
import Derived.Test.YtepldjidkomclaaGreatJBHlf1
import Derived.Test.YtepldjidkomclaaGreatJBRowp
namespace Go.Proofs.YtepldjidkomclaaGreat.Bo
set_option linter.unusedSimpArgs false
set_option linter.unusedVariables false
open Go.RowKit Go.Shelf
attribute [local go_sem] Oper.semAt_some
attribute [local go_sem ↓] Go.wp_at_zero Go.wp_at_succ
theorem region_tail {P : Program} {id : Nat} {Q : Exit → Act → World → Prop} {a : Act} {w : World} {l : List Oper} (n : Nat) (hm : P.follows .mixedOrders = true) (hB : Region.lexTailB .any l.toArray n = true)
    (h : wpStill P l.toArray w.drew (fun a' => wpList P l.toArray Q (l.drop n) a' w.drew) (l.take n) a) : (Code.region id l.toArray true).wp P Q a w := wp_region_still_tail n hm hB h
def frontL : List Lv → Option Nat
  | [] => none
  | x :: _ => x.2.2.head?.map Prod.snd
set_option maxRecDepth 100000 in
set_option maxHeartbeats 2000000 in
theorem front_calls {O : Nat → Nat} {c : Nat} {w : World} {H : Nat} {side : Int} {ls : List Lv} {en : Nat → En} (h : HlfC O c w H side ls en) (hfull : ∀ x ∈ ls, x.2.2 ≠ []) (hlen : ls.length ≤ 1000000) :
    Calls Tryz.prog 53 #[pt H] w fun e w' => e = .returned (op (frontL ls)) ∧ ∃ m, w' = w.drewN m := by
  obtain ⟨p, cap, b, hc, hp, hb, hrow, _⟩ := h.row
  have hp := fun h0 => (hp h0).1
  have c1 : w.cell? ⟨H, 1, none⟩ = some (.slice p ls.length cap) := by rw [hc.cell]; rfl
  have hHlt := hc.lt
  cases ls with
  | nil =>
    clear h hc hrow hfull hp
    go_enter Tryz.func53, Tryz.ntmps53
    go_wp2
    go_ret
    exact ⟨rfl, 0, rfl⟩
  | cons x r =>
    obtain ⟨pr, L, es⟩ := x
    have r0 := hrow 0 (by simp)
    simp only [List.getElem_cons_zero] at r0
    have hpp := hp (by simp)
    subst hpp
    have hl := (h.lv (pr, L, es) (by simp)).1
    cases es with
    | nil => exact absurd rfl (hfull (pr, L, []) (by simp))
    | cons y es =>
      obtain ⟨E, X⟩ := y
      have l1 : w.cell? ⟨L, 1, none⟩ = some (pt E) := by rw [hl.c.cell]; rfl
      have l2 : w.cell? ⟨E, 2, none⟩ = some (pt X) := by rw [hl.l.1.cell]; rfl
      have hLlt := hl.c.lt
      have hElt := hl.l.1.lt
      simp only at hLlt hElt
      clear h hc hrow hfull hp hl
      generalize hn : ((pr, L, (E, X) :: es) :: r).length = n at *
      have hn0 : 0 < n := by rw [← hn]; simp
      have hn1 : (0 : Int) < n := by omega
      have hne : ((n : Int) == 0) = false := by simp; omega
      clear hn
      go_enter Tryz.func53, Tryz.ntmps53
      go_wp2
      go_ret
      exact ⟨rfl, 0, rfl⟩
def grow (O : Nat → Nat) (w : World) (c : Nat) : Nat → Nat := fun k => if k < w.heap.size then O k else c
theorem grow_old {O : Nat → Nat} {w : World} {c k : Nat} (h : k < w.heap.size) : grow O w c k = O k := if_pos h
theorem grow_same {O : Nat → Nat} {w : World} {c k : Nat} (h : O k = c) : grow O w c k = c := by unfold grow; split; exact h; rfl
theorem grow_new {O : Nat → Nat} {w : World} {c k : Nat} (h : w.heap.size ≤ k) : grow O w c k = c := if_neg (by omega)
def cutL (pre : List Lv) (p : Int) (L : Nat) (q : List (Nat × Nat)) (post : List Lv) : List Lv := if q = [] then pre ++ post else pre ++ (p, L, q) :: post
def Taken (O : Nat → Nat) (c : Nat) (w : World) (H : Nat) (side : Int) (pre : List Lv) (p : Int) (L : Nat) (q : List (Nat × Nat)) (post : List Lv) (X : Nat) (en : Nat → En) (e : Ending) (w' : World) : Prop :=
  e = .returned (.tuple #[]) ∧ HlfC (grow O w c) c w' H side (cutL pre p L q post) en ∧ EnC w' X (en X) false none ∧ Kept (fun k => O k = c) w w'
set_option maxRecDepth 100000 in
set_option maxHeartbeats 4000000 in
theorem take_calls {O : Nat → Nat} {c : Nat} {w : World} {H : Nat} {side : Int} {pre post : List Lv} {p : Int} {L E X : Nat} {q1 q2 : List (Nat × Nat)} {en : Nat → En} (h : HlfC O c w H side (pre ++ (p, L, q1 ++ (E, X) :: q2) :: post) en) (hp : (en X).o.p = p)
    (h1 : ∀ x ∈ pre, better side x.1 p = true) (h2 : ∀ x ∈ (p, L, q1 ++ (E, X) :: q2) :: post, better side x.1 p = false) (hlen : (pre ++ (p, L, q1 ++ (E, X) :: q2) :: post).length ≤ 1000000) (hql : (q1 ++ (E, X) :: q2).length ≤ 1000000) :
    Calls Tryz.prog 56 #[pt H, pt X] w (Taken O c w H side pre p L (q1 ++ q2) post X en) := by
  have hmem : (p, L, q1 ++ (E, X) :: q2) ∈ pre ++ (p, L, q1 ++ (E, X) :: q2) :: post := by simp
  obtain ⟨a1, a2, a3⟩ := h.lv _ hmem
  obtain ⟨b1, b2, b3⟩ := a3 (E, X) (by simp)
  simp only at a1 a2 a3 b1 b2 b3
  have hfind := find_calls h (en X).o.p (by rw [hp]; exact h1) (by rw [hp]; exact h2) hlen
  simp only [List.head?_cons, Option.map_some, hp, decide_true] at hfind
  obtain ⟨pp, cap, b, hc, hpp, hb, hrow, hown, hocol⟩ := h.row
  have hn0 : 0 < (pre ++ (p, L, q1 ++ (E, X) :: q2) :: post).length := by simp; omega
  have hpp := (hpp hn0).1
  subst hpp
  have r0 := hrow pre.length (by simp)
  rw [List.getElem_append_right (Nat.le_refl _)] at r0
  simp only [Nat.sub_self, List.getElem_cons_zero] at r0
  obtain ⟨n, hn⟩ : ∃ n, n = (pre ++ (p, L, q1 ++ (E, X) :: q2) :: post).length := ⟨_, rfl⟩
  obtain ⟨i, hi⟩ : ∃ i, i = pre.length := ⟨_, rfl⟩
  have hin : i < n := by rw [hi, hn]; simp
  have hinI : (i : Int) < n := by omega
  have c1 : w.cell? ⟨H, 1, none⟩ = some (.slice (some ⟨b, 0, none⟩) n cap) := by rw [hc.cell, hn]; rfl
  have hHlt := hc.lt
  have x5 : w.cell? ⟨X, 5, none⟩ = some (.int .i64 p) := by rw [Cells.cell b3, ← hp]; rfl
  have x12 : w.cell? ⟨X, 12, none⟩ = some (pt E) := by rw [Cells.cell b3]; rfl
  have hXlt := b3.lt
  have hLlt := a1.c.lt
  rw [← hi] at r0 hfind
  have HH := hid h
  have HF := hid hfind
  have HL := hid a1
  have HC := hid hc
  have HO := hid hown
  have HOC := hid hocol
  have HI := hid hi
  have HN := hid hn
  clear hi hn
  clear h hmem a1 a2 a3 b1 b2 b3 hfind hc hrow hown hocol hn0 h1 h2
  generalize hR : Taken O c w H side pre p L (q1 ++ q2) post X en = R
  have HR := hid hR
  clear hR
  go_enter Tryz.func56, Tryz.ntmps56
  go_wp2_with fail
  refine HF.out.mono ?_
  rintro e w1 ⟨rfl, m, hw1⟩
  have k1 : w1.cell? ⟨H, 1, none⟩ = some (.slice (some ⟨b, 0, none⟩) n cap) := by rw [hw1]; exact c1
  have k2 : w1.cell? ⟨b, i, none⟩ = some (pt L) := by rw [hw1]; exact r0
  have k3 : w1.cell? ⟨X, 12, none⟩ = some (pt E) := by rw [hw1]; exact x12
  have hs1 : w1.heap.size = w.heap.size := by rw [hw1]; rfl
  rw [← hs1] at hHlt hb hXlt hLlt
  have HW := hid hw1
  have HS := hid hs1
  clear c1 r0 x12 x5 hw1 hs1
  go_wp2
  refine region_tail 13 (by kernel_rfl) (by kernel_rfl) ?_
  simp only [List.take_succ_cons, List.take_zero, List.drop_succ_cons, List.drop_zero]
  repeat still_step
  refine wpStill_nil ?_
  go_wp2_with fail
  refine (remove_calls w1.drew L p q1 q2 (E, X) (by rw [HW.out]; exact HL.out.kept (X := fun _ => False) (((Kept.refl _ w).drewN m).drew) (fun _ _ => not_false)) (by omega)).mono ?_
  rintro e w2 ⟨rfl, hl2, hk2⟩
  have hd1 : HlfC O c w1.drew H side (pre ++ (p, L, q1 ++ (E, X) :: q2) :: post) en := by rw [HW.out]; exact HH.out.keptG (P := fun _ => False) (((Kept.refl _ w).drewN m).drew) not_false (fun _ _ _ _ => not_false) (fun _ _ => ⟨not_false, fun _ _ => ⟨not_false, not_false⟩⟩) (fun _ _ h => h) (fun _ _ _ _ => rfl)
  obtain ⟨g1, g2, g3, g4⟩ := hd1.cutE hl2 hk2
  have kk : Kept (fun k => O k = c) w w2 := by
    have k0 : Kept (fun k => O k = c) w w1.drew := by rw [HW.out]; exact ((Kept.refl _ w).drewN m).drew
    refine k0.trans hk2 (fun k _ hk => ?_)
    rcases hk with rfl | hk
    · exact (HH.out.lv (p, k, q1 ++ (E, X) :: q2) (by simp)).2.1
    · obtain ⟨y, hy, rfl⟩ := List.mem_map.1 hk
      exact ((HH.out.lv (p, L, q1 ++ (E, X) :: q2) (by simp)).2.2 y hy).1
  have f12 : w2.frozen? ⟨X, 12, none⟩ = false := Cells.frozen g2 12
  have y12 : w2.cell? ⟨X, 12, none⟩ = some (pt E) := by rw [Cells.cell g2]; rfl
  have hX2 := g2.lt
  have G1 := hid g1
  have G2 := hid g2
  have G3 := hid g3
  have G4 := hid g4
  have KK := hid kk
  clear hd1 hl2 hk2 g1 g2 g3 g4 kk k1 k2 k3 hHlt hb hXlt hLlt
  -- the place
  have p1 : EnC (w2.setCell ⟨X, 12, none⟩ (.pointer none)) X (en X) false none := Cells.set G2.out 12 (.pointer none)
  have p2 : Kept (fun k => k = X) w2 (w2.setCell ⟨X, 12, none⟩ (.pointer none)) := (Kept.refl (fun k => k = X) w2).set (C := X) rfl 12 _
  have p3 : HlfC O c (w2.setCell ⟨X, 12, none⟩ (.pointer none)) H side (pre ++ (p, L, q1 ++ q2) :: post) en := by
    obtain ⟨v, hv, _⟩ := G1.out.cell
    refine G1.out.keptG p2 (hv.ne G2.out (by decide)) (fun b cs _ hb => hb.ne G2.out (by decide)) (fun x hx => ⟨(G1.out.lv x hx).1.c.ne G2.out (by decide), fun y hy => ⟨?_, fun e => G3.out (by rw [← e]; exact mem_ens hx hy)⟩⟩) (fun _ _ h => h) (fun _ _ _ _ => rfl)
    obtain ⟨cs, hc⟩ := (G1.out.lv x hx).el hy
    exact hc.ne G2.out (by decide)
  have P1 := hid p1
  have P3 := hid p3
  have P4 := hid (KK.out.trans p2 (fun k _ (hk : k = X) => by rw [hk]; exact G4.out) : Kept (fun k => O k = c) w (w2.setCell ⟨X, 12, none⟩ (.pointer none)))
  clear p1 p2 p3
  -- the level's size
  obtain ⟨pp, cap2, b2, hc2, hpp, hb2, hrow2, hown2, hocol2⟩ := G1.out.row
  have hn2 : (pre ++ (p, L, q1 ++ q2) :: post).length = n := by rw [HN.out]; simp
  have hpp := hpp (by simp; omega)
  obtain ⟨hpp, hOb⟩ := hpp
  subst hpp
  have l1 := (G1.out.lv (p, L, q1 ++ q2) (by simp)).1.c
  simp only at l1
  have k1 : w2.cell? ⟨H, 1, none⟩ = some (.slice (some ⟨b2, 0, none⟩) n cap2) := by rw [hc2.cell, ← hn2]; rfl
  have k2 : w2.cell? ⟨b2, i, none⟩ = some (pt L) := by
    have := hrow2 pre.length (by simp)
    rw [List.getElem_append_right (Nat.le_refl _)] at this
    simp only [Nat.sub_self, List.getElem_cons_zero] at this
    rw [HI.out]
    exact this
  have k3 : w2.cell? ⟨L, 3, none⟩ = some (.int .i64 (q1 ++ q2).length) := by rw [l1.cell]; rfl
  have hHX : H ≠ X := hc2.ne G2.out (by decide)
  have hLX : L ≠ X := l1.ne G2.out (by decide)
  have hbX : b2 ≠ X := by
    rcases hown2.2 with ⟨e, _⟩ | ⟨g, cp, cur, e, _, hg, _⟩
    · cases e
    · injection e with e; injection e with e; injection e with e
      subst e
      exact Cells.ne hg G2.out (by decide)
  have hHlt := hc2.lt
  have hLlt := l1.lt
  have HC2 := hid hc2
  have HOB := hid hOb
  have HB := hid hb2
  clear hc2 hrow2 hown2 hocol2 hn2 l1 hOb
  by_cases hq : q1 ++ q2 = []
  · have h0 : ((q1 ++ q2).length : Int) = 0 := by rw [hq]; rfl
    rw [h0] at k3
    have HQ := hid hq
    clear hq h0
    have hrow3 := P3.out.row
    obtain ⟨pp3, cap3, b3, hc3, hpp3, hb3, hrow3, hown3, hocol3⟩ := hrow3
    have hsame : pp3 = some ⟨b2, 0, none⟩ ∧ cap3 = cap2 ∧ (pre ++ (p, L, q1 ++ q2) :: post).length = n := by
      have e1 := hc3.cell 1
      have e2 : (w2.setCell ⟨X, 12, none⟩ (.pointer none)).cell? ⟨H, 1, none⟩ = some (.slice (some ⟨b2, 0, none⟩) n cap2) := by
        rw [World.cell?_setCell_other _ _ _ _ (fun e => hHX (congrArg Addr.block e).symm)]
        exact k1
      rw [e2] at e1
      simp at e1
      exact ⟨e1.1.symm, e1.2.2.symm, by rw [HN.out]; simp⟩
    obtain ⟨rfl, rfl, hn3⟩ := hsame
    have hnp : n - (i + 1) = post.length := by rw [HN.out, HI.out]; simp; omega
    obtain ⟨A, hA, hA2⟩ : ∃ A : Addr, (if cap3 = i + 1 then some (⟨b2, 0, none⟩ : Addr) else some ⟨b2, i + 1, none⟩) = some A ∧ (cap3 ≠ i + 1 → A = ⟨b2, i + 1, none⟩) := by
      by_cases h : cap3 = i + 1
      · exact ⟨⟨b2, 0, none⟩, by simp [h], fun hn => absurd h hn⟩
      · exact ⟨⟨b2, i + 1, none⟩, by simp [h], fun _ => rfl⟩
    have hnn : n ≤ 1000000 := by rw [← hn3]; simp at hlen ⊢; omega
    have hncap : n ≤ cap3 := by
      rcases hown3.2 with ⟨e, _⟩ | ⟨g, cp, cur, e, _, hg, h5, _⟩
      · cases e
      · injection e with e1 e2 e3
        rw [e3, ← hn3]
        simpa using h5
    have ho : OwnE encPt 1 86 0 ((w2.setCell ⟨X, 12, none⟩ (.pointer none)).drew) (.slice (some ⟨b2, 0, none⟩) ((pre.map fun x => x.2.1) ++ L :: (post.map fun x => x.2.1)).length cap3) ((pre.map fun x => x.2.1) ++ L :: (post.map fun x => x.2.1)) := by
      have := hown3.drew
      simpa using this
    obtain ⟨v', w4, r1, r2, r3, r4⟩ := row_cut (ty := 82) undLev infoLev ho (by rw [← hn3] at hin; simp; simp at hlen; omega) A (fun h0 => by rw [hA2 (by rw [List.length_map] at h0; omega), HI.out, List.length_map]) (cap3 - (i + 1))
    rw [List.length_map, List.length_map, ← HI.out, ← hnp] at r1
    obtain ⟨pn, capn, hv', _⟩ := r2.form
    generalize hpl : ((pre.map fun x => x.2.1) ++ post.map fun x => x.2.1).length = nn at hv'
    subst hv'
    have HPL := hid hpl
    clear hpl
    have HNP := hid hnp
    clear hnp
    have hHb : H ≠ b2 := by
      rcases hown3.2 with ⟨e, _⟩ | ⟨g, cp, cur, e, _, hg, _⟩
      · cases e
      · injection e with e; injection e with e; injection e with e
        subst e
        exact hc3.ne hg (by decide)
    have hbX2 : ∃ cs, Cells (w2.setCell ⟨X, 12, none⟩ (.pointer none)) b2 cs 86 := by
      rcases hown3.2 with ⟨e, _⟩ | ⟨g, cp, cur, e, _, hg, _⟩
      · cases e
      · injection e with e; injection e with e; injection e with e
        subst e
        exact ⟨cur, hg⟩
    obtain ⟨csb, hcb⟩ := hbX2
    have c4 : Cells w4 H #[betV side, .slice (some ⟨b2, 0, none⟩) (pre ++ (p, L, q1 ++ q2) :: post).length cap3] 121 := hc3.drew.kept r3 hHb
    have x1 : w4.cell? ⟨H, 1, none⟩ = some (.slice (some ⟨b2, 0, none⟩) (pre ++ (p, L, q1 ++ q2) :: post).length cap3) := by rw [c4.cell]; rfl
    obtain ⟨u1, x1⟩ : ∃ u, w4.cell? ⟨H, 1, none⟩ = some u := ⟨_, x1⟩
    have x2 : w4.frozen? ⟨H, 1, none⟩ = false := c4.frozen 1
    have x3 := c4.lt
    have R1 := hid r1
    have R2 := hid r2
    have R3 := hid r3
    have R4 := hid r4
    have C4 := hid c4
    have HC3 := hid hcb
    have hic : i ≤ cap3 := by omega
    have hwr : IntKind.i64.wrap ((i : Int) + 1) = (i : Int) + 1 := by rw [IntKind.wrap_i64]; omega
    have hp0 : (0 : Int) ≤ (i : Int) + 1 := by omega
    have hp1 : (i : Int) + 1 ≤ (n : Int) := by omega
    have hp2 : ((i : Int) + 1).toNat = i + 1 := by omega
    clear r1 r2 r3 r4 c4 hcb hA2 ho hrow3 hown3 hocol3 hc3 hb3 hpp3 hn3
    have fin : R (.returned (.tuple #[])) (w4.setCell ⟨H, 1, none⟩ (.slice pn nn capn)) := by
      rw [← HR.out]
      have h5 : Cells (w4.setCell ⟨H, 1, none⟩ (.slice pn nn capn)) H #[betV side, .slice pn nn capn] 121 := C4.out.set 1 (.slice pn nn capn)
      have hl5 : H ≠ X := hHX
      have k5 : Kept (fun k => k = b2 ∨ k = H) (w2.setCell ⟨X, 12, none⟩ (.pointer none)) (w4.setCell ⟨H, 1, none⟩ (.slice pn nn capn)) := by
        have k0 : Kept (fun k => k = b2 ∨ k = H) (w2.setCell ⟨X, 12, none⟩ (.pointer none)) (w2.setCell ⟨X, 12, none⟩ (.pointer none)).drew := (Kept.refl _ _).drew
        exact (k0.trans R3.out (fun k _ hk => .inl hk)).set (C := H) (.inr rfl) 1 _
      have szz : w.heap.size ≤ (w2.setCell ⟨X, 12, none⟩ (.pointer none)).drew.heap.size := P4.out.size
      refine ⟨rfl, ?_, P1.out.kept k5 (fun e => e.elim (fun e => hbX e.symm) (fun e => hl5 e.symm)), P4.out.trans k5 (fun k _ hk => ?_)⟩
      · unfold cutL
        rw [if_pos HQ.out]
        refine P3.out.offL k5 (fun k cs t hc hk => ?_) ⟨_, h5, ?_, fun k hk => ?_⟩ (fun k _ hk => grow_same hk)
        · rcases hk with rfl | rfl
          · left
            exact (cells_type HC3.out hc).symm
          · exact .inr rfl
        · have := R2.out
          have h6 : OwnE encPt 1 86 0 w4 (.slice pn nn capn) ((pre ++ post).map fun x => x.2.1) := by simpa using this
          exact h6.set C4.out (by decide) 1 _
        · rcases R4.out with e | e
          · have e2 := hk.symm.trans e
            injection e2 with e2
            rw [e2]
            exact grow_same HOB.out
          · have e2 := hk.symm.trans e
            injection e2 with e2
            rw [e2]
            exact grow_new szz
      · rcases hk with rfl | rfl
        · exact HOB.out
        · exact HH.out.col
    have FIN := hid fin
    clear fin
    go_wp2
    go_region_law (refine step_append_run rfl (.tmp 51) (.tmp 58) 82 rfl _ _ (.slice pn nn capn) w4 (by simp [Act.eval, Act.put]) (by simp [Act.eval, Act.put]) R1.out ?_)
    all_goals go_wp2
    all_goals go_end0
    all_goals exact FIN.out
  · have h0 : ((q1 ++ q2).length : Int) ≠ 0 := by
      intro e
      exact hq (List.length_eq_zero_iff.1 (by omega))
    have HQ := hid hq
    generalize hql2 : ((q1 ++ q2).length : Int) = z at *
    clear hql2 hq
    go_wp2
    go_end0
    rw [← HR.out]
    refine ⟨rfl, ?_, P1.out, P4.out⟩
    unfold cutL
    rw [if_neg HQ.out]
    have := P3.out
    exact this.keptG (Kept.refl (fun _ => False) _) not_false (fun _ _ _ _ => not_false) (fun _ _ => ⟨not_false, fun _ _ => ⟨not_false, not_false⟩⟩) (fun k _ hk => grow_same hk) (fun _ _ _ _ => rfl)
end Go.Proofs.YtepldjidkomclaaGreat.Bo
namespace Go.Proofs.YtepldjidkomclaaGreat.Bo
set_option linter.unusedSimpArgs false
set_option linter.unusedVariables false
open Go.RowKit Go.Shelf
attribute [local go_sem] Oper.semAt_some
attribute [local go_sem ↓] Go.wp_at_zero Go.wp_at_succ
def putL (pre post : List Lv) (p : Int) (L E X : Nat) : List Lv :=
  match post with
  | [] => pre ++ [(p, L, [(E, X)])]
  | x :: r => if x.1 = p then pre ++ (p, x.2.1, x.2.2 ++ [(E, X)]) :: r else pre ++ (p, L, [(E, X)]) :: x :: r
def Added (O : Nat → Nat) (c : Nat) (w : World) (H : Nat) (side : Int) (pre post : List Lv) (p : Int) (X : Nat) (en : Nat → En) (e : Ending) (w' : World) : Prop :=
  e = .returned (.tuple #[]) ∧ (∃ L E, HlfC (grow O w c) c w' H side (putL pre post p L E X) en) ∧ Kept (fun k => O k = c) w w'
set_option maxRecDepth 100000 in
set_option maxHeartbeats 4000000 in
theorem add_old {O : Nat → Nat} {c : Nat} {w : World} {H : Nat} {side : Int} {pre post : List Lv} {p : Int} {L X : Nat} {q : List (Nat × Nat)} {en : Nat → En} {pl : Option Nat} (h : HlfC O c w H side (pre ++ (p, L, q) :: post) en) (hp : (en X).o.p = p)
    (hX : X ∉ ensL (pre ++ (p, L, q) :: post)) (hOX : O X = c) (eX : EnC w X (en X) false pl)
    (h1 : ∀ x ∈ pre, better side x.1 p = true) (h2 : ∀ x ∈ (p, L, q) :: post, better side x.1 p = false) (hlen : (pre ++ (p, L, q) :: post).length ≤ 1000000) (hql : q.length ≤ 1000000) :
    Calls Tryz.prog 93 #[pt H, pt X] w (Added O c w H side pre ((p, L, q) :: post) p X en) := by
  have hfind := find_calls h p h1 h2 hlen
  simp only [List.head?_cons, Option.map_some, decide_true] at hfind
  obtain ⟨i, hi⟩ : ∃ i, i = pre.length := ⟨_, rfl⟩
  rw [← hi] at hfind
  have x5 : w.cell? ⟨X, 5, none⟩ = some (.int .i64 p) := by rw [Cells.cell eX, ← hp]; rfl
  have hXlt := eX.lt
  have HI := hid hi
  have HF := hid hfind
  have HH := hid h
  have EX := hid eX
  have QL := hid (show q.length ≤ 1000000000 by omega)
  have HX := hid hX
  have HOX := hid hOX
  generalize hR : Added O c w H side pre ((p, L, q) :: post) p X en = R
  have HR := hid hR
  clear hR hi hfind h eX h1 h2 hlen hql hX hOX hp
  go_enter Tryz.func93, Tryz.ntmps93
  go_wp2_with fail
  refine HF.out.mono ?_
  rintro e w1 ⟨rfl, m, hw1⟩
  have HH1 := hid (show HlfC O c w1 H side (pre ++ (p, L, q) :: post) en by rw [hw1]; exact HH.out.keptG (P := fun _ => False) ((Kept.refl _ w).drewN m) not_false (fun _ _ _ _ => not_false) (fun _ _ => ⟨not_false, fun _ _ => ⟨not_false, not_false⟩⟩) (fun _ _ h => h) (fun _ _ _ _ => rfl))
  have EX1 := hid (show EnC w1 X (en X) false pl by rw [hw1]; exact EX.out)
  have S1 := hid (show w1.heap.size = w.heap.size by rw [hw1]; rfl)
  have K1 := hid (show Kept (fun k => O k = c) w w1 by rw [hw1]; exact (Kept.refl _ w).drewN m)
  clear hw1 x5 hXlt
  -- the level's queue
  have a1 := (HH1.out.lv (p, L, q) (by simp)).1
  simp only at a1
  obtain ⟨pp, cap, b, hc, hpp, hb, hrow, _, _⟩ := HH1.out.row
  have hpp := (hpp (by simp; omega)).1
  subst hpp
  obtain ⟨n, hn⟩ : ∃ n, n = (pre ++ (p, L, q) :: post).length := ⟨_, rfl⟩
  have hin : i < n := by rw [HI.out, hn]; simp
  have hinI : (i : Int) < n := by omega
  have k1 : w1.cell? ⟨H, 1, none⟩ = some (.slice (some ⟨b, 0, none⟩) n cap) := by rw [hc.cell, hn]; rfl
  have k2 : w1.cell? ⟨b, i, none⟩ = some (pt L) := by
    have := hrow pre.length (by simp)
    rw [List.getElem_append_right (Nat.le_refl _)] at this
    simp only [Nat.sub_self, List.getElem_cons_zero] at this
    rw [HI.out]
    exact this
  have hHlt := hc.lt
  have hLlt := a1.c.lt
  have A1 := hid a1
  have hXlt := EX1.out.lt
  clear hn hc hrow a1
  go_wp2_with fail
  refine (push_calls w1 L p q X A1.out QL.out).mono ?_
  rintro e w2 ⟨E, rfl, hE, hl2, hk2⟩
  have eX2 : EnC w2 X (en X) false pl := EX1.out.kept hk2 (by
    rintro (e | hm)
    · exact Cells.ne EX1.out A1.out.c (by decide) e
    · obtain ⟨y, hy, e⟩ := List.mem_map.1 hm
      obtain ⟨cs', hc⟩ := A1.out.l.mem y hy
      rw [e] at hc
      exact Cells.ne EX1.out hc (by decide) rfl)
  have hX2 := eX2.lt
  obtain ⟨ux, x12⟩ : ∃ u, w2.cell? ⟨X, 12, none⟩ = some u := ⟨_, by rw [Cells.cell eX2]; rfl⟩
  have f12 : w2.frozen? ⟨X, 12, none⟩ = false := Cells.frozen eX2 12
  have HE := hid hE
  have HL2 := hid hl2
  have HK2 := hid hk2
  clear hE hl2 hk2 eX2
  go_wp2
  go_end0
  rw [← HR.out]
  obtain ⟨r1, r2⟩ := HH1.out.pushE (O' := grow O w c) HX.out HOX.out EX1.out HE.out HL2.out HK2.out (fun k _ hk => grow_same hk) (grow_new (by rw [← S1.out]; exact HE.out))
  refine ⟨rfl, ⟨L, E, ?_⟩, K1.out.trans r2 (fun _ _ h => h)⟩
  show HlfC _ _ _ _ _ (if p = p then _ else _) _
  rw [if_pos rfl]
  exact r1
set_option maxRecDepth 100000 in
set_option maxHeartbeats 4000000 in
theorem add_new {O : Nat → Nat} {c : Nat} {w : World} {H : Nat} {side : Int} {pre post : List Lv} {p : Int} {X : Nat} {en : Nat → En} {pl : Option Nat} (h : HlfC O c w H side (pre ++ post) en) (hp : (en X).o.p = p)
    (hX : X ∉ ensL (pre ++ post)) (hOX : O X = c) (eX : EnC w X (en X) false pl)
    (h1 : ∀ x ∈ pre, better side x.1 p = true) (h2 : ∀ x ∈ post, better side x.1 p = false) (h3 : ∀ x r, post = x :: r → x.1 ≠ p) (hlen : (pre ++ post).length ≤ 100000) :
    Calls Tryz.prog 93 #[pt H, pt X] w (Added O c w H side pre post p X en) := by
  have hfind := find_calls h p h1 h2 (by omega)
  have hd : decide ((post.head?).map Prod.fst = some p) = false := by
    cases post with
    | nil => rfl
    | cons x r => have := h3 x r rfl; simpa using this
  rw [hd] at hfind
  obtain ⟨i, hi⟩ : ∃ i, i = pre.length := ⟨_, rfl⟩
  rw [← hi] at hfind
  have x5 : w.cell? ⟨X, 5, none⟩ = some (.int .i64 p) := by rw [Cells.cell eX, ← hp]; rfl
  have hXlt := eX.lt
  have HI := hid hi
  have HF := hid hfind
  have HH := hid h
  have EX := hid eX
  have HX := hid hX
  have HOX := hid hOX
  have H3 := hid h3
  have HP := hid hp
  have HLEN := hid hlen
  generalize hR : Added O c w H side pre post p X en = R
  have HR := hid hR
  clear hR hi hfind h eX h1 h2 hX hOX hp hd h3
  go_enter Tryz.func93, Tryz.ntmps93
  go_wp2_with fail
  refine HF.out.mono ?_
  rintro e w0 ⟨rfl, m, hw0⟩
  have HH0 := hid (show HlfC O c w0 H side (pre ++ post) en by rw [hw0]; exact HH.out.keptG (P := fun _ => False) ((Kept.refl _ w).drewN m) not_false (fun _ _ _ _ => not_false) (fun _ _ => ⟨not_false, fun _ _ => ⟨not_false, not_false⟩⟩) (fun _ _ h => h) (fun _ _ _ _ => rfl))
  have EX0 := hid (show EnC w0 X (en X) false pl by rw [hw0]; exact EX.out)
  have S0 := hid (show w0.heap.size = w.heap.size by rw [hw0]; rfl)
  have K0 := hid (show Kept (fun k => O k = c) w w0 by rw [hw0]; exact (Kept.refl _ w).drewN m)
  clear hw0 x5 hXlt
  -- append(levels, nil)
  obtain ⟨pp, cap, b, hc, _, _, _, hown, hocol⟩ := HH0.out.row
  generalize hn : (pre ++ post).length = n at hc hown hocol hlen
  have k1 : w0.cell? ⟨H, 1, none⟩ = some (.slice pp n cap) := by rw [hc.cell]; rfl
  have hHlt := hc.lt
  have hnew := Cells.new w0 #[.pointer none] 86
  obtain ⟨g, cap1, w1, cur, r1, r2, r3, r4, r5, r6, r7, r8⟩ := row_grow (ty := 82) undLev infoLev (hown.alloc (.cells #[.pointer none] 86)) (by rw [List.length_map]; omega) ⟨w0.heap.size, 0, none⟩ (.pointer none) rfl (by rw [hnew.cell]; rfl) 1
  rw [List.length_map, hn] at r1 r3 r6
  have cH1 : Cells w1 H #[betV side, .slice pp n cap] 121 := (hc.alloc (.cells #[.pointer none] 86)).kept r7 (by
    intro e
    rcases hown.2 with ⟨e2, _⟩ | ⟨g', cp, cu, e2, _, hg, _⟩
    · rw [e2] at e; cases e
    · rw [e2] at e; injection e with e; subst e
      exact hc.ne hg (by decide) rfl)
  have hgH : g ≠ H := r2.ne cH1 (by decide)
  have hgX : g ≠ X := by
    have h0 := EX0.out
    have eX1 : EnC w1 X (en X) false pl := (Cells.alloc h0 (.cells #[.pointer none] 86)).kept r7 (by
      intro e
      rcases hown.2 with ⟨e2, _⟩ | ⟨g', cp, cu, e2, _, hg, _⟩
      · rw [e2] at e; cases e
      · rw [e2] at e; injection e with e; subst e
        exact Cells.ne h0 hg (by decide) rfl)
    exact r2.ne eX1 (by decide)
  obtain ⟨u1, h11⟩ : ∃ u, w1.cell? ⟨H, 1, none⟩ = some u := ⟨_, by rw [cH1.cell]; rfl⟩
  have hf1 : w1.frozen? ⟨H, 1, none⟩ = false := cH1.frozen 1
  have hH1 := cH1.lt
  have hg1 := r2.lt
  have cH2 : Cells (w1.setCell ⟨H, 1, none⟩ (.slice (some ⟨g, 0, none⟩) (n + 1) cap1)) H #[betV side, .slice (some ⟨g, 0, none⟩) (n + 1) cap1] 121 := cH1.set 1 (.slice (some ⟨g, 0, none⟩) (n + 1) cap1)
  have cg2 : Cells (w1.setCell ⟨H, 1, none⟩ (.slice (some ⟨g, 0, none⟩) (n + 1) cap1)) g cur 86 := r2.set_far 1 _ hgH
  have hnl : n = pre.length + post.length := by rw [← hn, List.length_append]
  obtain ⟨d, hd⟩ : ∃ d, d = post.length := ⟨_, rfl⟩
  have hil : i ≤ n := by rw [HI.out, hnl]; omega
  have hnd : n - i = d := by rw [HI.out, hnl, hd]; omega
  have hnd1 : n + 1 - i = d + 1 := by omega
  obtain ⟨o, ho, ho2, ho3⟩ : ∃ o : Nat, (if cap1 = i + 1 then some (⟨g, 0, none⟩ : Addr) else some ⟨g, i + 1, none⟩) = some ⟨g, o, none⟩ ∧ (0 < (post.map fun x => x.2.1).length → o = (pre.map fun x => x.2.1).length + 1) ∧ o ≤ cap1 := by
    by_cases h : cap1 = i + 1
    · exact ⟨0, by simp [h], fun hn => by rw [List.length_map, ← hd] at hn; omega, by omega⟩
    · exact ⟨i + 1, by simp [h], fun _ => by rw [List.length_map, HI.out], by omega⟩
  have hci : (cap1 = i) = False := by simp; omega
  obtain ⟨x3, w3, cur3, s1, s2, s3, s4, s5, s6⟩ := row_shift (ty := 3) undLev infoLev (u := .pointer none) rfl cg2.drew (by rw [List.length_map, List.length_map]; omega) r5
    (by rw [List.length_map, List.length_map, ← hnl, r6, ← List.append_assoc, ← List.map_append, ← List.map_append]) o ho2 ho3 (cap1 - (i + 1)) (cap1 - i)
  rw [List.length_map, List.length_map, ← hd, ← HI.out] at s1
  have cH3 := cH2.drew.kept s3 (Ne.symm hgH)
  have h31 : w3.cell? ⟨H, 1, none⟩ = some (.slice (some ⟨g, 0, none⟩) (n + 1) cap1) := by rw [cH3.cell]; rfl
  have hH3 := cH3.lt
  have hg3 := s2.lt
  have hf3 : w3.frozen? ⟨g, i, none⟩ = false := s2.frozen i
  have hig : i < cur3.size := by omega
  obtain ⟨u3, h3i⟩ : ∃ u, w3.cell? ⟨g, i, none⟩ = some u := ⟨cur3[i], by rw [s2.cell]; exact Array.getElem?_eq_getElem hig⟩
  have hiI : (i : Int) < (n : Int) + 1 := by omega
  have hiI2 : (i : Int) ≤ (n : Int) + 1 := by omega
  have hic : i ≤ cap1 := by omega
  have hii : i ≤ n + 1 := by omega
  have hwr : IntKind.i64.wrap ((i : Int) + 1) = (i : Int) + 1 := by rw [IntKind.wrap_i64]; omega
  have hp0 : (0 : Int) ≤ (i : Int) + 1 := by omega
  have hp1 : (i : Int) + 1 ≤ (n : Int) + 1 := by omega
  have hp2 : ((i : Int) + 1).toNat = i + 1 := by omega
  have kb : Kept (fun k => some k = (Value.slice pp n cap).ownBlock ∨ k = g ∨ k = H) w0 w3 := by
    have k0 : Kept (fun k => some k = (Value.slice pp n cap).ownBlock ∨ k = g ∨ k = H) w0 (w0.alloc (.cells #[.pointer none] 86)) := (Kept.refl _ _).alloc _
    exact (((k0.trans r7 (fun k _ hk => .inl hk)).set (C := H) (.inr (.inr rfl)) 1 _).drew).trans s3 (fun k _ hk => .inr (.inl hk))
  have eX3 : EnC w3 X (en X) false pl := EX0.out.kept kb (by
    rintro (e | e | e)
    · rcases hown.2 with ⟨e2, _⟩ | ⟨g', cp, cu, e2, _, hg, _⟩
      · rw [e2] at e; cases e
      · rw [e2] at e; injection e with e; subst e
        exact Cells.ne EX0.out hg (by decide) rfl
    · exact hgX e.symm
    · exact Cells.ne EX0.out hc (by decide) e)
  have x5 : w3.cell? ⟨X, 5, none⟩ = some (.int .i64 p) := by rw [Cells.cell eX3, ← HP.out]; rfl
  have hX3 := eX3.lt
  have R1 := hid r1
  have SH := hid s1
  have S2 := hid s2
  have S5 := hid s5
  have S6 := hid s6
  have R8 := hid r8
  have KB := hid kb
  have EX3 := hid eX3
  have CH3 := hid cH3
  have HC := hid hc
  have HOC := hid hocol
  have HOWN := hid hown
  have HNL := hid hnl
  have HD := hid hd
  have hc3s := s4
  have R4 := hid r4
  clear hc hown hocol hnew r1 r2 r4 r6 r7 r8 cH1 cH2 cg2 s1 s2 s3 s5 s6 ho2 ho3 cH3 kb eX3 hnl hd hn hlen
  go_wp2_with (at_builtin; refine wpList_append_run rfl (.tmp 22) (.tmp 23) 82 rfl _ _ _ w1 rfl rfl R1.out ?_)
  go_upto_region 3 with fail
  go_cut [40] (fun s40 wx => wx = w3)
  case first =>
    go_region_law (refine step_copy_run rfl (.tmp 33) (.tmp 39) 82 rfl _ _ x3 w3 (by simp [Act.eval, Act.put]) (by simp [Act.eval, Act.put]) SH.out ?_)
    all_goals (
      go_wp2
      go_meet
      rfl)
  case rest =>
    rw [hcut]
    clear hcut wc
    go_upto_region 4 with fail
    go_cut [54] (fun s54 wx => wx = ((w3.setCell ⟨g, i, none⟩ (pt w3.heap.size)).alloc (.cells #[.int .i64 p, .pointer none, .pointer none, .int .i64 0] 146)).drew)
    case first =>
      go_region
      all_goals (
        go_wp2
        go_meet
        rfl)
    case rest =>
      obtain ⟨L, hL⟩ : ∃ L, L = w3.heap.size := ⟨_, rfl⟩
      rw [← hL] at hcut
      have hgL : g ≠ L := by have := S2.out.lt; omega
      have hsz : (w3.setCell ⟨g, i, none⟩ (pt L)).heap.size = L := by rw [size_setCell, hL]
      have cg4 : Cells wc g (cur3.setIfInBounds i (pt L)) 86 := by rw [hcut]; exact ((S2.out.set i (pt L)).alloc _).drew
      have cL4 : Cells wc L #[.int .i64 p, .pointer none, .pointer none, .int .i64 0] 146 := by
        rw [hcut]
        have := (Cells.new (w3.setCell ⟨g, i, none⟩ (pt L)) #[.int .i64 p, .pointer none, .pointer none, .int .i64 0] 146).drew
        rw [hsz] at this
        exact this
      have k4 : Kept (fun k => k = g) w3 wc := by rw [hcut]; exact ((((Kept.refl (fun k => k = g) w3).set (C := g) rfl i (pt L))).alloc _).drew
      have kb : Kept (fun k => some k = (Value.slice pp n cap).ownBlock ∨ k = g ∨ k = H) w0 wc := KB.out.trans k4 (fun k _ hk => .inr (.inl hk))
      have hHg : H ≠ g := fun e => hgH e.symm
      have cH4 : Cells wc H #[betV side, .slice (some ⟨g, 0, none⟩) (n + 1) cap1] 121 := CH3.out.kept k4 hHg
      have hw0 : w0.heap.size ≤ L := by rw [hL]; exact KB.out.size
      have hw0' : w.heap.size ≤ L := by rw [← S0.out]; exact hw0
      have hown4 := row_put (pre := pre.map fun x => x.2.1) (post := post.map fun x => x.2.1) (by rw [List.length_map, ← HI.out]; exact cg4) (by rw [List.length_map, List.length_map, ← HNL.out]; exact r3) R4.out hc3s S5.out S6.out
      have hln : ((pre.map fun x => x.2.1) ++ L :: post.map fun x => x.2.1).length = n + 1 := by rw [HNL.out]; simp; omega
      rw [hln] at hown4
      have hgrow : ∀ k, k < w0.heap.size → O k = c → grow O w c k = c := fun k _ hk => grow_same hk
      have hrowt : ∀ b cs t, Cells w0 b cs t → (some b = (Value.slice pp n cap).ownBlock ∨ b = g ∨ b = H) → t = 86 ∨ b = H := by
        have hob : ∀ b cs t, Cells w0 b cs t → some b = (Value.slice pp n cap).ownBlock → t = 86 := by
          intro b cs t hb e
          rcases HOWN.out.2 with ⟨e2, _⟩ | ⟨g', cp, cu, e2, _, hg, _⟩
          · rw [e2] at e; cases e
          · rw [e2] at e; injection e with e; subst e
            exact (cells_type hb hg)
        intro b cs t hb hp
        rcases hp with e | e | e
        · exact .inl (hob b cs t hb e)
        · subst e
          rcases R8.out with e | e
          · exact .inl (hob _ cs t hb e.symm)
          · have := hb.lt
            simp at e
            omega
        · exact .inr e
      have hgc : grow O w c g = c := by
        rcases R8.out with e | e
        · exact grow_same (HOC.out g e)
        · refine grow_new ?_
          simp at e
          rw [← S0.out]
          omega
      have hh1 : HlfC (grow O w c) c wc H side (pre ++ (p, L, []) :: post) en := by
        refine HH0.out.inL kb hrowt ⟨_, cH4, ?_, fun b hb => ?_⟩ ⟨cL4, trivial, List.nodup_nil⟩ hw0 (grow_new hw0') hgrow
        · simpa using hown4
        · injection hb with hb
          rw [← hb]
          exact hgc
      have hX1 : X ∉ ensL (pre ++ (p, L, []) :: post) := by
        intro hm
        exact HX.out (by have := (flat_mid (fun x : Lv => x.2.2.map Prod.snd) pre post (p, L, [])).mem_iff.1 hm; exact this)
      have eX1 : EnC wc X (en X) false pl := EX3.out.kept k4 (fun e => hgX e.symm)
      have kk : Kept (fun k => O k = c) w wc := K0.out.trans kb (fun k hk hp => by
        rw [← S0.out] at hk
        rcases hp with e | e | e
        · exact HOC.out k e.symm
        · subst e
          rcases R8.out with e | e
          · exact HOC.out _ e
          · simp at e; omega
        · rw [e]; exact HH0.out.col)
      have HH1 := hid hh1
      have HX1 := hid hX1
      have EX1 := hid eX1
      have KK := hid kk
      clear hcut cg4 cL4 k4 kb cH4 hown4 hrowt hh1 hX1 eX1 kk hgrow h31 h3i hf3 hH3 hg3 x5 hX3 h11 hf1 hH1 hg1 k1 hHlt hL hsz hnd hnd1 hii hic hiI hiI2 hgc hln ho hci
      -- the level's queue
      have a1 := (HH1.out.lv (p, L, []) (by simp)).1
      simp only at a1
      obtain ⟨pp, cap, b, hc, hpp, hb, hrow, _, _⟩ := HH1.out.row
      have hpp := (hpp (by simp; omega)).1
      subst hpp
      obtain ⟨n, hn⟩ : ∃ n, n = (pre ++ (p, L, []) :: post).length := ⟨_, rfl⟩
      have hin : i < n := by rw [HI.out, hn]; simp
      have hinI : (i : Int) < n := by omega
      have k1 : wc.cell? ⟨H, 1, none⟩ = some (.slice (some ⟨b, 0, none⟩) n cap) := by rw [hc.cell, hn]; rfl
      have k2 : wc.cell? ⟨b, i, none⟩ = some (pt L) := by
        have := hrow pre.length (by simp)
        rw [List.getElem_append_right (Nat.le_refl _)] at this
        simp only [Nat.sub_self, List.getElem_cons_zero] at this
        rw [HI.out]
        exact this
      have hHlt := hc.lt
      have hLlt := a1.c.lt
      have A1 := hid a1
      have hXlt := EX1.out.lt
      clear hn hc hrow a1
      go_wp2_with fail
      refine (push_calls wc L p [] X A1.out (by simp)).mono ?_
      rintro e w2 ⟨E, rfl, hE, hl2, hk2⟩
      have eX2 : EnC w2 X (en X) false pl := EX1.out.kept hk2 (by
        rintro (e | hm)
        · exact Cells.ne EX1.out A1.out.c (by decide) e
        · obtain ⟨y, hy, e⟩ := List.mem_map.1 hm
          obtain ⟨cs', hc⟩ := A1.out.l.mem y hy
          rw [e] at hc
          exact Cells.ne EX1.out hc (by decide) rfl)
      have hX2 := eX2.lt
      obtain ⟨ux, x12⟩ : ∃ u, w2.cell? ⟨X, 12, none⟩ = some u := ⟨_, by rw [Cells.cell eX2]; rfl⟩
      have f12 : w2.frozen? ⟨X, 12, none⟩ = false := Cells.frozen eX2 12
      have HE := hid hE
      have HL2 := hid hl2
      have HK2 := hid hk2
      clear hE hl2 hk2 eX2
      go_wp2
      go_end0
      rw [← HR.out]
      have hwcw : w.heap.size ≤ wc.heap.size := KK.out.size
      obtain ⟨r1, r2⟩ := HH1.out.pushE (O' := grow O w c) HX1.out (grow_same HOX.out) EX1.out HE.out HL2.out HK2.out (fun k _ hk => hk) (grow_new (Nat.le_trans hwcw HE.out))
      refine ⟨rfl, ⟨L, E, ?_⟩, KK.out.trans r2 (fun k hk h => by rw [grow_old hk] at h; exact h)⟩
      unfold putL
      cases post with
      | nil => exact r1
      | cons x r =>
        simp only
        rw [if_neg (H3.out x r rfl)]
        exact r1
end Go.Proofs.YtepldjidkomclaaGreat.Bo
namespace Go.Proofs.YtepldjidkomclaaGreat.Bo
set_option linter.unusedSimpArgs false
set_option linter.unusedVariables false
open Go.RowKit Go.Shelf
attribute [local go_sem] Oper.semAt_some
attribute [local go_sem ↓] Go.wp_at_zero Go.wp_at_succ
theorem DL.nth {w : World} {l : List (Nat × Nat)} {a b : Option Nat} (h : DL w a l b) (j : Nat) (hj : j < l.length) : Cells w l[j].1 #[op (lastO (l.take j) a), op (headO (l.drop (j + 1)) b), pt l[j].2] 148 := by
  have e : l = l.take j ++ l[j] :: l.drop (j + 1) := by rw [← List.drop_eq_getElem_cons hj, List.take_append_drop]
  have h' : DL w a (l.take j ++ l[j] :: l.drop (j + 1)) b := by rw [← e]; exact h
  exact (DL.split.1 h').2.1
structure Stays (O : Nat → Nat) (c : Nat) (w W : World) : Prop where
  size : w.heap.size ≤ W.heap.size
  block : ∀ b, b < w.heap.size → O b = c → W.heap[b]? = w.heap[b]?
theorem Stays.cell {O : Nat → Nat} {c : Nat} {w W : World} (h : Stays O c w W) {b : Nat} (hb : b < w.heap.size) (hO : O b = c) (j : Nat) : W.cell? ⟨b, j, none⟩ = w.cell? ⟨b, j, none⟩ := by
  simp [World.cell?, World.cells?, h.block b hb hO]
theorem Stays.refl (O : Nat → Nat) (c : Nat) (w : World) : Stays O c w w := ⟨Nat.le_refl _, fun _ _ _ => rfl⟩
theorem Stays.of_kept {O : Nat → Nat} {c : Nat} {X : Nat → Prop} {w W : World} (h : Kept X w W) (hx : ∀ k, k < w.heap.size → X k → O k ≠ c) : Stays O c w W := ⟨h.size, fun b hb hO => h.block b hb (fun hX => hx b hb hX hO)⟩
theorem Stays.trans {O : Nat → Nat} {c : Nat} {w W W' : World} (h : Stays O c w W) (g : Stays O c W W') : Stays O c w W' := ⟨Nat.le_trans h.size g.size, fun b hb hO => (g.block b (Nat.lt_of_lt_of_le hb h.size) hO).trans (h.block b hb hO)⟩
theorem ensL_take_succ {ls : List Lv} {a : Nat} (h : a < ls.length) : ensL (ls.take (a + 1)) = ensL (ls.take a) ++ (ls[a].2.2.map Prod.snd) := by
  unfold ensL
  rw [List.take_succ_eq_append_getElem h, List.flatMap_append]
  simp
theorem ensL_get {ls : List Lv} {a j : Nat} (h : a < ls.length) (hj : j < ls[a].2.2.length) : (ensL ls)[(ensL (ls.take a)).length + j]? = some ls[a].2.2[j].2 := by
  have e : ensL ls = ensL (ls.take (a + 1)) ++ ensL (ls.drop (a + 1)) := by
    unfold ensL
    rw [← List.flatMap_append, List.take_append_drop]
  rw [e, ensL_take_succ h, List.append_assoc, List.getElem?_append_right (by omega), Nat.add_sub_cancel_left, List.getElem?_append_left (by simpa using hj)]
  simp [hj]
set_option maxRecDepth 100000 in
set_option maxHeartbeats 4000000 in
theorem each_calls {O : Nat → Nat} {c : Nat} {w : World} {H : Nat} {side : Int} {ls : List Lv} {en : Nat → En} (h : HlfC O c w H side ls en) (hlen : ls.length ≤ 1000000) (wf : FuncId) (caps : Array Value) (eg : ∀ args w, (callFunc wf args).run Tryz.prog w = .ok (.enter wf args) w)
    (J Stop : Nat → World → Prop) (hJ0 : J 0 w) (hJs : ∀ k W, J k W → Stays O c w W)
    (hstep : ∀ k E W, (ensL ls)[k]? = some E → J k W → Calls Tryz.prog wf (#[pt E] ++ caps) W fun e W' => (e = .returned (.bool true) ∧ J (k + 1) W') ∨ (e = .returned (.bool false) ∧ Stop k W')) :
    Calls Tryz.prog 89 #[pt H, .func (.func wf) #[] caps] w fun e w' => e = .returned (.tuple #[]) ∧ (J (ensL ls).length w' ∨ ∃ k, k < (ensL ls).length ∧ Stop k w') := by
  obtain ⟨p, cap, b, hc, hp, hb, hrow, _⟩ := h.row
  have c1 : w.cell? ⟨H, 1, none⟩ = some (.slice p ls.length cap) := by rw [hc.cell]; rfl
  have hHlt := hc.lt
  obtain ⟨n, hn⟩ : ∃ n, n = ls.length := ⟨_, rfl⟩
  rw [← hn] at c1 hp hlen
  have HP := hid hp
  have HR := hid hrow
  have HH := hid h
  have HJS := hid hJs
  have HST := hid hstep
  have HN := hid hn
  have EG := hid eg
  have HJ := hid hJ0
  clear h hc hp hrow hJs hstep hn eg hJ0
  go_enter Tryz.func89, Tryz.ntmps89
  go_wp2_with fail
  go_loopg [12] n (fun k s12 wr => ∃ a : Nat, s12 = .int .i64 a ∧ a ≤ n ∧ k = n - a ∧ J (ensL (ls.take a)).length wr)
  case atStart => exact ⟨0, rfl, by omega, by omega, by simpa [ensL] using HJ.out⟩
  case round =>
    obtain ⟨a, rfl, ha, hk, hj⟩ := hrel
    have HK := hid hk
    have HJ := hid hj
    clear hk hj
    by_cases han : a < n
    · have hal : a < ls.length := by rw [← HN.out]; exact han
      have hanI : (a : Int) < n := by omega
      obtain ⟨hpp, hOb⟩ := HP.out (by omega)
      subst hpp
      have st := HJS.out _ _ HJ.out
      obtain ⟨b1, b2, b3⟩ := HH.out.lv _ (List.getElem_mem hal)
      obtain ⟨L, hL⟩ : ∃ L, L = ls[a].2.1 := ⟨_, rfl⟩
      obtain ⟨es, hes⟩ : ∃ es, es = ls[a].2.2 := ⟨_, rfl⟩
      have k1 : wr.cell? ⟨b, a, none⟩ = some (pt L) := by rw [st.cell hb hOb, hL]; exact HR.out a hal
      have hbr := Nat.lt_of_lt_of_le hb st.size
      rw [← hL, ← hes] at b1
      rw [← hL] at b2
      rw [← hes] at b3
      have hLlt := b1.c.lt
      have hLr := Nat.lt_of_lt_of_le hLlt st.size
      have k2 : wr.cell? ⟨L, 1, none⟩ = some (op (headO es none)) := by rw [st.cell hLlt b2, b1.c.cell]; rfl
      have B1 := hid b1
      have B3 := hid b3
      have HES := hid hes
      clear st hOb b1 b2 b3 hes hL hLlt
      go_wp2_with fail
      go_loopg [6] es.length (fun k s6 wq => ∃ j : Nat, s6 = op (headO (es.drop j) none) ∧ j ≤ es.length ∧ k = es.length - j ∧ J ((ensL (ls.take a)).length + j) wq)
      case atStart => exact ⟨0, rfl, by omega, by omega, HJ.out⟩
      case round =>
        obtain ⟨j, rfl, hj, hk2, hjj⟩ := hrel
        have HK2 := hid hk2
        have HJJ := hid hjj
        clear hk2 hjj
        by_cases hjl : j < es.length
        · have e0 := B1.out.l.nth j hjl
          obtain ⟨o1, o2, o3⟩ := B3.out _ (List.getElem_mem hjl)
          obtain ⟨E, hE⟩ : ∃ E, E = es[j].1 := ⟨_, rfl⟩
          obtain ⟨X, hX⟩ : ∃ X, X = es[j].2 := ⟨_, rfl⟩
          rw [← hE, ← hX] at e0
          rw [← hE] at o1
          have hd : headO (es.drop j) none = some E := by rw [List.drop_eq_getElem_cons hjl, hE]; rfl
          rw [hd]
          have hget : (ensL ls)[(ensL (ls.take a)).length + j]? = some X := by
            rw [ensL_get hal (by rw [← HES.out]; exact hjl), hX]
            simp only [HES.out]
          have st := HJS.out _ _ HJJ.out
          have hElt := e0.lt
          have m1 : wr.cell? ⟨E, 2, none⟩ = some (pt X) := by rw [st.cell hElt o1, e0.cell]; rfl
          have hEq := Nat.lt_of_lt_of_le hElt st.size
          have E0 := hid e0
          have HG := hid hget
          have O1 := hid o1
          have eg := EG.out
          clear e0 o1 o2 o3 hE hX hd hget st hElt
          simp only [op_some, op_none]
          go_wp2_with fail
          refine (HST.out _ _ _ HG.out HJJ.out).mono ?_
          rintro e w2 (⟨rfl, hj2⟩ | ⟨rfl, hs2⟩)
          · have st2 := HJS.out _ _ hj2
            have m2 : w2.cell? ⟨E, 1, none⟩ = some (op (headO (es.drop (j + 1)) none)) := by rw [st2.cell E0.out.lt O1.out, E0.out.cell]; rfl
            have hE2 := Nat.lt_of_lt_of_le E0.out.lt st2.size
            have HJ2 := hid hj2
            clear st2 hj2 m1 hEq eg
            go_wp2
            go_roundg (es.length - (j + 1))
            · exact ⟨j + 1, rfl, by omega, rfl, HJ2.out⟩
            · have := HK2.out; omega
          · have HS := hid hs2
            clear hs2 m1 hEq eg
            go_wp2
            refine bodyPost_ret (v := .tuple #[]) (by simp [results, Tryz.results89, go_sem]) rfl ⟨rfl, .inr ⟨_, (List.getElem?_eq_some_iff.1 HG.out).1, HS.out⟩⟩
        · have hd : headO (es.drop j) none = none := by rw [List.drop_of_length_le (by omega)]; rfl
          have hjj : j = es.length := by omega
          rw [hd]
          have H2 := hid (show J (ensL (ls.take (a + 1))).length wr by
            rw [ensL_take_succ hal, List.length_append, List.length_map, ← HES.out, ← hjj]
            exact HJJ.out)
          clear hd
          simp only [op_some, op_none]
          go_wp2
          go_roundg (n - (a + 1))
          · exact ⟨a + 1, by go_num, by omega, rfl, H2.out⟩
          · have := HK.out; omega
    · have haa : a = ls.length := by rw [← HN.out]; omega
      have H2 := hid (show J (ensL ls).length wr by
        have := HJ.out
        rwa [haa, List.take_length] at this)
      clear haa
      go_wp2
      go_end0
      exact ⟨rfl, .inl H2.out⟩
end Go.Proofs.YtepldjidkomclaaGreat.Bo
namespace Go.Proofs.YtepldjidkomclaaGreat.Bo
set_option linter.unusedSimpArgs false
set_option linter.unusedVariables false
open Go.RowKit
def encEv (e : Ev) : List Value := [.int .i64 e.w, .int .i64 e.o, .int .i64 e.x, .int .i64 e.p, .int .i64 e.q]
structure Mm where
  hb : Nat
  hs : Nat
  mb : Nat
  lb : List Lv
  ls : List Lv
  wt : List Nat
  en : Nat → En
def Mm.live (G : Mm) : List Nat := ensL G.lb ++ (ensL G.ls ++ G.wt)
def Mm.bd (G : Mm) (nums last : Int) : Bd := ⟨plainH G.lb G.en, plainH G.ls G.en, G.wt.map G.en, nums, last⟩
structure TopC (O : Nat → Nat) (c : Nat) (w : World) (b : Nat) (hb hs mb : Nat) (wt : List Nat) (nums last : Int) (evs : List Ev) : Prop where
  cell : ∃ vw ve, Cells w b #[.pointer none, pt hb, pt hs, .map (some mb), vw, .int .i64 nums, .int .i64 last, ve] 70 ∧ OwnE encPt 1 72 0 w vw wt ∧ OwnE encEv 5 36 0 w ve evs ∧ (∀ x, vw.ownBlock = some x → O x = c) ∧ ∀ x, ve.ownBlock = some x → O x = c
  col : O b = c
structure MpC (O : Nat → Nat) (c : Nat) (w : World) (mb : Nat) (l : List (Int × Nat)) : Prop where
  map : MapC w mb l
  col : O mb = c
structure WtC (O : Nat → Nat) (c : Nat) (w : World) (wt : List Nat) (en : Nat → En) : Prop where
  ent : ∀ E ∈ wt, O E = c ∧ EnC w E (en E) true none
  nod : wt.Nodup
structure HdC (O : Nat → Nat) (c : Nat) (w : World) (X : Nat) (e : En) (waits : Bool) : Prop where
  ent : EnC w X e waits none
  col : O X = c
theorem own_lt {α : Type} {enc : α → List Value} {sz B : Nat} {e : TypeId} {w : World} {v : Value} {l : List α} (h : OwnE enc sz e B w v l) {x : Nat} (hx : v.ownBlock = some x) : ∃ cs, Cells w x cs e := by
  rcases h.2 with ⟨rfl, _⟩ | ⟨g, cap, cur, rfl, _, hg, _⟩
  · cases hx
  · injection hx with hx
    subst hx
    exact ⟨cur, hg⟩
theorem TopC.lt {O : Nat → Nat} {c : Nat} {w : World} {b hb hs mb : Nat} {wt : List Nat} {nums last : Int} {evs : List Ev} (h : TopC O c w b hb hs mb wt nums last evs) : b < w.heap.size := by
  obtain ⟨vw, ve, h1, _⟩ := h.cell
  exact h1.lt
theorem TopC.step {C : Nat → Prop} {O O' : Nat → Nat} {c : Nat} {w w' : World} {b hb hs mb : Nat} {wt : List Nat} {nums last : Int} {evs : List Ev} (h : TopC O c w b hb hs mb wt nums last evs) (s : Step C O w O' w') (hc : ¬ C c) : TopC O' c w' b hb hs mb wt nums last evs := by
  obtain ⟨vw, ve, h1, h2, h3, h4, h5⟩ := h.cell
  have hk := s.kept
  have hn : ∀ x, O x = c → ¬ C (O x) := fun x hx => by rw [hx]; exact hc
  refine ⟨⟨vw, ve, h1.kept hk (hn b h.col), OwnE.kept h2 hk (fun x hx => hn x (h4 x hx)), OwnE.kept h3 hk (fun x hx => hn x (h5 x hx)), fun x hx => ?_, fun x hx => ?_⟩, ?_⟩
  · obtain ⟨cs, hcs⟩ := own_lt h2 hx
    rw [(s.old x hcs.lt (hn x (h4 x hx))).2, h4 x hx]
  · obtain ⟨cs, hcs⟩ := own_lt h3 hx
    rw [(s.old x hcs.lt (hn x (h5 x hx))).2, h5 x hx]
  · rw [(s.old b h1.lt (hn b h.col)).2, h.col]
theorem MpC.step {C : Nat → Prop} {O O' : Nat → Nat} {c : Nat} {w w' : World} {mb : Nat} {l : List (Int × Nat)} (h : MpC O c w mb l) (s : Step C O w O' w') (hc : ¬ C c) : MpC O' c w' mb l :=
  ⟨h.map.kept s.kept (by rw [h.col]; exact hc), by rw [(s.old mb h.map.lt (by rw [h.col]; exact hc)).2, h.col]⟩
theorem WtC.step {C : Nat → Prop} {O O' : Nat → Nat} {c : Nat} {w w' : World} {wt : List Nat} {en en' : Nat → En} (h : WtC O c w wt en) (s : Step C O w O' w') (hc : ¬ C c) (hen : ∀ E ∈ wt, en' E = en E) : WtC O' c w' wt en' := by
  refine ⟨fun E hE => ?_, h.nod⟩
  obtain ⟨h1, h2⟩ := h.ent E hE
  rw [hen E hE]
  exact ⟨by rw [(s.old E h2.lt (by rw [h1]; exact hc)).2, h1], h2.kept s.kept (by rw [h1]; exact hc)⟩
theorem HdC.step {C : Nat → Prop} {O O' : Nat → Nat} {c : Nat} {w w' : World} {X : Nat} {e : En} {b : Bool} (h : HdC O c w X e b) (s : Step C O w O' w') (hc : ¬ C c) : HdC O' c w' X e b :=
  ⟨h.ent.kept s.kept (by rw [h.col]; exact hc), by rw [(s.old X h.ent.lt (by rw [h.col]; exact hc)).2, h.col]⟩
def prs (en : Nat → En) (l : List Nat) : List (Int × Nat) := l.map fun E => ((en E).n, E)
structure BdC (O : Nat → Nat) (q : Nat) (w : World) (b : Nat) (G : Mm) (nums last : Int) (evs : List Ev) : Prop where
  top : TopC O (q + 3) w b G.hb G.hs G.mb G.wt nums last evs
  buy : HlfC O (q + 1) w G.hb 1 G.lb G.en
  sell : HlfC O (q + 2) w G.hs 2 G.ls G.en
  map : MpC O (q + 6) w G.mb (prs G.en G.live)
  wait : WtC O (q + 4) w G.wt G.en
  ok : BdOk (G.bd nums last)
  few : G.live.length ≤ 4096
def colB (q x : Nat) : Prop := q < x ∧ x ≤ q + 6
theorem BdC.step {C : Nat → Prop} {O O' : Nat → Nat} {q : Nat} {w w' : World} {b : Nat} {G : Mm} {nums last : Int} {evs : List Ev} (h : BdC O q w b G nums last evs) (s : Step C O w O' w') (hc : ∀ x, colB q x → ¬ C x) : BdC O' q w' b G nums last evs :=
  ⟨h.top.step s (hc _ ⟨by omega, by omega⟩), h.buy.step s (hc _ ⟨by omega, by omega⟩) (fun _ _ => rfl), h.sell.step s (hc _ ⟨by omega, by omega⟩) (fun _ _ => rfl), h.map.step s (hc _ ⟨by omega, by omega⟩), h.wait.step s (hc _ ⟨by omega, by omega⟩) (fun _ _ => rfl), h.ok, h.few⟩
theorem Step.of_below {O : Nat → Nat} {w w' : World} (h : Below w.heap.size w w') (C : Nat → Prop) : Step C O w O w' := ⟨h.os, h.tape, h.output, h.size, fun k hk _ => ⟨h.block k hk, rfl⟩, fun _ _ h => .inl h⟩
theorem Step.set {O : Nat → Nat} {w : World} {c k : Nat} (h : O k = c) (j : Nat) (v : Value) : Step (fun x => x = c) O w O (w.setCell ⟨k, j, none⟩ v) := by
  have hk : Kept (fun x => x = k) w (w.setCell ⟨k, j, none⟩ v) := (Kept.refl (fun x => x = k) w).set (C := k) rfl j v
  exact ⟨hk.os, hk.tape, hk.output, hk.size, fun i hi hn => ⟨hk.block i hi (fun e => hn (by rw [e]; exact h)), rfl⟩, fun _ _ h => .inl h⟩
theorem Step.of_kept0 {O : Nat → Nat} {c : Nat} {X : Nat → Prop} {w w' : World} (h : Kept X w w') (hX : ∀ k, k < w.heap.size → X k → O k = c) : Step (fun x => x = c) O w O w' :=
  ⟨h.os, h.tape, h.output, h.size, fun k hk hc => ⟨h.block k hk (fun hx => hc (hX k hk hx)), rfl⟩, fun k hk hc => .inl hc⟩
theorem Step.grow {O : Nat → Nat} {c d : Nat} {w w' : World} (h : Kept (fun k => O k = c) w w') : Step (fun x => x = c) O w (grow O w d) w' := Step.of_kept h (fun _ _ hx => hx)
theorem colB_of {q c : Nat} (h1 : q < c) (h2 : c ≤ q + 6) : ∀ x, x = c → colB q x := fun x e => by subst e; exact ⟨h1, h2⟩
theorem plainH_all (ls : List Lv) (en : Nat → En) : (plainH ls en).all = (ensL ls).map en := by
  induction ls with
  | nil => rfl
  | cons x r ih =>
    show Half.all ((x.1, x.2.2.map fun y => en y.2) :: plainH r en) = _
    rw [all_cons, ih]
    show _ = ((x.2.2.map Prod.snd) ++ ensL r).map en
    rw [List.map_append, List.map_map]
    rfl
theorem plainH_congr {ls : List Lv} {en en' : Nat → En} (h : ∀ E ∈ ensL ls, en' E = en E) : plainH ls en' = plainH ls en := by
  unfold plainH
  refine List.map_congr_left fun x hx => ?_
  rw [List.map_congr_left (fun y hy => h y.2 (mem_ens hx hy))]
theorem Mm.bd_live (G : Mm) (nums last : Int) : (G.bd nums last).live = G.live.map G.en := by
  show (plainH G.lb G.en).all ++ ((plainH G.ls G.en).all ++ G.wt.map G.en) = _
  rw [plainH_all, plainH_all]
  simp [Mm.live]
theorem prs_fst (en : Nat → En) (l : List Nat) : (prs en l).map Prod.fst = numsL (l.map en) := by simp [prs, numsL]
end Go.Proofs.YtepldjidkomclaaGreat.Bo
