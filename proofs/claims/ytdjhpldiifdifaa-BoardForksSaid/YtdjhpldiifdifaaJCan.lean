/- board.takeOff, board.Cancel. -/
import Derived.Test.YtdjhpldiifdifaaJDlf
namespace Go.Proofs.Ytdjhpldiifdifaa
set_option linter.unusedSimpArgs false
set_option linter.unusedVariables false
open Go.RowKit Go.Shelf
attribute [local go_sem] Oper.semAt_some
attribute [local go_sem ↓] Go.wp_at_zero Go.wp_at_succ

/-- What takeOff comes to. -/
def OffP (O : Nat → Nat) (q : Nat) (w : World) (b : Nat) (G : Mm) (nums last : Int) (evs : List Ev) (E : Nat) (e : Ending) (w' : World) : Prop :=
  e = .returned (.tuple #[]) ∧ ∃ O' G' wts, PtC O' q w' b G' nums last evs (prs G'.en G'.live) ∧ G'.bd nums last = (G.bd nums last).off (G.en E) wts ∧ (wts = true ↔ E ∈ G.wt) ∧ G.live.Perm (E :: G'.live) ∧ G'.en = G.en ∧ (∃ wx px, EnC w' E (G.en E) wx px) ∧ Step (colB q) O w O' w'
theorem live_cases {G : Mm} {E : Nat} (h : E ∈ G.live) : E ∈ G.wt ∨ ∃ s, (s = 1 ∨ s = 2) ∧ E ∈ ensL (G.L s) := by
  have := (Mm.put_live (s := 1) (.inl rfl) G [] G.en).1.mem_iff.1 h
  rcases List.mem_append.1 this with h2 | h2
  · exact .inr ⟨1, .inl rfl, h2⟩
  · rcases List.mem_append.1 h2 with h2 | h2
    · exact .inr ⟨2, .inr rfl, h2⟩
    · exact .inl h2
theorem bd_filter {l : List Nat} {en : Nat → En} {pre post : List Nat} {E : Nat} (h : l = pre ++ E :: post) (hn : (numsL (l.map en)).Nodup) : (l.map en).filter (fun y => decide (y.n ≠ (en E).n)) = (pre ++ post).map en := by
  rw [h] at hn ⊢
  have hn' : ((pre.map fun y => (en y).n) ++ (en E).n :: (post.map fun y => (en y).n)).Nodup := by
    have := hn
    simp only [numsL, List.map_append, List.map_cons, List.map_map] at this
    exact this
  obtain ⟨n1, n2, n3⟩ := List.nodup_append.1 hn'
  obtain ⟨n4, n5⟩ := List.nodup_cons.1 n2
  rw [List.map_append, List.map_cons, List.filter_append, List.filter_cons, if_neg (by simp), List.map_append]
  congr 1
  · refine List.filter_eq_self.2 fun y hy => ?_
    obtain ⟨z, hz, rfl⟩ := List.mem_map.1 hy
    have := n3 _ (List.mem_map.2 ⟨z, hz, rfl⟩) (en E).n (by simp)
    simpa using this
  · refine List.filter_eq_self.2 fun y hy => ?_
    obtain ⟨z, hz, rfl⟩ := List.mem_map.1 hy
    have : (en z).n ≠ (en E).n := fun e => n4 (by rw [← e]; exact List.mem_map.2 ⟨z, hz, rfl⟩)
    simpa using this
theorem BdC.numsW {O : Nat → Nat} {q : Nat} {w : World} {b : Nat} {G : Mm} {nums last : Int} {evs : List Ev} (h : BdC O q w b G nums last evs) : (numsL (G.wt.map G.en)).Nodup ∧ ∀ s, s = 1 ∨ s = 2 → (numsL ((ensL (G.L s)).map G.en)).Nodup := by
  have h1 := h.ok.once
  rw [Mm.bd_live] at h1
  have key : ∀ s, s = 1 ∨ s = 2 → (numsL ((ensL (G.L s) ++ (ensL (G.L (3 - s)) ++ G.wt)).map G.en)).Nodup := fun s hs =>
    (((Mm.put_live hs G [] G.en).1.map G.en).map En.n).nodup_iff.1 h1
  refine ⟨?_, fun s hs => ?_⟩
  · have := key 1 (.inl rfl)
    rw [List.map_append, List.map_append, numsL_append, numsL_append] at this
    exact (List.nodup_append.1 (List.nodup_append.1 this).2.1).2.1
  · have := key s hs
    rw [List.map_append, numsL_append] at this
    exact (List.nodup_append.1 this).1

set_option maxRecDepth 100000 in
set_option maxHeartbeats 8000000 in
theorem takeOff_calls {O : Nat → Nat} {q : Nat} {w : World} {b : Nat} {G : Mm} {nums last : Int} {evs : List Ev} (h : BdC O q w b G nums last evs) {E : Nat} (hE : E ∈ G.live) :
    Calls Try.prog 40 #[pt b, pt E] w (OffP O q w b G nums last evs E) := by
  obtain ⟨w1, hw1⟩ : ∃ w1, w1 = w.alloc (.cells #[pt E] 92) := ⟨_, rfl⟩
  have b1 : Below w.heap.size w w1 := by rw [hw1]; exact (Below.refl _ w).alloc (Nat.le_refl _) _
  have cB : Cells w1 w.heap.size #[pt E] 92 := by rw [hw1]; exact Cells.new _ _ _
  obtain ⟨p1, s1⟩ := h.parts.fresh b1 q
  have hgB : grow O w q w.heap.size = q := grow_new (Nat.le_refl _)
  have h1 : BdC (grow O w q) q w1 b G nums last evs := p1.board h.ok h.few
  have fewh := h.few
  obtain ⟨wx, px, eE⟩ := h1.entry hE
  obtain ⟨rest, hperm⟩ : ∃ rest, G.live.Perm (E :: rest) := by
    obtain ⟨a, c, e⟩ := List.append_of_mem hE
    exact ⟨a ++ c, by rw [e]; exact List.perm_middle⟩
  obtain ⟨w2, r1, r2, r3⟩ := drop_pt (n := (G.en E).n) (E := E) (m' := prs G.en rest) (p1.below ((Below.refl _ w1).drew)) (prs_perm G.en hperm) 3
  have hcE : colB q (grow O w q E) := p1.live_col hE
  have cB2 : Cells w2 w.heap.size #[pt E] 92 := by
    refine Cells.kept cB.drew r3.kept ?_
    rw [hgB]; omega
  have eE2 : ∀ D ∈ G.live, ∃ wx px, EnC w2 D (G.en D) wx px := fun D hD => by
    obtain ⟨wx, px, eD⟩ := h1.entry hD
    refine ⟨wx, px, EnC.kept (EnC.kept eD (X := fun _ => False) ((Kept.refl _ w1).drew) not_false) r3.kept ?_⟩
    show ¬ (grow O w q D = q + 6)
    intro e
    rcases live_cases hD with hD | ⟨s, hs, hD⟩
    · have := (p1.wait.ent D hD).1; omega
    · have := ((p1.side hs).entry hD).1
      have := (colS_ne q hs).2.2.2.2
      omega
  obtain ⟨x0, _, _, _, _, _, _, hEl, _, _⟩ := eE.cells
  obtain ⟨_, bm, _, _, hbl, _, _⟩ := p1.cells (s := 1) (.inl rfl)
  have b0 : w1.cell? ⟨w.heap.size, 0, none⟩ = some (pt E) := by rw [cB.cell]; rfl
  have c0 : w2.cell? ⟨w.heap.size, 0, none⟩ = some (pt E) := by rw [cB2.cell]; rfl
  have hB2 := cB2.lt
  have hnW := h.numsW
  have NW := hid hnW
  have HOKS := hid (fun s (hs : s = 1 ∨ s = 2) => (h.sok hs).sh)
  have R1 := hid r1
  have R2 := hid r2
  have S2 := hid ((s1.trans (Step.of_below ((Below.refl _ w1).drew) (colB q))).trans (r3.B (by omega) (by omega)))
  have EE := hid eE2
  have CB := hid cB2
  have HE := hid hE
  have HGB := hid hgB
  have HPERM := hid hperm
  have HW1 := hid hw1
  have hwl : G.wt.length ≤ 4096 := by have : G.wt.length ≤ G.live.length := by { simp [Mm.live]; omega }; omega
  rcases live_cases hE with hwE | ⟨s, hs, hsE⟩
  · -- it waits
    have eW := (r2.wait.ent E hwE).2
    have f11 : w2.cell? ⟨E, 11, none⟩ = some (.bool true) := eW.flag.1
    have hE2 := eW.lt
    obtain ⟨pre, post, hwt⟩ := List.append_of_mem hwE
    obtain ⟨vw, c4, hown, hcol, hbl2, _⟩ := r2.waits
    have hnd := r2.wait.nod
    have hown2 := hown
    rw [hwt] at hown2 hnd
    have hneB : vw.ownBlock ≠ some w.heap.size := fun e => by have := hcol _ e; rw [hgB] at this; omega
    have dl := dlf_calls hown2 (by rw [← hwt]; omega) hnd cB2 hneB (fun D hD => by
      obtain ⟨wx, px, eD⟩ := eE2 D (by rw [← hwt] at hD; exact (Mm.put_live (s := 1) (.inl rfl) G [] G.en).1.mem_iff.2 (List.mem_append_right _ (List.mem_append_right _ hD)))
      exact ⟨_, eD⟩)
    have hnd2 : (pre ++ post).Nodup := by
      obtain ⟨n1, n2, n3⟩ := List.nodup_append.1 hnd
      exact List.nodup_append.2 ⟨n1, (List.nodup_cons.1 n2).2, fun a ha b hb => n3 a ha b (List.mem_cons_of_mem _ hb)⟩
    have hsub : ∀ D ∈ pre ++ post, D ∈ G.wt := fun D hD => by
      rw [hwt]
      rcases List.mem_append.1 hD with h | h
      · exact List.mem_append_left _ h
      · exact List.mem_append_right _ (List.mem_cons_of_mem _ h)
    have fin : ∀ e w3, CutP w2 vw (pre ++ post) e w3 → ∃ v' u, e = .returned v' ∧ w3.cell? ⟨b, 4, none⟩ = some u ∧ w3.frozen? ⟨b, 4, none⟩ = false ∧ b < w3.heap.size ∧ (∃ p n c, v' = .slice p n c) ∧ OffP O q w b G nums last evs E (.returned (.tuple #[])) (w3.setCell ⟨b, 4, none⟩ v') := by
      rintro e w3 ⟨v', rfl, o3, k3, b3⟩
      obtain ⟨⟨u4, d4⟩, d5, d6⟩ := r2.keptTop c4 k3
      obtain ⟨p4, s4, h4⟩ := r2.setWait c4 o3 k3 b3 hsub hnd2
      have e4 := h4 E hwE
      obtain ⟨pp, cc, hv', _⟩ := o3.form
      refine ⟨v', u4, rfl, d4, d5, d6, ⟨_, _, _, hv'⟩, rfl, _, G.wait (pre ++ post), true, p4.perm ?_, ?_, ⟨fun _ => hwE, fun _ => rfl⟩, Mm.wait_live G hwt, rfl, ⟨_, _, e4.ent⟩, S2.out.trans (s4.B (by omega) (by omega))⟩
      · have h5 := (hperm.symm.trans (Mm.wait_live G hwt))
        exact prs_perm _ ((List.perm_cons E).1 h5)
      · show Bd.mk _ _ _ _ _ = Bd.mk _ _ _ _ _
        congr 1
        exact (bd_filter hwt NW.out.1).symm
    have DL := hid (dl.mono fin)
    clear fin dl hnd2 hsub hnd hown2 hown hcol hneB hwt eW hwE
    obtain ⟨pv, nv, cv, hvw⟩ : ∃ p n c, vw = .slice p n c := by
      obtain ⟨vw', c4', hown', _⟩ := R2.out.waits
      rw [c4] at c4'
      injection c4' with e
      subst e
      obtain ⟨p, c, e, _⟩ := hown'.form
      exact ⟨p, _, c, e⟩
    subst hvw
    clear h h1 p1 r1 r2 r3 s1 eE2 cB cB2 hE hgB hperm hcE hnW b1 hw1 eE
    generalize OffP O q w b G nums last evs E = R at *
    go_enter Try.func40, Try.ntmps40
    go_wp2_with fail
    rw [← HW1.out]
    refine region_tail 8 (by kernel_rfl) (by kernel_rfl) ?_
    simp only [List.take_succ_cons, List.take_zero, List.drop_succ_cons, List.drop_zero]
    repeat still_step
    refine wpStill_nil ?_
    refine wpList_delete_run rfl (.tmp 7) (.tmp 11) 88 3 rfl _ _ w2 rfl rfl R1.out ?_
    go_wp2_with fail
    refine DL.out.mono ?_
    rintro e w3 ⟨v', u, rfl, d4, d5, d6, ⟨p, n, c, rfl⟩, hr⟩
    have RR := hid hr
    clear hr
    go_wp2
    first | exact RR.out | (go_end0; exact RR.out)
  · -- it rests
    obtain ⟨hOE, P, eS⟩ := (r2.side hs).entry hsE
    have f11 : w2.cell? ⟨E, 11, none⟩ = some (.bool false) := eS.flag.1
    have f2 : w2.cell? ⟨E, 2, none⟩ = some (.int .i64 s) := by
      have := eS.cells.2.2.1
      have ok := (h.sok hs).mem (G.en E) (by rw [plainH_all]; exact List.mem_map.2 ⟨E, hsE, rfl⟩)
      rw [ok.s] at this
      exact this
    have hE2 := eS.lt
    have hs3 : 0 ≤ s ∧ s < 3 := by omega
    obtain ⟨bs, _, _, _, hbl2, _, _⟩ := r2.cells hs
    have nWt : E ∉ G.wt := fun hm => by
      have := (r2.wait.ent E hm).1
      rw [hOE] at this
      exact (colS_ne q hs).2.2.1 this
    have p3 := r2.below ((Below.refl _ w2).drew)
    have hfw := few_side (G := G) hs
    have tk := half_take (p3.side hs) (HOKS.out s hs) (by omega) hsE (NW.out.2 s hs)
    have fin : ∀ e w3, TookH (grow O w q) (colS q s) w2.drew (G.H s) s (G.L s) E G.en e w3 → e = .returned (.tuple #[]) ∧ OffP O q w b G nums last evs E (.returned (.tuple #[])) w3 := by
      rintro e w3 ⟨g1, ⟨ls', g2, g3, g4⟩, g5, g6⟩
      have hc := colS_cases q hs
      have st : Step (fun x => x = colS q s) (grow O w q) w2.drew (grow (grow O w q) w2.drew (colS q s)) w3 := Step.grow g6
      have p4 := p3.putSide hs st g2 (fun _ _ => rfl) (fun _ _ => rfl)
      obtain ⟨v1, v2, v3⟩ := Mm.put_same hs G ls' G.en (fun _ _ => rfl) (fun _ _ => rfl)
      have lv := Mm.put_live hs G ls' G.en
      have lvp : G.live.Perm (E :: (G.put s ls' G.en).live) := lv.1.trans ((g4.append_right _).trans (lv.2.symm.cons E))
      refine ⟨g1, rfl, _, G.put s ls' G.en, false, p4.perm ?_, ?_, ⟨fun e => (by cases e), fun e => absurd e nWt⟩, lvp, v3, ⟨_, _, g5⟩, (S2.out.trans (Step.of_below ((Below.refl _ w2).drew) (colB q))).trans (st.B hc.1 hc.2)⟩
      · rw [v3]
        exact prs_perm _ ((List.perm_cons E).1 (hperm.symm.trans lvp))
      · have ok := (h.sok hs).mem (G.en E) (by rw [plainH_all]; exact List.mem_map.2 ⟨E, hsE, rfl⟩)
        unfold Bd.off
        rw [if_neg (by simp), ok.s, bd_put hs v1 nums last last, v2, v3, g3, Mm.plain G hs]
        exact put_last hs _
    have TK := hid (tk.mono fin)
    clear fin tk p3 hfw nWt eS hOE
    clear h h1 p1 r1 r2 r3 s1 eE2 cB cB2 hE hgB hperm hcE hnW b1 hw1 eE
    generalize OffP O q w b G nums last evs E = R at *
    go_enter Try.func40, Try.ntmps40
    go_wp2_with fail
    rw [← HW1.out]
    refine region_tail 8 (by kernel_rfl) (by kernel_rfl) ?_
    simp only [List.take_succ_cons, List.take_zero, List.drop_succ_cons, List.drop_zero]
    repeat still_step
    refine wpStill_nil ?_
    refine wpList_delete_run rfl (.tmp 7) (.tmp 11) 88 3 rfl _ _ w2 rfl rfl R1.out ?_
    go_wp2
    refine region_tail 11 (by kernel_rfl) (by kernel_rfl) ?_
    simp only [List.take_succ_cons, List.take_zero, List.drop_succ_cons, List.drop_zero]
    repeat still_step
    refine wpStill_nil ?_
    go_wp2_with fail
    refine TK.out.mono ?_
    rintro e w3 ⟨rfl, hr⟩
    have RR := hid hr
    clear hr
    go_wp2
    first | exact RR.out | (go_end0; exact RR.out)
theorem off_ok {O : Nat → Nat} {q : Nat} {w : World} {b : Nat} {G G' : Mm} {nums last : Int} {evs : List Ev} {wts : Bool} (h : BdC O q w b G nums last evs) {E : Nat} (hE : E ∈ G.live) (hb : G'.bd nums last = (G.bd nums last).off (G.en E) wts) (hw : wts = true ↔ E ∈ G.wt) (hp : G.live.Perm (E :: G'.live)) (he : G'.en = G.en) : BdOk (G'.bd nums last) := by
  have hS := h.ok
  have hnp : (numsL (G'.bd nums last).live).Nodup := by
    have h1 := hS.once
    rw [Mm.bd_live] at h1 ⊢
    have h2 := (((hp.map G.en).map En.n).nodup_iff.1 h1)
    rw [he]
    exact (List.nodup_cons.1 (show (_ :: numsL (G'.live.map G.en)).Nodup from h2)).2
  cases hwt : wts with
  | true =>
    have hwE := hw.1 hwt
    obtain ⟨pre, post, hs⟩ := List.append_of_mem hwE
    have e : G'.bd nums last = { G.bd nums last with wait := pre.map G.en ++ post.map G.en } := by
      rw [hb, hwt]
      show Bd.mk _ _ _ _ _ = Bd.mk _ _ _ _ _
      congr 1
      rw [← List.map_append]
      exact bd_filter hs h.numsW.1
    rw [e]
    exact (wait_off hS (pre := pre.map G.en) (post := post.map G.en) (x := G.en E) (by show G.wt.map G.en = _; rw [hs]; simp)).1
  | false =>
    rcases live_cases hE with hwE | ⟨s, hs, hsE⟩
    · have := hw.2 hwE; rw [hwt] at this; cases this
    · have hm : G.en E ∈ ((G.bd nums last).half s).all := by rw [Mm.plain G hs, plainH_all]; exact List.mem_map.2 ⟨E, hsE, rfl⟩
      have ok := (hS.half hs).mem _ hm
      have e : G'.bd nums last = (G.bd nums last).put s (takeH (G.en E) ((G.bd nums last).half s)) := by
        rw [hb, hwt]
        unfold Bd.off
        rw [if_neg (by simp), ok.s]
      have hn1 : (numsL ((G.bd nums last).half s).all).Nodup := by rw [Mm.plain G hs, plainH_all]; exact h.numsW.2 s hs
      rw [e] at hnp ⊢
      exact put_ok hS hs (takeH_ok (hS.half hs) hn1 hm).1 hnp
/-- What Cancel comes to. -/
def CancelP (O : Nat → Nat) (q : Nat) (w : World) (b : Nat) (G : Mm) (nums last : Int) (n m : Int) (e : Ending) (w' : World) : Prop :=
  (n ∉ G.live.map (fun E => (G.en E).n) ∧ e = .returned (.tuple #[.slice none 0 0, .int .i64 4]) ∧ BdC O q w' b G nums last [] ∧ Step (colB q) O w O w') ∨
  (∃ E ∈ G.live, (G.en E).n = n ∧ (G.en E).o.m ≠ m ∧ e = .returned (.tuple #[.slice none 0 0, .int .i64 8]) ∧ BdC O q w' b G nums last [] ∧ Step (colB q) O w O w') ∨
  (∃ E ∈ G.live, (G.en E).n = n ∧ (G.en E).o.m = m ∧ ∃ v O' G' wts, e = .returned (.tuple #[v, .int .i64 0]) ∧ OwnE encEv 5 40 0 w' v [⟨3, n, 0, 0, (G.en E).l⟩] ∧ (∀ g, v.ownBlock = some g → O' g = q + 3) ∧ BdC O' q w' b G' nums last [] ∧ G'.bd nums last = (G.bd nums last).off (G.en E) wts ∧ (wts = true ↔ E ∈ G.wt) ∧ G.live.Perm (E :: G'.live) ∧ G'.en = G.en ∧ Step (colB q) O w O' w')

set_option maxRecDepth 100000 in
set_option maxHeartbeats 8000000 in
theorem cancel_calls {O : Nat → Nat} {q : Nat} {w : World} {b : Nat} {G : Mm} {nums last : Int} (h : BdC O q w b G nums last []) (n m : Int) (hn : (Lit.int .i64 n).wf = true) :
    Calls Try.prog 15 #[pt b, .int .i64 n, .int .i64 m] w (CancelP O q w b G nums last n m) := by
  have HO := hid (owned_calls h n m hn)
  have HH := hid h
  clear h
  have key : (n ∉ G.live.map (fun E => (G.en E).n) ∧ Calls Try.prog 39 #[pt b, .int .i64 n, .int .i64 m] w fun e w' => e = .returned (.tuple #[.pointer none, .int .i64 4]) ∧ w' = w) ∨
      (∃ E ∈ G.live, (G.en E).n = n ∧ (G.en E).o.m ≠ m ∧ Calls Try.prog 39 #[pt b, .int .i64 n, .int .i64 m] w fun e w' => e = .returned (.tuple #[.pointer none, .int .i64 8]) ∧ w' = w) ∨
      ∃ E ∈ G.live, (G.en E).n = n ∧ (G.en E).o.m = m ∧ Calls Try.prog 39 #[pt b, .int .i64 n, .int .i64 m] w fun e w' => e = .returned (.tuple #[pt E, .int .i64 0]) ∧ w' = w := by
    have uniq : ∀ {D E : Nat}, D ∈ G.live → E ∈ G.live → (G.en D).n = (G.en E).n → D = E := fun {D E} hD hE e => by
      have h1 := HH.out.ok.once
      rw [Mm.bd_live] at h1
      have h2 : (G.live.map fun E => (G.en E).n).Nodup := by
        have := h1
        simp only [numsL, List.map_map] at this
        exact this
      obtain ⟨i, hi, rfl⟩ := List.getElem_of_mem hD
      obtain ⟨j, hj, rfl⟩ := List.getElem_of_mem hE
      have := (List.getElem_inj (h₀ := by simpa using hi) (h₁ := by simpa using hj) h2).1 (by simpa using e)
      subst this
      rfl
    by_cases hno : n ∈ G.live.map (fun E => (G.en E).n)
    · obtain ⟨E, hE, hEn⟩ := List.mem_map.1 hno
      by_cases hm : (G.en E).o.m = m
      · refine .inr (.inr ⟨E, hE, hEn, hm, HO.out.mono ?_⟩)
        rintro e w' ⟨rfl, ⟨D, hD, h1, h2, rfl⟩ | ⟨D, hD, h1, h2, rfl⟩ | ⟨h1, _⟩⟩
        · rw [uniq hD hE (h1.trans hEn.symm)]; exact ⟨rfl, rfl⟩
        · rw [uniq hD hE (h1.trans hEn.symm)] at h2; exact absurd hm h2
        · exact absurd hno h1
      · refine .inr (.inl ⟨E, hE, hEn, hm, HO.out.mono ?_⟩)
        rintro e w' ⟨rfl, ⟨D, hD, h1, h2, rfl⟩ | ⟨D, hD, h1, h2, rfl⟩ | ⟨h1, _⟩⟩
        · rw [uniq hD hE (h1.trans hEn.symm)] at h2; exact absurd h2 hm
        · exact ⟨rfl, rfl⟩
        · exact absurd hno h1
    · refine .inl ⟨hno, HO.out.mono ?_⟩
      rintro e w' ⟨rfl, ⟨D, hD, h1, h2, rfl⟩ | ⟨D, hD, h1, h2, rfl⟩ | ⟨h1, rfl⟩⟩
      · exact absurd (List.mem_map.2 ⟨D, hD, h1⟩) hno
      · exact absurd (List.mem_map.2 ⟨D, hD, h1⟩) hno
      · exact ⟨rfl, rfl⟩
  rcases key with ⟨hno, ow⟩ | ⟨E, hE, hEn, hm, ow⟩ | ⟨E, hE, hEn, hm, ow⟩
  · have OW := hid ow
    have fin : CancelP O q w b G nums last n m (.returned (.tuple #[.slice none 0 0, .int .i64 4])) w := .inl ⟨hno, rfl, HH.out, Step.refl _ _ _⟩
    have FIN := hid fin
    clear ow hno fin HO
    generalize CancelP O q w b G nums last n m = R at *
    go_enter Try.func15, Try.ntmps15
    go_wp2_with fail
    refine OW.out.mono ?_
    rintro e w1 ⟨rfl, rfl⟩
    go_wp2
    exact FIN.out
  · have OW := hid ow
    have fin : CancelP O q w b G nums last n m (.returned (.tuple #[.slice none 0 0, .int .i64 8])) w := .inr (.inl ⟨E, hE, hEn, hm, rfl, HH.out, Step.refl _ _ _⟩)
    have FIN := hid fin
    clear ow hE hEn hm fin HO
    generalize CancelP O q w b G nums last n m = R at *
    go_enter Try.func15, Try.ntmps15
    go_wp2_with fail
    refine OW.out.mono ?_
    rintro e w1 ⟨rfl, rfl⟩
    go_wp2
    exact FIN.out
  · have OW := hid ow
    have TO := hid (takeOff_calls HH.out hE)
    have HE := hid hE
    have HEN := hid hEn
    have HM := hid hm
    clear ow hE hEn hm HO
    go_enter Try.func15, Try.ntmps15
    go_wp2_with fail
    refine OW.out.mono ?_
    rintro e w1 ⟨rfl, rfl⟩
    go_wp2_with fail
    refine TO.out.mono ?_
    rintro e w2 ⟨rfl, O2, G2, wts, p2, q2, q3, q4, q5, ⟨wx, px, eE⟩, q6⟩
    have x9 : w2.cell? ⟨E, 9, none⟩ = some (.int .i64 (G.en E).l) := eE.cells.2.2.2.2.2.1
    have hEl := eE.lt
    have TL := hid (tell_pt p2 (by simp) eE 3 0 0 (G.en E).l)
    have ok2 := off_ok HH.out HE.out q2 q3 q4 q5
    have few2 : G2.live.length ≤ 4096 := by have := q4.length_eq; rw [List.length_cons] at this; have := HH.out.few; omega
    have OK2 := hid ok2
    have Q2 := hid q2
    have Q3 := hid q3
    have Q4 := hid q4
    have Q5 := hid q5
    have Q6 := hid q6
    clear p2 q2 q3 q4 q5 q6 eE ok2
    go_wp2_with fail
    refine TL.out.mono ?_
    rintro e w3 ⟨rfl, O3, p3, s3⟩
    have DN := done_calls p3.top
    rw [HEN.out] at DN
    have fin : ∀ e w4, DoneR O3 (q + 3) w3 b G2.hb G2.hs G2.mb G2.wt nums last ([] ++ [⟨3, n, 0, 0, (G.en E).l⟩]) e w4 → ∃ pp nn cc, e = .returned (.slice pp nn cc) ∧ CancelP O q w1 b G nums last n m (.returned (.tuple #[.slice pp nn cc, .int .i64 0])) w4 := by
      rintro e w4 ⟨v, rfl, g2, g3, g4, g5⟩
      obtain ⟨pp, cc, hv, _⟩ := g2.form
      have st : Step (fun c => c = q + 3) O3 w3 O3 w4 := Step.of_kept0 g5 (fun k _ e => e)
      have p4 : PtC O3 q w4 b G2 nums last [] (prs G2.en G2.live) := ⟨g4, p3.buy.step st (by omega) (fun _ _ => rfl), p3.sell.step st (by omega) (fun _ _ => rfl), p3.map.step st (by omega), p3.wait.step st (by omega) (fun _ _ => rfl)⟩
      exact ⟨pp, _, cc, by rw [hv], .inr (.inr ⟨E, HE.out, HEN.out, HM.out, v, O3, G2, wts, by rw [hv], g2, g3, p4.board OK2.out few2, Q2.out, Q3.out, Q4.out, Q5.out, (Q6.out.trans (s3.B (by omega) (by omega))).trans (st.B (by omega) (by omega))⟩)⟩
    have DNN := hid (DN.mono fin)
    clear fin DN p3 s3 x9 hEl few2
    generalize CancelP O q w1 b G nums last n m = R at *
    go_wp2_with fail
    refine DNN.out.mono ?_
    rintro e w5 ⟨pp, nn, cc, rfl, hr⟩
    have RR := hid hr
    clear hr
    go_wp2
    exact RR.out
end Go.Proofs.Ytdjhpldiifdifaa
