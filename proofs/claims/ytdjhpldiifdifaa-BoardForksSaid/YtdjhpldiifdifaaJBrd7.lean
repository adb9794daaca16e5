/- board.rest. board.comeIn. -/
import Derived.Test.YtdjhpldiifdifaaJBrd6
namespace Go.Proofs.Ytdjhpldiifdifaa
set_option linter.unusedSimpArgs false
set_option linter.unusedVariables false
open Go.RowKit Go.Shelf
attribute [local go_sem] Oper.semAt_some
attribute [local go_sem ↓] Go.wp_at_zero Go.wp_at_succ

/-- A side is another one, and the entry in hand may be anything. -/
theorem PtC.putSideC {C : Nat → Prop} {O O' : Nat → Nat} {q : Nat} {w w' : World} {b : Nat} {G : Mm} {nums last : Int} {evs : List Ev} {m : List (Int × Nat)} (h : PtC O q w b G nums last evs m) {s : Int} (hs : s = 1 ∨ s = 2) (st : Step C O w O' w') (hC : ∀ x, colB q x → x ≠ q + 5 → x ≠ colS q s → ¬ C x) {ls : List Lv} {en : Nat → En}
    (hl : HlfC O' (colS q s) w' (G.H s) s ls en) (h1 : ∀ E ∈ ensL (G.L (3 - s)), en E = G.en E) (h2 : ∀ E ∈ G.wt, en E = G.en E) : PtC O' q w' b (G.put s ls en) nums last evs m := by
  obtain ⟨c1, c2, c3, c4, c5⟩ := colS_ne q hs
  have t := h.top.step st (hC _ ⟨by omega, by omega⟩ (by omega) (fun e => c2 e.symm))
  have mp := h.map.step st (hC _ ⟨by omega, by omega⟩ (by omega) (fun e => c5 e.symm))
  have wt := h.wait.step st (hC _ ⟨by omega, by omega⟩ (by omega) (fun e => c3 e.symm)) h2
  rcases hs with rfl | rfl
  · exact ⟨t, hl, h.sell.step st (hC _ ⟨by omega, by omega⟩ (by omega) (by simp [colS])) h1, mp, wt⟩
  · exact ⟨t, h.buy.step st (hC _ ⟨by omega, by omega⟩ (by omega) (by simp [colS])) h1, hl, mp, wt⟩
/-- The entry in hand is given a side's colour, and is what it is. -/
theorem PtC.give {O : Nat → Nat} {q : Nat} {w : World} {b : Nat} {G : Mm} {nums last : Int} {evs : List Ev} {m : List (Int × Nat)} (h : PtC O q w b G nums last evs m) {X : Nat} {x : En} (hX : HdC O (q + 5) w X x false) {s : Int} (hs : s = 1 ∨ s = 2) :
    PtC (paint O X (colS q s)) q w b (G.put s (G.L s) (setEn G.en X x)) nums last evs m ∧ HdC (paint O X (colS q s)) (colS q s) w X x false ∧ Step (colB q) O w (paint O X (colS q s)) w ∧ SameB s G (G.put s (G.L s) (setEn G.en X x)) ∧ X ∉ G.live ∧ (∀ E ∈ G.live, setEn G.en X x E = G.en E) := by
  obtain ⟨c1, c2, c3, c4, c5⟩ := colS_ne q hs
  have hc := colS_cases q hs
  have nS : ∀ {t : Int}, t = 1 ∨ t = 2 → X ∉ ensL (G.L t) := fun {t} ht hm => by
    have := ((h.side ht).entry hm).1
    rw [hX.col] at this
    have := (colS_ne q ht).2.2.2.1
    omega
  have nW : X ∉ G.wt := fun hm => by have := (h.wait.ent X hm).1; rw [hX.col] at this; omega
  have far : ∀ {t : Int}, t = 1 ∨ t = 2 → ∀ E ∈ ensL (G.L t), setEn G.en X x E = G.en E := fun {t} ht E hE => setEn_far _ _ (fun e => nS ht (by rw [← e]; exact hE))
  have farW : ∀ E ∈ G.wt, setEn G.en X x E = G.en E := fun E hE => setEn_far _ _ (fun e => nW (by rw [← e]; exact hE))
  have st : Step (fun c => c = q + 5 ∨ c = colS q s) O w (paint O X (colS q s)) w := Step.paint O w (.inl hX.col) (.inl (.inr rfl))
  have hl : HlfC (paint O X (colS q s)) (colS q s) w (G.H s) s (G.L s) (setEn G.en X x) :=
    (h.side hs).keptG (Kept.refl (fun _ => False) w) not_false (fun _ _ _ _ => not_false) (fun _ _ => ⟨not_false, fun _ _ => ⟨not_false, not_false⟩⟩) (fun k _ hk => by unfold paint; split; rfl; exact hk) (fun x hx y hy => far hs _ (mem_ens hx hy))
  refine ⟨h.putSideC hs st (fun c _ h5 hn => by rintro (e | e); exact h5 e; exact hn e) hl (far (other_side hs)) farW, ⟨hX.ent, paint_self _ _ _⟩, st.wider (fun c hc' => ?_), (Mm.put_same hs G (G.L s) _ (far (other_side hs)) farW).1, fun hm => ?_, fun E hE => ?_⟩
  · rcases hc' with rfl | rfl
    · exact ⟨by omega, by omega⟩
    · exact hc
  · have := (Mm.put_live hs G [] G.en).1.mem_iff.1 hm
    rcases List.mem_append.1 this with h1 | h1
    · exact nS hs h1
    · rcases List.mem_append.1 h1 with h1 | h1
      · exact nS (other_side hs) h1
      · exact nW h1
  · have := (Mm.put_live hs G [] G.en).1.mem_iff.1 hE
    rcases List.mem_append.1 this with h1 | h1
    · exact far hs E h1
    · rcases List.mem_append.1 h1 with h1 | h1
      · exact far (other_side hs) E h1
      · exact farW E h1
/-- What rest comes to. -/
def RestedP (O : Nat → Nat) (q : Nat) (w : World) (b : Nat) (G : Mm) (nums last : Int) (evs : List Ev) (s : Int) (X : Nat) (x : En) (e : Ending) (w' : World) : Prop :=
  e = .returned (.tuple #[]) ∧ ∃ O' G', PtC O' q w' b G' nums last (evs ++ [⟨2, x.n, 0, x.o.p, x.l⟩]) (prs G'.en G'.live) ∧ plainH (G'.L s) G'.en = addH s { x with h := if 0 < x.o.pk then min x.o.pk x.l else x.l } (plainH (G.L s) G.en) ∧ SameB s G G' ∧ G'.live.Perm (X :: G.live) ∧ Step (colB q) O w O' w' ∧ (∀ E ∈ G.live, (G'.en E).n = (G.en E).n) ∧ (G'.en X).n = x.n

set_option maxRecDepth 100000 in
set_option maxHeartbeats 4000000 in
theorem rest_calls {O : Nat → Nat} {q : Nat} {w : World} {b : Nat} {G : Mm} {nums last : Int} {evs : List Ev} (h : PtC O q w b G nums last evs (prs G.en G.live)) {X : Nat} {x : En} (hX : HdC O (q + 5) w X x false) {s : Int} (hxs : x.o.s = s) (hs : s = 1 ∨ s = 2) (hok : HSh s (plainH (G.L s) G.en))
    (hlen : evs.length ≤ 3000000000000) (few : G.live.length ≤ 4096) (hn : (Lit.int .i64 x.n).wf = true) (hnew : x.n ∉ numsL (G.live.map G.en)) :
    Calls Try.prog 77 #[pt b, pt X] w (RestedP O q w b G nums last evs s X x) := by
  obtain ⟨c1, c2, c3, c4, c5⟩ := colS_ne q hs
  obtain ⟨hh, hhe⟩ : ∃ hh, hh = if 0 < x.o.pk then min x.o.pk x.l else x.l := ⟨_, rfl⟩
  obtain ⟨_, _, _, _, x8, x9, x10, hXl, fx9, fx10⟩ := hX.ent.cells
  have HH := hid h
  have HX := hid hX
  have HHE := hid hhe
  have HOK := hid hok
  have HXS := hid hxs
  have HN := hid hn
  have HNEW := hid hnew
  clear h hX hhe hok hxs hn hnew
  go_enter Try.func77, Try.ntmps77
  go_upto_if 16 with fail
  go_cut [] (fun wx => HdC O (q + 5) wx X { x with h := hh } false ∧ Kept (fun k => k = X) w wx)
  case first =>
    by_cases hp : 0 < x.o.pk
    · have hd : decide (0 < x.o.pk) = true := by simpa using hp
      have hmn : hh = min x.o.pk x.l := by rw [HHE.out, if_pos hp]
      have HMN := hid hmn
      clear hmn
      go_wp2
      go_region
      all_goals go_wp2
      all_goals go_meet
      all_goals (
        have hz : hh = min x.o.pk x.l := HMN.out
        refine ⟨⟨?_, HX.out.col⟩, (((Kept.refl (fun k => k = X) w).set (C := X) rfl 10 _).drew).set (C := X) rfl 10 _⟩
        first
        | (have h2 : hh = x.o.pk := by omega
           rw [h2]
           exact EnC.setH (Cells.drew (HX.out.ent.setH x.l)) x.o.pk)
        | (have h2 : hh = x.l := by omega
           rw [h2]
           exact EnC.setH (Cells.drew (HX.out.ent.setH x.l)) x.l))
    · have hp' : x.o.pk ≤ 0 := by omega
      have hmn : hh = x.l := by rw [HHE.out, if_neg (by omega)]
      have HMN := hid hmn
      clear hmn hp
      go_wp2
      go_meet
      refine ⟨⟨?_, HX.out.col⟩, (Kept.refl (fun k => k = X) w).set (C := X) rfl 10 _⟩
      rw [HMN.out]
      exact HX.out.ent.setH x.l
  case rest =>
    obtain ⟨hX, hk⟩ := hcut
    have s0 : Step (fun c => c = q + 5) O w O wc := Step.of_kept0 hk (fun k _ e => by rw [e]; exact HX.out.col)
    have h := HH.out.step s0 (fun c _ h5 e => h5 e)
    obtain ⟨x0, _, x2, _, _, _, _, hXl, _, _⟩ := hX.ent.cells
    obtain ⟨_, bm, _, _, hbl, _, _⟩ := h.cells hs
    simp only at x0 x2
    obtain ⟨w2, r1, r2, r3⟩ := put_pt (n := x.n) (E := X) (h.below ((Below.refl _ wc).drew)) (by simp [prs]; omega) HN.out (by rw [prs_fst]; exact HNEW.out)
    have S2 := hid (((s0.B (by omega) (by omega)).trans (Step.of_below ((Below.refl _ wc).drew) (colB q))).trans (r3.B (by omega) (by omega)))
    have H2 := hid r2
    have X2 := hid ((hX.below ((Below.refl _ wc).drew)).step r3 (by omega))
    have R1 := hid r1
    clear h hX hk s0 r1 r2 r3 x8 x9 x10 fx9 fx10
    go_wp2
    refine region_tail 9 (by kernel_rfl) (by kernel_rfl) ?_
    simp only [List.take_succ_cons, List.take_zero, List.drop_succ_cons, List.drop_zero]
    repeat still_step
    refine wpStill_nil ?_
    refine wpList_mapUpdate_run rfl (.tmp 33) (.tmp 37) (.tmp 38) _ rfl _ _ _ w2 rfl rfl rfl R1.out ?_
    obtain ⟨w3, hw3⟩ : ∃ w3, w3 = w2.drew := ⟨_, rfl⟩
    have b3 : Below w2.heap.size w2 w3 := by rw [hw3]; exact (Below.refl _ w2).drew
    have X3 := X2.out.below b3
    obtain ⟨p4, d4, s4, v4, n4, f4⟩ := (H2.out.below b3).give X3 hs
    obtain ⟨G2, hG2⟩ : ∃ G2, G2 = G.put s (G.L s) (setEn G.en X { x with h := hh }) := ⟨_, rfl⟩
    have z := Mm.put_same hs G (G.L s) (setEn G.en X { x with h := hh }) (fun E hE => f4 E ((Mm.put_live hs G [] G.en).1.mem_iff.2 (List.mem_append_right _ (List.mem_append_left _ hE)))) (fun E hE => f4 E ((Mm.put_live hs G [] G.en).1.mem_iff.2 (List.mem_append_right _ (List.mem_append_right _ hE))))
    have lv := Mm.put_live hs G (G.L s) (setEn G.en X { x with h := hh })
    rw [← hG2] at p4 v4 z lv
    have en2 : G2.en X = { x with h := hh } := by rw [z.2.2, setEn_self]
    have farL : ∀ E ∈ ensL (G.L s), setEn G.en X { x with h := hh } E = G.en E := fun E hE => f4 E ((Mm.put_live hs G [] G.en).1.mem_iff.2 (List.mem_append_left _ hE))
    have ph2 : plainH (G2.L s) G2.en = plainH (G.L s) G.en := by rw [z.2.1, z.2.2]; exact plainH_congr farL
    have hX2 : X ∉ ensL (G2.L s) := by rw [z.2.1]; exact fun hm => n4 ((Mm.put_live hs G [] G.en).1.mem_iff.2 (List.mem_append_left _ hm))
    have hl2 : (ensL (G2.L s)).length ≤ 5000 := by rw [z.2.1]; have := few_side (G := G) hs; omega
    have ad := add_pt p4 hs (by rw [ph2]; exact HOK.out) hl2 hX2 (by rw [en2]; exact d4)
    have S3 := hid ((S2.out.trans (Step.of_below b3 (colB q))).trans s4)
    have hgh : G.H s = G2.H s := v4.H.symm
    rw [← hgh] at ad
    have PL := hid (show ∀ ls9, (G2.put s ls9 G2.en).live.Perm (ensL ls9 ++ (ensL (G2.L (3 - s)) ++ G2.wt)) ∧ G2.live.Perm (ensL (G2.L s) ++ (ensL (G2.L (3 - s)) ++ G2.wt)) from fun ls9 => ⟨(Mm.put_live hs G2 ls9 G2.en).2, (Mm.put_live hs G2 ls9 G2.en).1⟩)
    have LV := hid (lv.2.trans lv.1.symm : G2.live.Perm G.live)
    have PRS := hid (show prs G2.en G.live = prs G.en G.live from prs_congr (fun E hE => by rw [z.2.2, f4 E hE]))
    have NE2 := hid (show ∀ E ∈ G.live, (G2.en E).n = (G.en E).n from fun E hE => by rw [z.2.2, f4 E hE])
    have EN2 := hid en2
    have V4 := hid v4
    have PH2 := hid ph2
    have AD := hid ad
    obtain ⟨_, _, x2, _, _, _, _, hXl, _, _⟩ := X2.out.ent.cells
    simp only at x2
    rw [HXS.out] at x2
    obtain ⟨bs, _, _, _, hbl, _, _⟩ := H2.out.cells hs
    have hs3 : 0 ≤ s ∧ s < 3 := by omega
    have HW3 := hid hw3
    clear p4 d4 s4 v4 n4 f4 hG2 z lv en2 farL ph2 hX2 hl2 ad hgh X3 b3 x0 hw3 bm
    go_wp2
    refine region_tail 11 (by kernel_rfl) (by kernel_rfl) ?_
    simp only [List.take_succ_cons, List.take_zero, List.drop_succ_cons, List.drop_zero]
    repeat still_step
    refine wpStill_nil ?_
    go_wp2_with fail
    rw [← HW3.out]
    refine AD.out.mono ?_
    rintro e w4 ⟨rfl, O4, ls4, p4, a4, l4, s4⟩
    obtain ⟨y1, y2, y3⟩ := Mm.put_same hs G2 ls4 G2.en (fun _ _ => rfl) (fun _ _ => rfl)
    have lv4 := PL.out ls4
    have PL4 := hid (show (G2.put s ls4 G2.en).live.Perm (X :: G.live) from lv4.1.trans ((l4.append_right _).trans ((lv4.2.symm.cons X).trans (LV.out.cons X))))
    obtain ⟨G4, hG4⟩ : ∃ G4, G4 = G2.put s ls4 G2.en := ⟨_, rfl⟩
    rw [← hG4] at p4 y1 y2 y3 PL4
    obtain ⟨P, eX⟩ := ((p4.side hs).entry (E := X) (by rw [y2]; exact l4.mem_iff.2 (by simp))).2
    rw [y3, EN2.out] at eX
    obtain ⟨_, _, _, x5, _, x9, _, hXl, _, _⟩ := eX.cells
    simp only at x5 x9
    have fin : ∀ e w', ToldP O4 q w4.drew b G4 nums last (evs ++ [⟨2, x.n, 0, x.o.p, x.l⟩]) ((x.n, X) :: prs G.en G.live) e w' → e = .returned (.tuple #[]) ∧ RestedP O q w b G nums last evs s X x (.returned (.tuple #[])) w' := by
      rintro e w' ⟨r1, O', r2, r3⟩
      have hc := colS_cases q hs
      refine ⟨r1, rfl, O', G4, r2.perm ?_, ?_, V4.out.trans y1, PL4.out, (((S3.out.trans (s4.B hc.1 hc.2)).trans (Step.of_below ((Below.refl _ w4).drew) (colB q))).trans (r3.B (by omega) (by omega))), fun E hE => by rw [y3]; exact NE2.out E hE, by rw [y3, EN2.out]⟩
      · refine List.Perm.trans ?_ (prs_perm _ PL4.out.symm)
        rw [y3]
        show List.Perm _ (((G2.en X).n, X) :: prs G2.en G.live)
        rw [EN2.out, PRS.out]
      · rw [y2, y3, a4, PH2.out, EN2.out, HHE.out]
    have TL := hid ((tell_pt (p4.below ((Below.refl _ w4).drew)) hlen (EnC.kept eX (X := fun _ => False) (((Kept.refl _ w4).drew)) not_false) 2 0 x.o.p x.l).mono fin)
    clear fin p4 a4 l4 s4 y1 y2 y3 lv4 hG4 eX x2 bs
    generalize RestedP O q w b G nums last evs s X x = R at *
    go_wp2
    refine region_tail 11 (by kernel_rfl) (by kernel_rfl) ?_
    simp only [List.take_succ_cons, List.take_zero, List.drop_succ_cons, List.drop_zero]
    repeat still_step
    refine wpStill_nil ?_
    go_wp2_with fail
    refine TL.out.mono ?_
    rintro e w9 ⟨rfl, r⟩
    have RR := hid r
    clear r
    go_wp2
    first | exact RR.out | (go_end0; exact RR.out)
end Go.Proofs.Ytdjhpldiifdifaa
namespace Go.Proofs.Ytdjhpldiifdifaa
set_option linter.unusedSimpArgs false
set_option linter.unusedVariables false
open Go.RowKit Go.Shelf
attribute [local go_sem] Oper.semAt_some
attribute [local go_sem ↓] Go.wp_at_zero Go.wp_at_succ

/-- A meeting in memory. -/
structure MtC (O0 O : Nat → Nat) (q : Nat) (w0 w : World) (b : Nat) (G0 G : Mm) (nums : Int) (X : Nat) (x : En) (B4 : Nat) (s : Mt) : Prop where
  pt : PtC O q w b G nums s.last s.evs (prs G.en G.live)
  hd : HdC O (q + 5) w X { x with l := s.left } false
  ok : MtOk (3 - x.o.s) nums x.n s
  ph : plainH (G.L (3 - x.o.s)) G.en = s.h
  same : SameB (3 - x.o.s) G0 G
  len : G.live.length ≤ G0.live.length
  box : Cells w B4 x.o.vals 38
  colb : O B4 = q
  step : Step (colB q) O0 w0 O w
  sum : s.evs.length + sizeH s.h ≤ 2999999999998
  trk : ∀ D n, Trk O0 w0 G0 D n → Trk O w G D n
theorem meetF_stop {o : Od} {n S : Int} {s : Mt} (h : ¬ 0 < s.left ∨ meetsH o s.h = false) : ∀ k, meetF o n S k s = s
  | 0 => rfl
  | k + 1 => by
    unfold meetF
    rcases h with h | h
    · rw [if_neg h]
    · split
      · unfold meetsH at h
        cases hf : frontH s.h with
        | none => rfl
        | some y =>
          rw [hf] at h
          simp only at h ⊢
          rw [h]
          rfl
      · rfl
theorem meetF_go {o : Od} {n S : Int} {s : Mt} {y : En} (h1 : 0 < s.left) (h2 : frontH s.h = some y) (h3 : o.good y.o.p = true) (k : Nat) : meetF o n S (k + 1) s = meetF o n S k (meet1 o n S y s) := by
  rw [meetF, if_pos h1, h2]
  simp only
  rw [h3]
  rfl
theorem meetsH_front {o : Od} {h : Half} (hm : meetsH o h = true) : ∃ y, frontH h = some y ∧ o.good y.o.p = true := by
  unfold meetsH at hm
  cases hf : frontH h with
  | none => rw [hf] at hm; cases hm
  | some y => rw [hf] at hm; exact ⟨y, rfl, hm⟩
/-- The member's own front is removed: memory. -/
theorem size_front {side nums : Int} {h : Half} (hh : HOk side nums h) {y : En} (hf : frontH h = some y) : 1 ≤ sizeH h := by
  rcases hh.cases with ⟨_, h2⟩ | ⟨p, y', q, r, hr, h2, hp, he⟩
  · rw [h2] at hf; cases hf
  · rw [hr, sizeH_eq, all_cons]
    show 1 ≤ y'.l.toNat + 1 + _
    omega
/-- What comeIn comes to. -/
def ComeP (O : Nat → Nat) (q : Nat) (w : World) (b : Nat) (G : Mm) (nums last : Int) (evs : List Ev) (X : Nat) (x : En) (e : Ending) (w' : World) : Prop :=
  e = .returned (.tuple #[]) ∧ ∃ O' G' last', BdC O' q w' b G' nums last' (comeF (G.bd nums last) x.n x.o x.l evs).2 ∧ G'.bd nums last' = (comeF (G.bd nums last) x.n x.o x.l evs).1 ∧ G'.live.length ≤ G.live.length + 1 ∧ Step (colB q) O w O' w' ∧ (∀ D n, Trk O w G D n → Trk O' w' G' D n) ∧ Trk O' w' G' X x.n
end Go.Proofs.Ytdjhpldiifdifaa
