/- board.Fork: an entry's copy comes in. board.Fork: a side's entries come in. -/
import Derived.Test.YtdjhpldiifdifaaJBrd7
import Derived.Test.YtdjhpldiifdifaaJFrk0
import Derived.Test.YtdjhpldiifdifaaJEnt
namespace Go.Proofs.Ytdjhpldiifdifaa
set_option linter.unusedSimpArgs false
set_option linter.unusedVariables false
open Go.RowKit Go.Shelf
attribute [local go_sem] Oper.semAt_some
attribute [local go_sem ↓] Go.wp_at_zero Go.wp_at_succ

theorem PtC.live_lt {O : Nat → Nat} {q : Nat} {w : World} {b : Nat} {G : Mm} {nums last : Int} {evs : List Ev} {m : List (Int × Nat)} (h : PtC O q w b G nums last evs m) : ∀ E ∈ G.live, E < w.heap.size := by
  intro E hE
  unfold Mm.live at hE
  rcases List.mem_append.1 hE with h1 | h1
  · obtain ⟨_, P, e⟩ := h.buy.entry h1
    exact e.lt
  · rcases List.mem_append.1 h1 with h1 | h1
    · obtain ⟨_, P, e⟩ := h.sell.entry h1
      exact e.lt
    · exact (h.wait.ent E h1).2.lt
/-- A new entry of a side's colour is what it is. -/
theorem PtC.name {O : Nat → Nat} {q : Nat} {w : World} {b : Nat} {G : Mm} {nums last : Int} {evs : List Ev} {m : List (Int × Nat)} (h : PtC O q w b G nums last evs m) {X : Nat} {x : En} (hX : X ∉ G.live) {s : Int} (hs : s = 1 ∨ s = 2) :
    PtC O q w b (G.put s (G.L s) (setEn G.en X x)) nums last evs m ∧ SameB s G (G.put s (G.L s) (setEn G.en X x)) ∧ (∀ E ∈ G.live, setEn G.en X x E = G.en E) := by
  have far : ∀ E ∈ G.live, setEn G.en X x E = G.en E := fun E hE => setEn_far _ _ (fun e => hX (by rw [← e]; exact hE))
  have farS : ∀ {t : Int}, t = 1 ∨ t = 2 → ∀ E ∈ ensL (G.L t), setEn G.en X x E = G.en E := fun {t} ht E hE => far E ((Mm.put_live ht G [] G.en).1.mem_iff.2 (List.mem_append_left _ hE))
  have farW : ∀ E ∈ G.wt, setEn G.en X x E = G.en E := fun E hE => far E ((Mm.put_live hs G [] G.en).1.mem_iff.2 (List.mem_append_right _ (List.mem_append_right _ hE)))
  have hl : HlfC O (colS q s) w (G.H s) s (G.L s) (setEn G.en X x) :=
    (h.side hs).keptG (Kept.refl (fun _ => False) w) not_false (fun _ _ _ _ => not_false) (fun _ _ => ⟨not_false, fun _ _ => ⟨not_false, not_false⟩⟩) (fun k _ hk => hk) (fun x hx y hy => farS hs _ (mem_ens hx hy))
  exact ⟨h.putSide hs (Step.of_below (Below.refl _ w) _) hl (farS (other_side hs)) farW, (Mm.put_same hs G (G.L s) _ (farS (other_side hs)) farW).1, far⟩
/-- half.add, wherever the copy says that it was. -/
theorem add_ptp {O : Nat → Nat} {q : Nat} {w : World} {b : Nat} {G : Mm} {nums last : Int} {evs : List Ev} {m : List (Int × Nat)} (h : PtC O q w b G nums last evs m) {s : Int} (hs : s = 1 ∨ s = 2) (hsh : HSh s (plainH (G.L s) G.en)) (hlen : (ensL (G.L s)).length ≤ 5000) {X : Nat} (hX : X ∉ ensL (G.L s)) {pl : Option Nat} (eX : EnC w X (G.en X) false pl) (oX : O X = colS q s) :
    Calls Try.prog 67 #[pt (G.H s), pt X] w (AddedP O q w b G nums last evs m s X) :=
  (half_add (h.side hs) hsh hlen hX oX eX).mono fun e w' ⟨h1, ⟨ls', h2, h3, h4⟩, h6⟩ =>
    have st : Step (fun x => x = colS q s) O w (grow O w (colS q s)) w' := Step.grow h6
    ⟨h1, _, ls', h.putSide hs st h2 (fun _ _ => rfl) (fun _ _ => rfl), h3, h4, st⟩
/-- A block of colour 0 stays. -/
theorem stay0 {q : Nat} {O O' : Nat → Nat} {w w' : World} (st : Step (colB q) O w O' w') {r : Nat} {cs : Array Value} {ty : TypeId} (h : Cells w r cs ty) (h0 : O r = 0) : Cells w' r cs ty ∧ O' r = 0 := by
  have hn : ¬ colB q (O r) := by rw [h0]; exact fun e => absurd e.1 (by omega)
  exact ⟨h.kept st.kept hn, by rw [(st.old r h.lt hn).2, h0]⟩
/-- What the closure comes to. -/
def ForkedP (O : Nat → Nat) (q : Nat) (w : World) (b : Nat) (G : Mm) (nums last : Int) (s : Int) (y : En) (e : Ending) (w' : World) : Prop :=
  e = .returned (.bool true) ∧ ∃ O' G', PtC O' q w' b G' nums last [] (prs G'.en G'.live) ∧ plainH (G'.L s) G'.en = addH s y (plainH (G.L s) G.en) ∧ SameB s G G' ∧ (G'.live.map G'.en).Perm (y :: G.live.map G.en) ∧ Step (colB q) O w O' w'

set_option maxRecDepth 100000 in
set_option maxHeartbeats 4000000 in
theorem fork1_calls {O : Nat → Nat} {q : Nat} {w : World} {b : Nat} {G : Mm} {nums last : Int} (h : PtC O q w b G nums last [] (prs G.en G.live)) {s : Int} (hs : s = 1 ∨ s = 2) (hsh : HSh s (plainH (G.L s) G.en)) (few : G.live.length ≤ 4096) {E : Nat} {y : En} {pE : Option Nat} (eE : EnC w E y false pE)
    (hn : (Lit.int .i64 y.n).wf = true) (hnew : y.n ∉ numsL (G.live.map G.en)) {B3 B5 : Nat} (c3 : Cells w B3 #[pt b] 23) (o3 : O B3 = 0) (c5 : Cells w B5 #[.int .i64 s] 3) (o5 : O B5 = 0) :
    Calls Try.prog 66 #[pt E, pt B3, pt B5] w (ForkedP O q w b G nums last s y) := by
  obtain ⟨col1, col2, col3, col4, col5⟩ := colS_ne q hs
  have hcs := colS_cases q hs
  obtain ⟨w1, hw1⟩ : ∃ w1, w1 = w.alloc (.cells #[.int .i64 y.n, .int .i64 y.o.m, .int .i64 y.o.s, .int .i64 y.o.k, .int .i64 y.o.f, .int .i64 y.o.p, .int .i64 y.o.t, .int .i64 y.o.q, .int .i64 y.o.pk, .int .i64 y.l, .int .i64 y.h, .bool false, op pE] 99) := ⟨_, rfl⟩
  have b1 : Below w.heap.size w w1 := by rw [hw1]; exact (Below.refl _ _).alloc (Nat.le_refl _) _
  obtain ⟨X, hX⟩ : ∃ X, X = w.heap.size := ⟨_, rfl⟩
  have e1 : EnC w1 X y false pE := by rw [hw1, hX]; exact Cells.new _ _ _
  obtain ⟨p1, st1⟩ := h.fresh b1 (colS q s)
  obtain ⟨O1, hO1⟩ : ∃ O1, O1 = grow O w (colS q s) := ⟨_, rfl⟩
  have o1 : O1 X = colS q s := by rw [hO1]; exact grow_new (by omega)
  rw [← hO1] at p1 st1
  have nX : X ∉ G.live := fun hm => by have := h.live_lt X hm; omega
  obtain ⟨p2, v2, f2⟩ := p1.name (x := y) nX hs
  obtain ⟨G2, hG2⟩ : ∃ G2, G2 = G.put s (G.L s) (setEn G.en X y) := ⟨_, rfl⟩
  have z := Mm.put_same hs G (G.L s) (setEn G.en X y) (fun E hE => f2 E ((Mm.put_live hs G [] G.en).1.mem_iff.2 (List.mem_append_right _ (List.mem_append_left _ hE)))) (fun E hE => f2 E ((Mm.put_live hs G [] G.en).1.mem_iff.2 (List.mem_append_right _ (List.mem_append_right _ hE))))
  have lv := Mm.put_live hs G (G.L s) (setEn G.en X y)
  rw [← hG2] at p2 v2 z lv
  have en2 : G2.en X = y := by rw [z.2.2, setEn_self]
  have farL : ∀ E ∈ ensL (G.L s), setEn G.en X y E = G.en E := fun E hE => f2 E ((Mm.put_live hs G [] G.en).1.mem_iff.2 (List.mem_append_left _ hE))
  have ph2 : plainH (G2.L s) G2.en = plainH (G.L s) G.en := by rw [z.2.1, z.2.2]; exact plainH_congr farL
  have hX2 : X ∉ ensL (G2.L s) := by rw [z.2.1]; exact fun hm => nX ((Mm.put_live hs G [] G.en).1.mem_iff.2 (List.mem_append_left _ hm))
  have hl2 : (ensL (G2.L s)).length ≤ 5000 := by rw [z.2.1]; have := few_side (G := G) hs; omega
  -- entries[number] = copy
  obtain ⟨w2, r1, r2, r3⟩ := put_pt (n := y.n) (E := X) (p2.below ((Below.refl _ w1).drew)) (by simp [prs]; omega) hn (by rw [prs_fst]; exact hnew)
  have e2 : EnC w2 X y false pE := (show EnC w1.drew X y false pE from Cells.drew e1).kept r3.kept (by show ¬ O1 X = q + 6; rw [o1]; exact col5)
  have o2 := o1
  have st2 : Step (colB q) O w O1 w2 := (st1.trans (Step.of_below ((Below.refl _ w1).drew) (colB q))).trans (r3.B (by omega) (by omega))
  obtain ⟨d3, k3⟩ := stay0 st1 c3 o3
  obtain ⟨d5, k5⟩ := stay0 st1 c5 o5
  obtain ⟨d3', k3'⟩ := stay0 st2 c3 o3
  obtain ⟨d5', k5'⟩ := stay0 st2 c5 o5
  -- add
  obtain ⟨w3, hw3⟩ : ∃ w3, w3 = w2.drew := ⟨_, rfl⟩
  have b3 : Below w2.heap.size w2 w3 := by rw [hw3]; exact (Below.refl _ w2).drew
  have ad := add_ptp (r2.below b3) hs (by rw [ph2]; exact hsh) hl2 hX2 (by rw [en2]; exact Cells.below e2 b3 (Cells.lt e2)) o2
  have LV : G2.live.Perm G.live := lv.2.trans lv.1.symm
  have PRS : prs G2.en G.live = prs G.en G.live := prs_congr (fun E hE => by rw [z.2.2, f2 E hE])
  have MAP : G.live.map G2.en = G.live.map G.en := List.map_congr_left (fun E hE => by rw [z.2.2, f2 E hE])
  have fin : ∀ e w', AddedP O1 q w3 b G2 nums last [] ((y.n, X) :: prs G.en G.live) s X e w' → e = .returned (.tuple #[]) ∧ ForkedP O q w b G nums last s y (.returned (.bool true)) w' := by
    rintro e w' ⟨rfl, O4, ls4, p4, a4, l4, s4⟩
    obtain ⟨y1, y2, y3⟩ := Mm.put_same hs G2 ls4 G2.en (fun _ _ => rfl) (fun _ _ => rfl)
    have lv4 := Mm.put_live hs G2 ls4 G2.en
    have PL4 : (G2.put s ls4 G2.en).live.Perm (X :: G.live) := lv4.2.trans ((l4.append_right _).trans ((lv4.1.symm.cons X).trans (LV.cons X)))
    obtain ⟨G4, hG4⟩ : ∃ G4, G4 = G2.put s ls4 G2.en := ⟨_, rfl⟩
    rw [← hG4] at p4 y1 y2 y3 PL4
    refine ⟨rfl, rfl, O4, G4, p4.perm ?_, ?_, v2.trans y1, ?_, ((st2.trans (Step.of_below b3 (colB q))).trans (s4.B hcs.1 hcs.2))⟩
    · refine List.Perm.trans ?_ (prs_perm _ PL4.symm)
      rw [y3]
      show List.Perm _ (((G2.en X).n, X) :: prs G2.en G.live)
      rw [en2, PRS]
    · rw [y2, y3, a4, ph2, en2]
    · refine (PL4.map G4.en).trans ?_
      rw [y3]
      show List.Perm (G2.en X :: G.live.map G2.en) _
      rw [en2, MAP]
  have AD := hid (ad.mono fin)
  have R1 := hid r1
  have HW1 := hid hw1
  have HX := hid hX
  have HW3 := hid hw3
  obtain ⟨_, bm, _, _, hbl, _, _⟩ := p2.cells hs
  obtain ⟨bs, _, _, _, hbl2, _, _⟩ := r2.cells hs
  have x0 : w1.cell? ⟨X, 0, none⟩ = some (.int .i64 y.n) := by rw [Cells.cell e1]; rfl
  obtain ⟨k0, k1, k2, k3', k4, k5', k6, k7, k8, k9, k10, k11, k12⟩ : w.cell? ⟨E, 0, none⟩ = some (.int .i64 y.n) ∧ w.cell? ⟨E, 1, none⟩ = some (.int .i64 y.o.m) ∧ w.cell? ⟨E, 2, none⟩ = some (.int .i64 y.o.s) ∧ w.cell? ⟨E, 3, none⟩ = some (.int .i64 y.o.k) ∧ w.cell? ⟨E, 4, none⟩ = some (.int .i64 y.o.f) ∧ w.cell? ⟨E, 5, none⟩ = some (.int .i64 y.o.p) ∧ w.cell? ⟨E, 6, none⟩ = some (.int .i64 y.o.t) ∧ w.cell? ⟨E, 7, none⟩ = some (.int .i64 y.o.q) ∧ w.cell? ⟨E, 8, none⟩ = some (.int .i64 y.o.pk) ∧ w.cell? ⟨E, 9, none⟩ = some (.int .i64 y.l) ∧ w.cell? ⟨E, 10, none⟩ = some (.int .i64 y.h) ∧ w.cell? ⟨E, 11, none⟩ = some (.bool false) ∧ w.cell? ⟨E, 12, none⟩ = some (op pE) := by
    refine ⟨?_, ?_, ?_, ?_, ?_, ?_, ?_, ?_, ?_, ?_, ?_, ?_, ?_⟩ <;> (rw [Cells.cell eE]; rfl)
  obtain ⟨pv, hpv⟩ : ∃ pv, op pE = .pointer pv := by cases pE <;> exact ⟨_, rfl⟩
  rw [hpv] at HW1 k12
  have kl := Cells.lt eE
  have xl := Cells.lt e1
  have d3c : w1.cell? ⟨B3, 0, none⟩ = some (pt b) := by rw [d3.cell]; rfl
  have d3l := d3.lt
  have d3c2 : w2.cell? ⟨B3, 0, none⟩ = some (pt b) := by rw [d3'.cell]; rfl
  have d3l2 := d3'.lt
  have d5c2 : w2.cell? ⟨B5, 0, none⟩ = some (.int .i64 s) := by rw [d5'.cell]; rfl
  have d5l2 := d5'.lt
  have hs3 : 0 ≤ s ∧ s < 3 := by omega
  clear col1 col2 col3 col4 col5 hcs few hs hpv h hsh hn hnew c3 o3 c5 o5 hw1 b1 hX e1 p1 st1 hO1 o1 nX p2 v2 f2 hG2 z lv en2 farL ph2 hX2 hl2 r1 r2 r3 e2 o2 st2 d3 d5 d3' d5' hw3 b3 ad LV PRS MAP fin eE k3 k5
  generalize ForkedP O q w b G nums last s y = R at *
  go_enter Try.func66, Try.ntmps66
  go_upto_region 2 with fail
  rw [← HW1.out, ← HX.out]
  --CUT1
  clear k0 k1 k2 k3' k4 k5' k6 k7 k8 k9 k10 k11 k12 kl
  refine region_tail 6 (by kernel_rfl) (by kernel_rfl) ?_
  simp only [List.take_succ_cons, List.take_zero, List.drop_succ_cons, List.drop_zero]
  repeat still_step
  refine wpStill_nil ?_
  refine wpList_mapUpdate_run rfl (.tmp 12) (.tmp 14) (.tmp 5) _ rfl _ _ _ w2 rfl rfl rfl R1.out ?_
  clear d3c d3l bm x0 xl
  --CUT2
  go_upto_region 3 with fail
  --CUT3
  refine region_tail 6 (by kernel_rfl) (by kernel_rfl) ?_
  simp only [List.take_succ_cons, List.take_zero, List.drop_succ_cons, List.drop_zero]
  repeat still_step
  refine wpStill_nil ?_
  --CUT4
  go_wp2_with fail
  rw [← HW3.out]
  refine AD.out.mono ?_
  rintro e w4 ⟨rfl, r⟩
  have RR := hid r
  clear r
  go_wp2
  first | exact RR.out | (go_ret; exact RR.out)
end Go.Proofs.Ytdjhpldiifdifaa
namespace Go.Proofs.Ytdjhpldiifdifaa
set_option linter.unusedSimpArgs false
set_option linter.unusedVariables false
open Go.RowKit Go.Shelf

/-- A side is copied to a new board. -/
theorem forkSide_calls {O : Nat → Nat} {q : Nat} {w : World} {b c Hb : Nat} {G : Mm} {nums last s : Int} {ls : List Lv} {en : Nat → En} (hs : s = 1 ∨ s = 2) (old : HlfC O c w Hb s ls en) (hc : ¬ colB q c) (hok : HOk s nums (plainH ls en)) (hlen : ls.length ≤ 1000000)
    (hp : PtC O q w b G nums last [] (prs G.en G.live)) (h0 : plainH (G.L s) G.en = []) {D : List En} (hD : (G.live.map G.en).Perm D) (hnod : (numsL ((plainH ls en).all ++ D)).Nodup) (hfew : (plainH ls en).all.length + D.length ≤ 4096) (hnums : nums ≤ 1000000)
    {B3 B5 : Nat} (c3 : Cells w B3 #[pt b] 23) (o3 : O B3 = 0) (c5 : Cells w B5 #[.int .i64 s] 3) (o5 : O B5 = 0) :
    Calls Try.prog 50 #[pt Hb, .func (.func 66) #[] #[pt B3, pt B5]] w fun e w' => e = .returned (.tuple #[]) ∧
      ∃ O2 G2, PtC O2 q w' b G2 nums last [] (prs G2.en G2.live) ∧ plainH (G2.L s) G2.en = plainH ls en ∧ SameB s G G2 ∧ (G2.live.map G2.en).Perm ((plainH ls en).all ++ D) ∧ Step (colB q) O w O2 w' := by
  obtain ⟨all, hall⟩ : ∃ all, all = (plainH ls en).all := ⟨_, rfl⟩
  have hmap : all = (ensL ls).map en := by rw [hall, plainH_all]
  have hmem : ∀ e ∈ all, EnOk s nums e := fun e he => hok.mem e (by rw [← hall]; exact he)
  rw [← hall] at hnod hfew ⊢
  have hea := each_calls old hlen 66 #[pt B3, pt B5] (enters_of Try.func66 (by kernel_rfl) rfl)
    (fun k W => ∃ O2 G2, PtC O2 q W b G2 nums last [] (prs G2.en G2.live) ∧ plainH (G2.L s) G2.en = addAll s [] (all.take k) ∧ SameB s G G2 ∧ (G2.live.map G2.en).Perm (all.take k ++ D) ∧ Step (colB q) O w O2 W)
    (fun _ _ => False)
    ⟨O, G, hp, by rw [h0]; rfl, SameB.refl s G, hD, Step.of_below (Below.refl _ w) _⟩
    (fun k W hJ => by
      obtain ⟨O2, G2, _, _, _, _, st⟩ := hJ
      exact ⟨st.size, fun x hx hO => (st.old x hx (by rw [hO]; exact hc)).1⟩)
    (fun k E W hE hJ => by
      obtain ⟨O2, G2, p2, a2, v2, d2, st⟩ := hJ
      have hEm : E ∈ ensL ls := List.mem_of_getElem? hE
      obtain ⟨hOE, P, eE⟩ := old.entry hEm
      have eW : EnC W E (en E) false (some P) := ((st.old E eE.lt (by rw [hOE]; exact hc)).1).trans eE
      have hk : all[k]? = some (en E) := by rw [hmap, List.getElem?_map, hE]; rfl
      have htk : all.take (k + 1) = all.take k ++ [en E] := by
        obtain ⟨hk1, hk2⟩ := List.getElem?_eq_some_iff.1 hk
        rw [List.take_succ_eq_append_getElem hk1, hk2]
      have hlive : G2.live.length ≤ 4096 := by
        have h1 := d2.length_eq
        rw [List.length_map, List.length_append, List.length_take] at h1
        omega
      have hy : EnOk s nums (en E) := hmem _ (by rw [hmap]; exact List.mem_map.2 ⟨E, hEm, rfl⟩)
      have hyn := hy.n
      have hsh : HSh s (plainH (G2.L s) G2.en) := by
        rw [a2]
        exact (addAll_ok (all.take k) (HOk.nil s nums) (fun e he => hmem e (List.mem_of_mem_take he))).sh
      have hnew : (en E).n ∉ numsL (G2.live.map G2.en) := by
        intro hm
        have h1 := (numsL_perm d2).mem_iff.1 hm
        have h2 : (numsL (all.take k ++ [en E] ++ D)).Nodup := by
          have e1 : (all ++ D).Perm ((all.take (k + 1) ++ D) ++ all.drop (k + 1)) := by
            have : all = all.take (k + 1) ++ all.drop (k + 1) := (List.take_append_drop _ _).symm
            rw [List.append_assoc]
            conv => lhs; rw [this]
            rw [List.append_assoc]
            exact List.perm_append_comm.append_left _
          rw [htk] at e1
          have e2 := (numsL_perm e1).nodup_iff.1 hnod
          rw [numsL_append] at e2
          exact (List.nodup_append.1 e2).1
        rw [List.append_assoc] at h2
        have h3 : (numsL ([en E] ++ (all.take k ++ D))).Nodup := (numsL_perm (by
          rw [← List.append_assoc, ← List.append_assoc]
          exact List.perm_append_comm.append_right D)).nodup_iff.1 h2
        exact (List.nodup_cons.1 h3).1 h1
      obtain ⟨c3', o3'⟩ := stay0 st c3 o3
      obtain ⟨c5', o5'⟩ := stay0 st c5 o5
      refine (fork1_calls p2 hs hsh hlive eW (WalkArith.wf_i64 (by omega)) hnew c3' o3' c5' o5').mono ?_
      rintro e W' ⟨rfl, O3, G3, p3, a3, v3, d3, st3⟩
      refine .inl ⟨rfl, O3, G3, p3, ?_, v2.trans v3, ?_, st.trans st3⟩
      · rw [a3, a2, htk, addAll_snoc]
      · refine d3.trans ?_
        rw [htk, List.append_assoc]
        exact (d2.cons (en E)).trans List.perm_middle.symm)
  refine hea.mono ?_
  rintro e w' ⟨rfl, h | ⟨k, _, h⟩⟩
  · obtain ⟨O2, G2, p2, a2, v2, d2, st⟩ := h
    have hl : (ensL ls).length = all.length := by rw [hmap, List.length_map]
    rw [hl, List.take_length] at a2 d2
    refine ⟨rfl, O2, G2, p2, ?_, v2, d2, st⟩
    rw [a2, hall]
    exact addAll_same hok
  · exact h.elim
theorem PtC.setTop {O : Nat → Nat} {q : Nat} {w : World} {b : Nat} {G : Mm} {nums last : Int} {evs : List Ev} {m : List (Int × Nat)} (h : PtC O q w b G nums last evs m) (n l : Int) : PtC O q ((w.setCell ⟨b, 5, none⟩ (.int .i64 n)).setCell ⟨b, 6, none⟩ (.int .i64 l)) b G n l evs m ∧ Step (colB q) O w O ((w.setCell ⟨b, 5, none⟩ (.int .i64 n)).setCell ⟨b, 6, none⟩ (.int .i64 l)) := by
  obtain ⟨h1, s1⟩ := h.setNums n
  have st : Step (fun c => c = q + 3) O (w.setCell ⟨b, 5, none⟩ (.int .i64 n)) O ((w.setCell ⟨b, 5, none⟩ (.int .i64 n)).setCell ⟨b, 6, none⟩ (.int .i64 l)) := Step.set h.top.col 6 _
  exact ⟨⟨h1.top.setLast l, h1.buy.step st (by omega) (fun _ _ => rfl), h1.sell.step st (by omega) (fun _ _ => rfl), h1.map.step st (by omega), h1.wait.step st (by omega) (fun _ _ => rfl)⟩, (s1.B (by omega) (by omega)).trans (st.B (by omega) (by omega))⟩
/-- The new board: what is on it so far; V: what waits there; D: all. -/
structure FkB (O0 : Nat → Nat) (q : Nat) (w0 : World) (b : Nat) (H1 H2 : Half) (V D : List En) (nums last : Int) (B3 : Nat) (O : Nat → Nat) (w : World) (G : Mm) : Prop where
  pt : PtC O q w b G nums last [] (prs G.en G.live)
  buy : plainH G.lb G.en = H1
  sell : plainH G.ls G.en = H2
  wait : G.wt.map G.en = V
  all : (G.live.map G.en).Perm D
  st : Step (colB q) O0 w0 O w
  c3 : Cells w B3 #[.pointer (some ⟨b, 0, none⟩)] 23
  o3 : O B3 = 0
/-- Only new blocks. -/
theorem FkB.after {O0 : Nat → Nat} {q : Nat} {w0 : World} {b : Nat} {H1 H2 : Half} {V D : List En} {nums last : Int} {B3 : Nat} {O : Nat → Nat} {w w' : World} {G : Mm} (h : FkB O0 q w0 b H1 H2 V D nums last B3 O w G) (hb : Below w.heap.size w w') : FkB O0 q w0 b H1 H2 V D nums last B3 (grow O w 0) w' G := by
  have st : Step (fun _ => False) O w (grow O w 0) w' := ⟨hb.os, hb.tape, hb.output, hb.size, fun k hk _ => ⟨hb.block k hk, grow_old hk⟩, fun _ _ e => e.elim⟩
  exact ⟨h.pt.step st (fun _ _ _ => not_false), h.buy, h.sell, h.wait, h.all, h.st.trans (st.wider (fun _ e => e.elim)), h.c3.below hb h.c3.lt, by rw [grow_old h.c3.lt]; exact h.o3⟩

/-- How far the sides are. -/
def FkL (O0 : Nat → Nat) (q : Nat) (w0 : World) (b : Nat) (SB SS : Half) (nums last : Int) (B3 i : Nat) (O : Nat → Nat) (w : World) (G : Mm) : Prop :=
  (i = 0 ∧ FkB O0 q w0 b [] [] [] [] nums last B3 O w G) ∨ (i = 1 ∧ FkB O0 q w0 b SB [] [] SB.all nums last B3 O w G) ∨ (i = 2 ∧ FkB O0 q w0 b SB SS [] (SS.all ++ SB.all) nums last B3 O w G)
theorem FkL.after {O0 : Nat → Nat} {q : Nat} {w0 : World} {b : Nat} {SB SS : Half} {nums last : Int} {B3 i : Nat} {O : Nat → Nat} {w w' : World} {G : Mm} (h : FkL O0 q w0 b SB SS nums last B3 i O w G) (hb : Below w.heap.size w w') : FkL O0 q w0 b SB SS nums last B3 i (grow O w 0) w' G := by
  rcases h with ⟨e, h⟩ | ⟨e, h⟩ | ⟨e, h⟩
  · exact .inl ⟨e, h.after hb⟩
  · exact .inr (.inl ⟨e, h.after hb⟩)
  · exact .inr (.inr ⟨e, h.after hb⟩)
/-- What all of them have. -/
theorem FkL.base {O0 : Nat → Nat} {q : Nat} {w0 : World} {b : Nat} {SB SS : Half} {nums last : Int} {B3 i : Nat} {O : Nat → Nat} {w : World} {G : Mm} (h : FkL O0 q w0 b SB SS nums last B3 i O w G) : PtC O q w b G nums last [] (prs G.en G.live) ∧ Step (colB q) O0 w0 O w ∧ Cells w B3 #[pt b] 23 ∧ O B3 = 0 := by
  rcases h with ⟨_, h⟩ | ⟨_, h⟩ | ⟨_, h⟩ <;> exact ⟨h.pt, h.st, h.c3, h.o3⟩
theorem once_sides {S : Bd} (hS : BdOk S) : (numsL (S.buy.all ++ [])).Nodup ∧ (numsL (S.sell.all ++ S.buy.all)).Nodup ∧ (numsL (S.wait ++ (S.sell.all ++ S.buy.all))).Nodup := by
  have h := hS.once
  unfold Bd.live at h
  have p1 : (S.buy.all ++ (S.sell.all ++ S.wait)).Perm (S.wait ++ (S.sell.all ++ S.buy.all)) := by
    refine List.perm_append_comm.trans ?_
    refine (List.perm_append_comm.append_right S.buy.all).trans ?_
    rw [List.append_assoc]
  have h3 := (numsL_perm p1).nodup_iff.1 h
  have h2 : (numsL (S.sell.all ++ S.buy.all)).Nodup := by
    rw [numsL_append] at h3
    exact (List.nodup_append.1 h3).2.1
  refine ⟨?_, h2, h3⟩
  rw [List.append_nil]
  rw [numsL_append] at h2
  exact (List.nodup_append.1 h2).2.1
/-- A side may come in. -/
theorem FkL.pre {O0 : Nat → Nat} {q q2 : Nat} {w0 : World} {b b0 : Nat} {G0 : Mm} {nums last : Int} {B3 i : Nat} {O O2 : Nat → Nat} {w w2 : World} {G : Mm} (h : FkL O0 q w0 b (plainH G0.lb G0.en) (plainH G0.ls G0.en) nums last B3 i O w G) (bd : BdC O2 q2 w2 b0 G0 nums last []) (hi : i < 2) {s : Int} (hs : s = (i : Int) + 1) :
    ∃ D, plainH (G.L s) G.en = [] ∧ (G.live.map G.en).Perm D ∧ (numsL ((plainH (G0.L s) G0.en).all ++ D)).Nodup ∧ (plainH (G0.L s) G0.en).all.length + D.length ≤ 4096 ∧
      ∀ {O3 : Nat → Nat} {w3 : World} {G3 : Mm}, PtC O3 q w3 b G3 nums last [] (prs G3.en G3.live) → plainH (G3.L s) G3.en = plainH (G0.L s) G0.en → SameB s G G3 → (G3.live.map G3.en).Perm ((plainH (G0.L s) G0.en).all ++ D) → Step (colB q) O w O3 w3 → FkL O0 q w0 b (plainH G0.lb G0.en) (plainH G0.ls G0.en) nums last B3 (i + 1) O3 w3 G3 := by
  obtain ⟨n1, n2, n3⟩ := once_sides bd.ok
  have hfew := bd.few
  have hlen : G0.live.length = (plainH G0.lb G0.en).all.length + ((plainH G0.ls G0.en).all.length + G0.wt.length) := by
    unfold Mm.live
    rw [plainH_all, plainH_all, List.length_map, List.length_map]
    simp
  rcases h with ⟨e, h⟩ | ⟨e, h⟩ | ⟨e, h⟩
  · subst e
    obtain rfl : s = 1 := by simpa using hs
    refine ⟨[], h.buy, h.all, n1, by show (plainH G0.lb G0.en).all.length + 0 ≤ 4096; omega, fun {O3 w3 G3} p a v d st => .inr (.inl ⟨rfl, p, a, ?_, ?_, ?_, h.st.trans st, (stay0 st h.c3 h.o3).1, (stay0 st h.c3 h.o3).2⟩)⟩
    · exact v.plainF.trans h.sell
    · exact v.plainW.trans h.wait
    · have d' : (G3.live.map G3.en).Perm ((plainH G0.lb G0.en).all ++ []) := d
      rwa [List.append_nil] at d'
  · subst e
    obtain rfl : s = 2 := by simpa using hs
    refine ⟨_, h.sell, h.all, n2, by show (plainH G0.ls G0.en).all.length + (plainH G0.lb G0.en).all.length ≤ 4096; omega, fun {O3 w3 G3} p a v d st => .inr (.inr ⟨rfl, p, ?_, a, ?_, d, h.st.trans st, (stay0 st h.c3 h.o3).1, (stay0 st h.c3 h.o3).2⟩)⟩
    · exact v.plainF.trans h.buy
    · exact v.plainW.trans h.wait
  · omega
/-- A waiting entry's copy comes in: behind the map's and the list's changes. w1: with the copy; w3: behind the map's change; w4: with append's block; w5: behind append. -/
theorem fkb_waits {O0 : Nat → Nat} {q : Nat} {w0 : World} {b : Nat} {SB SS : Half} {V D : List En} {nums last : Int} {B3 : Nat} {O : Nat → Nat} {w : World} {G : Mm} (h : FkB O0 q w0 b SB SS V D nums last B3 O w G) {y : En} (hn : (Lit.int .i64 y.n).wf = true) (hnew : y.n ∉ numsL D) (hfew : D.length ≤ 4096) (w1 : World)
    (hw1 : w1 = w.alloc (.cells #[.int .i64 y.n, .int .i64 y.o.m, .int .i64 y.o.s, .int .i64 y.o.k, .int .i64 y.o.f, .int .i64 y.o.p, .int .i64 y.o.t, .int .i64 y.o.q, .int .i64 y.o.pk, .int .i64 y.l, .int .i64 y.h, .bool true, .pointer none] 99)) :
    (w1.cell? ⟨B3, 0, none⟩ = some (pt b) ∧ B3 < w1.heap.size ∧ w1.cell? ⟨b, 3, none⟩ = some (.map (some G.mb)) ∧ b < w1.heap.size ∧ w1.cell? ⟨w.heap.size, 0, none⟩ = some (.int .i64 y.n) ∧ w.heap.size < w1.heap.size) ∧
    ∃ w3, (Instr.mapUpdate 88 (.map (some G.mb)) (.int .i64 y.n) (pt w.heap.size)).run Try.prog w1.drew = .ok () w3 ∧
    (w3.cell? ⟨B3, 0, none⟩ = some (pt b) ∧ B3 < w3.heap.size ∧ b < w3.heap.size) ∧
    ∃ vw, w3.cell? ⟨b, 4, none⟩ = some vw ∧ (∃ p n c, vw = .slice p n c) ∧
    ∃ v' w5, (Builtin.append_ #[89, 89] 89 #[vw, .slice (some ⟨w3.heap.size, 0, none⟩) 1 1]).run Try.prog (w3.drew.alloc (.cells #[pt w.heap.size] 92)) = .ok v' w5 ∧ (∃ p n c, v' = .slice p n c) ∧
    ((∃ u, w5.cell? ⟨b, 4, none⟩ = some u) ∧ w5.frozen? ⟨b, 4, none⟩ = false ∧ b < w5.heap.size ∧ w5.cell? ⟨B3, 0, none⟩ = some (pt b) ∧ B3 < w5.heap.size) ∧
    ∃ O', FkB O0 q w0 b SB SS (V ++ [y]) (y :: D) nums last B3 O' (w5.setCell ⟨b, 4, none⟩ v') { G with wt := G.wt ++ [w.heap.size], en := setEn G.en w.heap.size y } ∧ Step (colB q) O w O' (w5.setCell ⟨b, 4, none⟩ v') := by
  have b1 : Below w.heap.size w w1 := by rw [hw1]; exact (Below.refl _ _).alloc (Nat.le_refl _) _
  obtain ⟨X, hX⟩ : ∃ X, X = w.heap.size := ⟨_, rfl⟩
  have e1 : EnC w1 X y true none := by rw [hw1, hX]; exact Cells.new _ _ _
  obtain ⟨p1, st1⟩ := h.pt.fresh b1 (q + 4)
  obtain ⟨O1, hO1⟩ : ∃ O1, O1 = grow O w (q + 4) := ⟨_, rfl⟩
  have o1 : O1 X = q + 4 := by rw [hO1]; exact grow_new (by omega)
  rw [← hO1] at p1 st1
  have hlive : G.live.length = D.length := by
    have := h.all.length_eq
    rwa [List.length_map] at this
  have hnew' : y.n ∉ numsL (G.live.map G.en) := fun hm => hnew ((numsL_perm h.all).mem_iff.1 hm)
  have nX : X ∉ G.live := fun hm => by have := h.pt.live_lt X hm; omega
  have nW : X ∉ G.wt := fun hm => nX ((Mm.put_live (s := 1) (.inl rfl) G [] G.en).1.mem_iff.2 (List.mem_append_right _ (List.mem_append_right _ hm)))
  have nS : ∀ s, s = 1 ∨ s = 2 → ∀ E ∈ ensL (G.L s), E ≠ X := fun s hs E hE e => nX (by rw [← e]; exact (Mm.put_live hs G [] G.en).1.mem_iff.2 (List.mem_append_left _ hE))
  have bd1 : Below w1.heap.size w1 w1.drew := (Below.refl _ w1).drew
  obtain ⟨w3, r1, r2, r3⟩ := put_pt (n := y.n) (E := X) (p1.below bd1) (by simp [prs]; omega) hn (by rw [prs_fst]; exact hnew')
  have x1 : HdC O1 (q + 4) w1 X y true := ⟨e1, o1⟩
  have x3 := (x1.below bd1).step r3 (by omega)
  have st3 : Step (colB q) O w O1 w3 := (st1.trans (Step.of_below bd1 (colB q))).trans (r3.B (by omega) (by omega))
  obtain ⟨c1, _⟩ := stay0 st1 h.c3 h.o3
  obtain ⟨c33, o33⟩ := stay0 st3 h.c3 h.o3
  obtain ⟨_, bm, _, _, hbl, _, _⟩ := p1.cells (s := 1) (.inl rfl)
  obtain ⟨w4, hw4⟩ : ∃ w4, w4 = w3.drew.alloc (.cells #[pt X] 92) := ⟨_, rfl⟩
  have b4 : Below w3.heap.size w3 w4 := by rw [hw4]; exact ((Below.refl _ w3).drew).alloc (Nat.le_refl _) _
  have p4 := r2.below b4
  have x4 := x3.below b4
  have cB : Cells w4 w3.heap.size #[pt X] 92 := by rw [hw4]; exact Cells.new _ _ _
  obtain ⟨vw3, c43, ow3, _, hbl3, _⟩ := r2.waits
  obtain ⟨vw, c4, hown, hcol, hbl4, _⟩ := p4.waits
  have hvw : vw3 = vw := by
    have e : w4.cell? ⟨b, 4, none⟩ = w3.cell? ⟨b, 4, none⟩ := b4.cell (p := ⟨b, 4, none⟩) hbl3
    rw [e, c43] at c4
    injection c4
  subst hvw
  have hwl : G.wt.length ≤ 1000000 := by
    have : G.wt.length ≤ G.live.length := by simp [Mm.live]; omega
    omega
  obtain ⟨v', w5, q1, q2, q3, q4⟩ := ent_append hown hwl X cB 89
  obtain ⟨O8, p8, s8, x8⟩ := p4.addWait c4 x4 nW q2 q3 q4 nS
  obtain ⟨⟨u5, d5⟩, d6, d7⟩ := p4.keptTop c4 q3
  have c35 : Cells w5 B3 #[pt b] 23 := (c33.below b4 c33.lt).kept q3 (fun e => by
    have := hcol B3 e.symm
    omega)
  obtain ⟨pl, pp, pe⟩ := G.addWait_plain (x := y) nW nS nums last
  obtain ⟨pf, cf, hf, _⟩ := hown.form
  obtain ⟨pf', cf', hf', _⟩ := q2.form
  have st8 : Step (colB q) O w O8 (w5.setCell ⟨b, 4, none⟩ v') := (st3.trans (Step.of_below b4 (colB q))).trans (s8.B (by omega) (by omega))
  subst hX
  refine ⟨⟨by rw [c1.cell]; rfl, c1.lt, bm, hbl, by rw [Cells.cell e1]; rfl, e1.lt⟩, w3, r1, ⟨by rw [c33.cell]; rfl, c33.lt, hbl3⟩, vw3, c43, ⟨_, _, _, hf⟩, v', w5, by rw [← hw4]; exact q1, ⟨_, _, _, hf'⟩, ⟨⟨u5, d5⟩, d6, d7, by rw [c35.cell]; rfl, c35.lt⟩, O8, ⟨?_, ?_, ?_, ?_, ?_, h.st.trans st8, (stay0 st8 h.c3 h.o3).1, (stay0 st8 h.c3 h.o3).2⟩, st8⟩
  · refine p8.perm ?_
    refine List.Perm.trans ?_ (prs_perm _ pp.symm)
    show List.Perm _ (((setEn G.en w.heap.size y w.heap.size).n, w.heap.size) :: prs (setEn G.en w.heap.size y) G.live)
    rw [setEn_self]
    have := prs_congr (en := G.en) (en' := setEn G.en w.heap.size y) (l := G.live) (fun E hE => by rw [pe E hE])
    rw [this]
  · have := congrArg Bd.buy pl
    exact this.trans h.buy
  · have := congrArg Bd.sell pl
    exact this.trans h.sell
  · have := congrArg Bd.wait pl
    refine this.trans ?_
    show G.wt.map G.en ++ [y] = V ++ [y]
    rw [h.wait]
  · refine (pp.map _).trans ?_
    show List.Perm (setEn G.en w.heap.size y w.heap.size :: G.live.map (setEn G.en w.heap.size y)) _
    rw [setEn_self, List.map_congr_left pe]
    exact h.all.cons y
end Go.Proofs.Ytdjhpldiifdifaa
