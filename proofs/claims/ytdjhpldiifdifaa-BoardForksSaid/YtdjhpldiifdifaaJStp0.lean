/- A waiting entry is taken in hand: memory. No function of the program in sight. board.stops. -/
import Derived.Test.YtdjhpldiifdifaaJSlc
namespace Go.Proofs.Ytdjhpldiifdifaa
set_option linter.unusedSimpArgs false
set_option linter.unusedVariables false
open Go.RowKit Go.Shelf

/-- The board without waiting entries but these. -/
def Mm.wait (G : Mm) (l : List Nat) : Mm := { G with wt := l }
theorem PtC.waits {O : Nat → Nat} {q : Nat} {w : World} {b : Nat} {G : Mm} {nums last : Int} {evs : List Ev} {m : List (Int × Nat)} (h : PtC O q w b G nums last evs m) : ∃ vw, w.cell? ⟨b, 4, none⟩ = some vw ∧ OwnE encPt 1 92 0 w vw G.wt ∧ (∀ x, vw.ownBlock = some x → O x = q + 3) ∧ b < w.heap.size ∧ w.frozen? ⟨b, 4, none⟩ = false := by
  obtain ⟨vw, ve, h1, h2, _, h4, _⟩ := h.top.cell
  exact ⟨vw, by rw [h1.cell]; rfl, h2, h4, h1.lt, h1.frozen 4⟩
/-- waiting = Delete(waiting, i, i + 1) -/
theorem PtC.setWait {O : Nat → Nat} {q : Nat} {w w1 : World} {b : Nat} {G : Mm} {nums last : Int} {evs : List Ev} {m : List (Int × Nat)} (h : PtC O q w b G nums last evs m) {vw v' : Value} (hc : w.cell? ⟨b, 4, none⟩ = some vw) {l : List Nat} (ho : OwnE encPt 1 92 0 w1 v' l) (hk : Kept (fun k => some k = vw.ownBlock) w w1) (hb : v'.ownBlock = vw.ownBlock) (hl : ∀ E ∈ l, E ∈ G.wt) (hn : l.Nodup) :
    PtC O q (w1.setCell ⟨b, 4, none⟩ v') b (G.wait l) nums last evs m ∧ Step (fun c => c = q + 3) O w O (w1.setCell ⟨b, 4, none⟩ v') ∧ ∀ E ∈ G.wt, HdC O (q + 4) (w1.setCell ⟨b, 4, none⟩ v') E (G.en E) true := by
  obtain ⟨vw', ve, h1, h2, h3, h4, h5⟩ := h.top.cell
  have e : vw' = vw := by
    rw [h1.cell] at hc
    injection hc
  subst e
  have hbv : ∀ g, vw'.ownBlock = some g → g ≠ b := fun g hg => by obtain ⟨cs, hcs⟩ := own_lt h2 hg; exact hcs.ne h1 (by decide)
  have hB1 := h1.kept hk (fun e => hbv b e.symm rfl)
  have hve : OwnE encEv 5 40 0 w1 ve evs := OwnE.kept h3 hk (fun g hg e => by
    obtain ⟨cs, hcs⟩ := own_lt h3 hg
    obtain ⟨cs', hcs'⟩ := own_lt h2 e.symm
    exact hcs.ne hcs' (by decide) rfl)
  have st1 : Step (fun c => c = q + 3) O w O w1 := Step.of_kept0 hk (fun k _ e => h4 k e.symm)
  have st2 : Step (fun c => c = q + 3) O w1 O (w1.setCell ⟨b, 4, none⟩ v') := Step.set h.top.col 4 v'
  have st := st1.trans st2
  refine ⟨⟨⟨⟨v', ve, hB1.set 4 v', ho.set hB1 (by decide) 4 v', hve.set hB1 (by decide) 4 v', fun x hx => ?_, h5⟩, h.top.col⟩, h.buy.step st (by omega) (fun _ _ => rfl), h.sell.step st (by omega) (fun _ _ => rfl), h.map.step st (by omega), ?_⟩, st, fun E hE => ?_⟩
  · rw [hb] at hx; exact h4 x hx
  · have wt := h.wait.step st (by omega) (fun _ _ => rfl)
    exact ⟨fun E hE => wt.ent E (hl E hE), hn⟩
  · have wt := h.wait.step st (by omega) (fun _ _ => rfl)
    obtain ⟨w1, w2⟩ := wt.ent E hE
    exact ⟨w2, w1⟩
theorem PtC.keptTop {O : Nat → Nat} {q : Nat} {w w1 : World} {b : Nat} {G : Mm} {nums last : Int} {evs : List Ev} {m : List (Int × Nat)} (h : PtC O q w b G nums last evs m) {vw : Value} (hc : w.cell? ⟨b, 4, none⟩ = some vw) (hk : Kept (fun k => some k = vw.ownBlock) w w1) : (∃ u, w1.cell? ⟨b, 4, none⟩ = some u) ∧ w1.frozen? ⟨b, 4, none⟩ = false ∧ b < w1.heap.size := by
  obtain ⟨vw', ve, h1, h2, h3, h4, h5⟩ := h.top.cell
  have e : vw' = vw := by
    rw [h1.cell] at hc
    injection hc
  subst e
  have hbv : ∀ g, vw'.ownBlock = some g → g ≠ b := fun g hg => by obtain ⟨cs, hcs⟩ := own_lt h2 hg; exact hcs.ne h1 (by decide)
  have hB1 := h1.kept hk (fun e => hbv b e.symm rfl)
  exact ⟨⟨_, by rw [hB1.cell]; rfl⟩, hB1.frozen 4, hB1.lt⟩
theorem EnC.flag {w : World} {X : Nat} {x : En} {wx : Bool} {px : Option Nat} (h : EnC w X x wx px) : w.cell? ⟨X, 11, none⟩ = some (.bool wx) ∧ w.frozen? ⟨X, 11, none⟩ = false := ⟨by rw [Cells.cell h]; rfl, Cells.frozen h 11⟩
/-- waits = false -/
theorem PtC.grab {O : Nat → Nat} {q : Nat} {w : World} {b : Nat} {G : Mm} {nums last : Int} {evs : List Ev} {m : List (Int × Nat)} (h : PtC O q w b G nums last evs m) {E : Nat} {e : En} (hE : HdC O (q + 4) w E e true) (hn : E ∉ G.wt) :
    PtC (paint O E (q + 5)) q (w.setCell ⟨E, 11, none⟩ (.bool false)) b G nums last evs m ∧ HdC (paint O E (q + 5)) (q + 5) (w.setCell ⟨E, 11, none⟩ (.bool false)) E e false ∧ Step (colB q) O w (paint O E (q + 5)) (w.setCell ⟨E, 11, none⟩ (.bool false)) := by
  have hc := hE.col
  have hk : Kept (fun k => k = E) w (w.setCell ⟨E, 11, none⟩ (.bool false)) := (Kept.refl (fun k => k = E) w).set (C := E) rfl 11 _
  have s1 : Step (fun c => c = q + 4 ∨ c = q + 5) O w (paint O E (q + 5)) w := Step.paint O w (.inl hc) (.inl (.inr rfl))
  have s2 : Step (fun c => c = q + 4 ∨ c = q + 5) (paint O E (q + 5)) w (paint O E (q + 5)) (w.setCell ⟨E, 11, none⟩ (.bool false)) := by
    refine ⟨hk.os, hk.tape, hk.output, hk.size, fun k hkk hn => ⟨hk.block k hkk (fun e => hn (.inr (by rw [e, paint_self]))), rfl⟩, fun k _ h => .inl h⟩
  have st := s1.trans s2
  refine ⟨⟨h.top.step st (by omega), h.buy.step st (by omega) (fun _ _ => rfl), h.sell.step st (by omega) (fun _ _ => rfl), h.map.step st (by omega), ⟨fun D hD => ?_, h.wait.nod⟩⟩, ⟨?_, paint_self _ _ _⟩, st.wider (fun c hc => ?_)⟩
  · obtain ⟨d1, d2⟩ := h.wait.ent D hD
    have hne : D ≠ E := fun e => hn (by rw [← e]; exact hD)
    exact ⟨by rw [paint_far O hne]; exact d1, d2.kept hk hne⟩
  · exact Cells.set hE.ent 11 (.bool false)
  · rcases hc with rfl | rfl <;> exact ⟨by omega, by omega⟩
theorem PtC.live_col {O : Nat → Nat} {q : Nat} {w : World} {b : Nat} {G : Mm} {nums last : Int} {evs : List Ev} {m : List (Int × Nat)} (h : PtC O q w b G nums last evs m) {E : Nat} (hE : E ∈ G.live) : colB q (O E) := by
  have := (Mm.put_live (s := 1) (.inl rfl) G [] G.en).1.mem_iff.1 hE
  rcases List.mem_append.1 this with h1 | h1
  · rw [((h.side (.inl rfl)).entry h1).1]; exact colS_cases q (.inl rfl)
  · rcases List.mem_append.1 h1 with h1 | h1
    · rw [((h.side (.inr rfl)).entry (en := G.en) h1).1]; exact colS_cases q (.inr rfl)
    · rw [(h.wait.ent E h1).1]; exact ⟨by omega, by omega⟩
theorem PtC.live_ne {O : Nat → Nat} {q : Nat} {w : World} {b : Nat} {G : Mm} {nums last : Int} {evs : List Ev} {m : List (Int × Nat)} (h : PtC O q w b G nums last evs m) {E : Nat} (hE : E ∈ G.live) : O E ≠ q + 3 := by
  have := (Mm.put_live (s := 1) (.inl rfl) G [] G.en).1.mem_iff.1 hE
  rcases List.mem_append.1 this with h1 | h1
  · rw [((h.side (.inl rfl)).entry h1).1]; exact (colS_ne q (.inl rfl)).2.1
  · rcases List.mem_append.1 h1 with h1 | h1
    · rw [((h.side (.inr rfl)).entry (en := G.en) h1).1]; exact (colS_ne q (.inr rfl)).2.1
    · rw [(h.wait.ent E h1).1]; omega
theorem Mm.wait_live (G : Mm) {pre post : List Nat} {E : Nat} (h : G.wt = pre ++ E :: post) : G.live.Perm (E :: (G.wait (pre ++ post)).live) := by
  show (ensL G.lb ++ (ensL G.ls ++ G.wt)).Perm (E :: (ensL G.lb ++ (ensL G.ls ++ (pre ++ post))))
  rw [h]
  exact (((List.perm_middle).append_left _).trans List.perm_middle).append_left _ |>.trans List.perm_middle
theorem Mm.wait_bd (G : Mm) (l : List Nat) (nums last : Int) : (G.wait l).bd nums last = { G.bd nums last with wait := l.map G.en } := rfl
theorem map_split {l : List Nat} {en : Nat → En} {pre post : List En} {x : En} (h : l.map en = pre ++ x :: post) : ∃ p E r, l = p ++ E :: r ∧ p.map en = pre ∧ en E = x ∧ r.map en = post := by
  obtain ⟨p, r', h1, h2, h3⟩ := List.map_eq_append_iff.1 h
  obtain ⟨E, r, h4, h5, h6⟩ := List.map_eq_cons_iff.1 h3
  exact ⟨p, E, r, by rw [h1, h4], h2, h5, h6⟩
end Go.Proofs.Ytdjhpldiifdifaa
namespace Go.Proofs.Ytdjhpldiifdifaa
set_option linter.unusedSimpArgs false
set_option linter.unusedVariables false
open Go.RowKit Go.Shelf
attribute [local go_sem] Oper.semAt_some
attribute [local go_sem ↓] Go.wp_at_zero Go.wp_at_succ

/-- What stops comes to. -/
def StopP (O : Nat → Nat) (q : Nat) (w : World) (b : Nat) (G : Mm) (nums last : Int) (evs : List Ev) (e : Ending) (w' : World) : Prop :=
  e = .returned (.tuple #[]) ∧ ∃ O' G' last', BdC O' q w' b G' nums last' (stopsF G.wt.length (G.bd nums last) evs).2 ∧ G'.bd nums last' = (stopsF G.wt.length (G.bd nums last) evs).1 ∧ G'.live.length ≤ G.live.length ∧ Step (colB q) O w O' w' ∧ ∀ D n, Trk O w G D n → Trk O' w' G' D n
/-- Waiting entries come in. -/
structure StpC (O0 O : Nat → Nat) (q : Nat) (w0 w : World) (b : Nat) (G0 G : Mm) (nums last0 last : Int) (evs0 evs : List Ev) (k : Nat) : Prop where
  bd : BdC O q w b G nums last evs
  len : G.wt.length = k
  eq : stopsF k (G.bd nums last) evs = stopsF G0.wt.length (G0.bd nums last0) evs0
  ev : ∀ e ∈ evs, EvOk nums e
  size : evs.length + sizeL (G.bd nums last).live + 2 * k ≤ 2999999999980
  few : G.live.length ≤ G0.live.length
  step : Step (colB q) O0 w0 O w
  trk : ∀ D n, Trk O0 w0 G0 D n → Trk O w G D n
theorem idx_due {G : Mm} {nums last : Int} : (G.bd nums last).wait.findIdx (dueB last) = G.wt.findIdx (fun E => dueB last (G.en E)) := by
  show (G.wt.map G.en).findIdx (dueB last) = _
  rw [List.findIdx_map]
  rfl

theorem stopsF_none {S : Bd} {evs : List Ev} (h : S.wait.find? (dueB S.last) = none) : ∀ k, stopsF k S evs = (S, evs)
  | 0 => rfl
  | k + 1 => by unfold stopsF; rw [h]
theorem stopsF_some {S : Bd} {evs : List Ev} {x : En} (h : S.wait.find? (dueB S.last) = some x) {pre post : List En} (he : S.wait.eraseIdx (S.wait.findIdx (dueB S.last)) = pre ++ post) (k : Nat) : stopsF (k + 1) S evs = stopsF k (comeF { S with wait := pre ++ post } x.n x.o x.l (evs ++ [⟨7, x.n, 0, 0, x.l⟩])).1 (comeF { S with wait := pre ++ post } x.n x.o x.l (evs ++ [⟨7, x.n, 0, 0, x.l⟩])).2 := by
  rw [stopsF, h, he]

set_option maxRecDepth 100000 in
set_option maxHeartbeats 8000000 in
theorem stops_calls {O : Nat → Nat} {q : Nat} {w : World} {b : Nat} {G : Mm} {nums last : Int} {evs : List Ev} (h : BdC O q w b G nums last evs) (hev : ∀ e ∈ evs, EvOk nums e) (hlen : evs.length + sizeL (G.bd nums last).live + 2 * G.wt.length ≤ 2999999999980) :
    Calls Try.prog 46 #[pt b] w (StopP O q w b G nums last evs) := by
  have S0 := hid (⟨h, rfl, rfl, hev, hlen, Nat.le_refl _, Step.refl _ _ _, fun _ _ h => h⟩ : StpC O O q w w b G G nums last last evs evs G.wt.length)
  have few := h.few
  clear h hev hlen
  go_enter Try.func46, Try.ntmps46
  go_wp2_with fail
  go_loopg [2, 3] G.wt.length (fun k s2 s3 wr => ∃ K : Nat, K = k ∧ ∃ O' G' last' evs', StpC O O' q w wr b G G' nums last last' evs evs' K)
  case atStart => exact ⟨_, rfl, O, G, last, evs, S0.out⟩
  case round =>
    obtain ⟨k, rfl, O1, G1, l1, ev1, hs⟩ := hrel
    have H := hid hs
    clear hs S0
    obtain ⟨vw, c4, hown, hcol, hbl, f4⟩ := H.out.bd.parts.waits
    have hwl : G1.wt.length ≤ 1000000 := by have := H.out.bd.few; have : G1.wt.length ≤ G1.live.length := by { simp [Mm.live]; omega }; omega
    have due := idxF_calls hown hwl 79 #[pt b] #[] (enters_of Try.func79 (by kernel_rfl) rfl) (fun E => dueB l1 (G1.en E)) (fun E hE m => by
      have e : ((#[pt b] : Array Value).push (pt E) ++ #[]) = #[pt b, pt E] := by simp
      rw [e]
      obtain ⟨_, eE⟩ := H.out.bd.wait.ent E hE
      obtain ⟨_, _, _, _, g6⟩ := H.out.bd.top.half
      exact isDue_calls (b := b) (w := wr.drewN m) g6 hbl (EnC.kept eE (X := fun _ => False) ((Kept.refl _ _).drewN m) not_false))
    have DUE := hid due
    have HOWN := hid hown
    obtain ⟨p, cap, bw, rfl, hp, hrow⟩ := ptRow hown
    have HP := hid hp
    have HROW := hid hrow
    clear due hown hp hrow
    go_wp2_with fail
    refine DUE.out.mono ?_
    rintro e w2 ⟨rfl, m, hw2⟩
    have b2 : Below wr.heap.size wr w2 := by rw [hw2]; exact Below.of_drewN wr m
    have H2 := hid (H.out.bd.parts.below b2)
    have S2 := hid (H.out.step.trans (Step.of_below b2 (colB q)))
    have T2 := hid (show ∀ D n, Trk O w G D n → Trk O1 w2 G1 D n from fun D n hD => Trk.same (Step.of_below b2 (colB q)) (H.out.trk D n hD))
    have B2 := hid b2
    have c42 : w2.cell? ⟨b, 4, none⟩ = some (.slice p G1.wt.length cap) := by rw [hw2]; exact c4
    have hown2 : OwnE encPt 1 92 0 w2 (.slice p G1.wt.length cap) G1.wt := by rw [hw2]; exact HOWN.out.drewN m
    have hbl2 := Nat.lt_of_lt_of_le hbl b2.size
    have OWN2 := hid hown2
    have HW2 := hid hw2
    clear c4 hbl f4 hown2 hw2 b2 DUE HOWN
    cases hf : (G1.bd nums l1).wait.find? (dueB l1) with
    | none =>
      have hi : idxV G1.wt (fun E => dueB l1 (G1.en E)) = -1 := by
        have h1 : G1.wt.findIdx (fun E => dueB l1 (G1.en E)) = G1.wt.length := by
          refine List.findIdx_eq_length.2 fun E hE => ?_
          have := List.find?_eq_none.1 hf (G1.en E) (List.mem_map.2 ⟨E, hE, rfl⟩)
          simpa using this
        unfold idxV
        rw [h1, if_neg (by omega)]
      rw [hi]
      have fin : StopP O q w b G nums last evs (.returned (.tuple #[])) w2 := by
        have he := H.out.eq
        rw [stopsF_none hf] at he
        refine ⟨rfl, O1, G1, l1, ?_, by rw [← he], H.out.few, S2.out, T2.out⟩
        rw [← he]
        exact H2.out.board H.out.bd.ok H.out.bd.few
      have RR := hid fin
      clear fin hi hf
      generalize StopP O q w b G nums last evs = R at *
      go_wp2
      first | exact RR.out | (go_end0; exact RR.out)
    | some x =>
      obtain ⟨pre', post', hw, hidx, herase, hdue⟩ := find_split hf
      obtain ⟨pre, E, post, hwt, rfl, rfl, rfl⟩ := map_split (l := G1.wt) (en := G1.en) hw
      have hi : idxV G1.wt (fun E => dueB l1 (G1.en E)) = pre.length := by
        have h1 : G1.wt.findIdx (fun E => dueB l1 (G1.en E)) = pre.length := by
          rw [← idx_due (nums := nums)]
          exact hidx.trans (List.length_map _)
        unfold idxV
        rw [h1, if_pos (by rw [hwt]; simp)]
      rw [hi]
      have hk0 : ∃ k', k = k' + 1 := by
        have := H.out.len
        rw [hwt] at this
        simp at this
        exact ⟨pre.length + post.length, by omega⟩
      obtain ⟨k', hk'⟩ := hk0
      have hnd := H.out.bd.wait.nod
      rw [hwt] at hnd
      obtain ⟨n1, n2, n3⟩ := List.nodup_append.1 hnd
      obtain ⟨n4, n5⟩ := List.nodup_cons.1 n2
      have hEn : E ∉ pre ++ post := fun hm => by
        rcases List.mem_append.1 hm with hm | hm
        · exact n3 E hm E (by simp) rfl
        · exact n4 hm
      have hnd2 : (pre ++ post).Nodup := List.nodup_append.2 ⟨n1, n5, fun a ha b hb => n3 a ha b (List.mem_cons_of_mem _ hb)⟩
      have hsub : ∀ D ∈ pre ++ post, D ∈ G1.wt := fun D hD => by
        rw [hwt]
        rcases List.mem_append.1 hD with h | h
        · exact List.mem_append_left _ h
        · exact List.mem_append_right _ (List.mem_cons_of_mem _ h)
      have hown3 := OWN2.out
      rw [hwt] at hown3
      have dl := del_calls hown3 (by rw [← hwt]; exact hwl)
      rw [← hwt] at dl
      have hplt : pre.length < G1.wt.length := by rw [hwt]; simp
      have hpi : (pre.length : Int) < G1.wt.length := by omega
      obtain ⟨hpp, hbw⟩ := HP.out (by omega)
      have r1 : w2.cell? ⟨bw, pre.length, none⟩ = some (pt E) := by
        have := HROW.out pre.length hplt
        rw [HW2.out]
        refine this.trans ?_
        congr 2
        simp only [hwt]
        simp
      subst hpp
      have DL := hid dl
      have HWT := hid hwt
      have HK' := hid hk'
      have HEN := hid hEn
      have HND := hid hnd2
      have HSUB := hid hsub
      have HF := hid hf
      have HER := hid herase
      have hplen : pre.length ≤ 1000000 := by omega
      clear dl hwt hk' hEn hnd2 hsub hf herase hnd n1 n2 n3 n4 n5 hown3 hw hidx hdue hi HP HROW
      generalize hN : G1.wt.length = N at *
      generalize hI : pre.length = I at *
      have HI := hid hI
      have HN := hid hN
      clear hI hN
      have hbw2 : bw < w2.heap.size := by rw [HW2.out]; exact hbw
      go_wp2_with fail
      refine DL.out.mono ?_
      rintro e w3 ⟨v', rfl, o3, k3, b3⟩
      obtain ⟨⟨u4, d4⟩, d5, d6⟩ := H2.out.keptTop c42 k3
      obtain ⟨p4, s4, h4⟩ := H2.out.setWait c42 o3 k3 b3 HSUB.out HND.out
      obtain ⟨pp, cc, hv', _⟩ := o3.form
      obtain ⟨w4, hw4⟩ : ∃ w4, w4 = w3.setCell ⟨b, 4, none⟩ v' := ⟨_, rfl⟩
      rw [← hw4] at p4 s4 h4
      have e4 := h4 E (by rw [HWT.out]; simp)
      generalize (pre ++ post).length = n4 at hv'
      subst hv'
      have hx := H.out.bd.ok.wait (G1.en E) (List.mem_map.2 ⟨E, by rw [HWT.out]; simp, rfl⟩)
      have lv := Mm.wait_live G1 HWT.out
      obtain ⟨w5, r1, r2, r3⟩ := drop_pt (n := (G1.en E).n) (E := E) (m' := prs G1.en (G1.wait (pre ++ post)).live) (p4.below ((Below.refl _ w4).drew)) (prs_perm G1.en lv) 3
      have e5 := (e4.below ((Below.refl _ w4).drew)).step r3 (by omega)
      obtain ⟨g1, g2, g3⟩ := r2.grab e5 HEN.out
      obtain ⟨y0, _, _, _, _, _, _, hEl, _, _⟩ := e4.ent.cells
      obtain ⟨_, bm, _, _, hbl4, _, _⟩ := p4.cells (s := 1) (.inl rfl)
      have f11 := e5.ent.flag
      have hEl5 := e5.ent.lt
      obtain ⟨w6, hw6⟩ : ∃ w6, w6 = w5.setCell ⟨E, 11, none⟩ (.bool false) := ⟨_, rfl⟩
      rw [← hw6] at g1 g2 g3
      have y9 : w6.cell? ⟨E, 9, none⟩ = some (.int .i64 (G1.en E).l) := g2.ent.cells.2.2.2.2.2.1
      have hEl6 := g2.ent.lt
      have hsz := H.out.size
      have tl := tell_pt g1 (by omega) g2.ent 7 0 0 (G1.en E).l
      have S6 := hid ((((S2.out.trans (s4.B (by omega) (by omega))).trans (Step.of_below ((Below.refl _ w4).drew) (colB q))).trans (r3.B (by omega) (by omega))).trans g3)
      have STb := hid ((((s4.B (by omega) (by omega)).trans (Step.of_below ((Below.refl _ w4).drew) (colB q))).trans (r3.B (by omega) (by omega))).trans g3)
      have G2' := hid g2
      have TL := hid tl
      have R1 := hid r1
      have HX := hid hx
      have LV := hid lv
      obtain ⟨f11a, f11b⟩ := f11
      have HW4 := hid hw4
      have HW6 := hid hw6
      clear o3 k3 b3 p4 s4 h4 e4 hx lv r1 r2 r3 e5 g1 g2 g3 tl hsz c42 hw4 hw6
      go_wp2
      rw [← HW4.out]
      refine region_tail 8 (by kernel_rfl) (by kernel_rfl) ?_
      simp only [List.take_succ_cons, List.take_zero, List.drop_succ_cons, List.drop_zero]
      repeat still_step
      refine wpStill_nil ?_
      refine wpList_delete_run rfl (.tmp 34) (.tmp 38) 88 3 rfl _ _ w5 rfl rfl R1.out ?_
      have y9' : (w5.setCell ⟨E, 11, none⟩ (.bool false)).cell? ⟨E, 9, none⟩ = some (.int .i64 (G1.en E).l) := by rw [← HW6.out]; exact y9
      go_wp2_with fail
      rw [← HW6.out]
      refine TL.out.mono ?_
      rintro e w7 ⟨rfl, O7, p7, s7⟩
      have e7 := G2'.out.step s7 (by omega)
      have S7 := hid (S6.out.trans (s7.B (by omega) (by omega)))
      have ST2 := hid (STb.out.trans (s7.B (by omega) (by omega)))
      obtain ⟨kS, hperm⟩ := wait_off H.out.bd.ok (pre := pre.map G1.en) (post := post.map G1.en) (x := G1.en E) (by show G1.wt.map G1.en = _; rw [HWT.out]; simp)
      have hb2 : (G1.wait (pre ++ post)).bd nums l1 = { G1.bd nums l1 with wait := pre.map G1.en ++ post.map G1.en } := by rw [Mm.wait_bd, List.map_append]
      have lfew : (G1.wait (pre ++ post)).live.length + 1 = G1.live.length := by rw [LV.out.length_eq]; rfl
      have hq := okQ HX.out.ok
      have hxl := HX.out.l
      have sz := sizeL_perm hperm
      rw [sizeL_cons, ← hb2] at sz
      have hsz := H.out.size
      have hfew := H.out.bd.few
      have hnp := numsL_perm hperm
      have hnew : (G1.en E).n ∉ numsL ((G1.wait (pre ++ post)).bd nums l1).live := by
        rw [hb2]
        exact (List.nodup_cons.1 (hnp.nodup_iff.1 H.out.bd.ok.once)).1
      have hev : ∀ e ∈ ev1 ++ [⟨7, (G1.en E).n, 0, 0, (G1.en E).l⟩], EvOk nums e := fun e hm => by
        rcases List.mem_append.1 hm with hm | hm
        · exact H.out.ev e hm
        · simp only [List.mem_cons, List.not_mem_nil, or_false] at hm
          subst hm
          have h1 : 1 ≤ (G1.en E).n ∧ (G1.en E).n ≤ nums := HX.out.n
          exact ⟨h1, ⟨by simp only; omega, by simp only; omega⟩, by simp only; omega, by simp only; omega, fun h => by simp at h⟩
      have bd7 : BdC O7 q w7 b (G1.wait (pre ++ post)) nums l1 (ev1 ++ [⟨7, (G1.en E).n, 0, 0, (G1.en E).l⟩]) := p7.board (by rw [hb2]; exact kS) (by omega)
      have hlen7 : (ev1 ++ [(⟨7, (G1.en E).n, 0, 0, (G1.en E).l⟩ : Ev)]).length + sizeL ((G1.wait (pre ++ post)).bd nums l1).live ≤ 2999999999990 := by
        rw [List.length_append]
        simp only [List.length_cons, List.length_nil]
        omega
      have cc7 := come_calls bd7 e7 HX.out.ok HX.out.n hnew (by omega) (by omega) hev hlen7
      have ck := comeF_ok (left := (G1.en E).l) bd7.ok HX.out.ok HX.out.n hnew (by omega) hev
      have fin : ∀ e w', ComeP O7 q w7 b (G1.wait (pre ++ post)) nums l1 (ev1 ++ [⟨7, (G1.en E).n, 0, 0, (G1.en E).l⟩]) E (G1.en E) e w' → e = .returned (.tuple #[]) ∧ ∃ O' G' last' evs', StpC O O' q w w' b G G' nums last last' evs evs' k' := by
        rintro e w' ⟨r1, O', G', l', r2, r3, r4, r5, r6, r7⟩
        refine ⟨r1, O', G', l', _, r2, ?_, ?_, ck.evok, ?_, ?_, S7.out.trans r5, fun D n hD => ?_⟩
        · have hw := ck.wait
          rw [← r3, hb2] at hw
          have hw : G'.wt.map G'.en = pre.map G1.en ++ post.map G1.en := hw
          have hl := congrArg List.length hw
          rw [List.length_map, List.length_append, List.length_map, List.length_map] at hl
          have h0 := H.out.len
          rw [HWT.out, HK'.out] at h0
          simp at h0
          omega
        · rw [← H.out.eq, HK'.out, stopsF_some HF.out HER.out, ← hb2, r3]
        · have := ck.size
          rw [r3]
          have e3 := HK'.out
          rw [List.length_append] at this
          simp only [List.length_cons, List.length_nil] at this
          omega
        · have := H.out.few; omega
        · have tD := T2.out D n hD
          rcases tD with ⟨t1, t2⟩ | tD
          · have t3 := LV.out.mem_iff.1 t1
            rcases List.mem_cons.1 t3 with rfl | t3
            · rw [← t2]; exact r7
            · exact r6 D n (.inl ⟨t3, t2⟩)
          · refine r6 D n (.inr ?_)
            have t4 := Trk.same (G := G1) ST2.out (.inr tD : Trk O1 w2 G1 D n)
            rcases t4 with ⟨t5, t6⟩ | t4
            · exfalso
              have t7 := H2.out.live_col t5
              rw [tD.1] at t7
              exact absurd t7.1 (by omega)
            · exact t4
      have CC := hid (cc7.mono fin)
      clear fin ck cc7 hlen7 bd7 hev hnew hnp hfew hsz sz hxl hq lfew hb2 hperm kS e7 s7 p7 y9 y9' hEl6 f11a f11b hEl5 bm hbl4 y0 hEl
      go_wp2_with fail
      refine CC.out.mono ?_
      rintro e w8 ⟨rfl, O8, G8, l8, ev8, hs8⟩
      have HS8 := hid hs8
      clear hs8
      go_wp2
      go_roundg k'
      · exact ⟨_, rfl, O8, G8, l8, ev8, HS8.out⟩
      · have := HK'.out; omega
end Go.Proofs.Ytdjhpldiifdifaa
