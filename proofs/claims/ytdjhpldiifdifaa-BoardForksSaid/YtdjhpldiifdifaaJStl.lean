/- board.Stops. board.Depth of a side. board.Queue of a side. board.Depth and board.Queue of no side. -/
import Derived.Test.YtdjhpldiifdifaaJRq0
import Derived.Test.YtdjhpldiifdifaaJLvl
namespace Go.Proofs.Ytdjhpldiifdifaa
set_option linter.unusedSimpArgs false
set_option linter.unusedVariables false
open Go.RowKit Go.Shelf
attribute [local go_sem] Oper.semAt_some
attribute [local go_sem ↓] Go.wp_at_zero Go.wp_at_succ

set_option maxRecDepth 100000 in
set_option maxHeartbeats 8000000 in
theorem stopsList_calls {O : Nat → Nat} {q : Nat} {w : World} {b : Nat} {G : Mm} {nums last : Int} {evs : List Ev} (h : BdC O q w b G nums last evs) :
    Calls Try.prog 34 #[pt b] w fun e w' => ∃ u, e = .returned u ∧ RowI w.heap.size w' u (G.wt.map fun E => (G.en E).n) ∧ Below w.heap.size w w' := by
  obtain ⟨vw, c4, ow, _, hbl, _⟩ := h.parts.waits
  obtain ⟨p, cap, g, rfl, hp, hc⟩ := OwnE.cells (sz := 1) (fun _ => rfl) ow
  have hl : G.wt.length ≤ 4096 := by have := h.few; unfold Mm.live at this; simp only [List.length_append] at this; omega
  have WE := hid h.wait.ent
  have HP := hid hp
  have HC := hid hc
  obtain ⟨T, hT⟩ : ∃ T, T = G.wt.map fun E => (G.en E).n := ⟨_, rfl⟩
  have HT := hid hT
  obtain ⟨R, hR⟩ : ∃ R : Ending → World → Prop, R = fun e w' => ∃ u, e = .returned u ∧ RowI w.heap.size w' u T ∧ Below w.heap.size w w' := ⟨_, rfl⟩
  have FIN := hid (show ∀ (u : Value) (w' : World), RowI w.heap.size w' u T → Below w.heap.size w w' → R (.returned u) w' by intro u w' hi hb; rw [hR]; exact ⟨u, rfl, hi, hb⟩)
  rw [← hT, ← hR]
  obtain ⟨n, hn⟩ : ∃ n, n = G.wt.length := ⟨_, rfl⟩
  have HN := hid hn
  have HTL := hid (show T.length = n by rw [hT, hn]; simp)
  rw [← hn] at c4 hl
  clear hR hT hn h ow hp hc
  go_enter Try.func34, Try.ntmps34
  go_wp2
  go_loopg [3, 13] n (fun k s3 s13 wr => ∃ (i : Nat) (vo : Value), vo = s3 ∧ i + k = n ∧ s13 = .int .i64 i ∧ RowI w.heap.size wr vo (T.take i) ∧ Below w.heap.size w wr)
  case atStart => exact ⟨0, _, rfl, by omega, rfl, OwnE.nil _ _, Below.refl _ _⟩
  case round =>
    obtain ⟨i, vo, rfl, hik, rfl, ro, hb⟩ := hrel
    have RO := hid ro
    have HB := hid hb
    have HIK := hid hik
    clear ro hb hik
    obtain ⟨pv, cv, hvo, _⟩ := RO.out.form
    generalize (T.take i).length = mv at hvo
    subst hvo
    by_cases hin : i < n
    · have hil : i < G.wt.length := by rw [← HN.out]; exact hin
      obtain ⟨rfl, _, hg⟩ := HP.out (by omega)
      obtain ⟨E, hE⟩ : ∃ E, E = G.wt[i] := ⟨_, rfl⟩
      have c0 : wr.cell? ⟨g, i, none⟩ = some (pt E) := by
        have := (HB.out.cell (p := ⟨g, i * 1 + 0, none⟩) hg).trans (HC.out i hil 0 (by omega))
        rw [← hE] at this
        simpa using this
      have eE := (WE.out G.wt[i] (List.getElem_mem hil)).2
      rw [← hE] at eE
      have hEl := eE.lt
      have c1 : wr.cell? ⟨E, 0, none⟩ = some (.int .i64 (G.en E).n) := (HB.out.cell (p := ⟨E, 0, none⟩) hEl).trans (by rw [Cells.cell eE]; rfl)
      have hgr : g < wr.heap.size := Nat.lt_of_lt_of_le hg HB.out.size
      have hEr : E < wr.heap.size := Nat.lt_of_lt_of_le hEl HB.out.size
      obtain ⟨y, hy⟩ : ∃ y, y = (G.en E).n := ⟨_, rfl⟩
      rw [← hy] at c1
      have hTi : T.take (i + 1) = T.take i ++ [y] := by
        have hl2 : i < T.length := by rw [HTL.out]; exact hin
        rw [List.take_succ_eq_append_getElem hl2]
        congr 2
        have : T[i] = (G.en G.wt[i]).n := by have h1 := HT.out; subst h1; simp
        rw [this, hy, hE]
      obtain ⟨v2, w2, r2, q2, k2, _⟩ := ri_append (OwnE.alloc RO.out (.cells #[.int .i64 y] 3)) (Nat.le_trans HB.out.size (by simp)) (SrcE.one (a := y) (enc := encI) (sz := 1) (Cells.new wr #[.int .i64 y] 3)) (by rw [List.length_take]; simp; omega) 60
      have hb2 : Below w.heap.size w w2 := (HB.out.alloc HB.out.size _).trans (k2.below (B := w.heap.size) (Nat.le_trans HB.out.size (by simp)) (fun k e => own_ge (OwnE.alloc RO.out (.cells #[.int .i64 y] 3)) k e.symm))
      rw [← hTi] at q2
      obtain ⟨p2, cp2, hv2, _⟩ := q2.form
      generalize (T.take (i + 1)).length = m2 at hv2
      subst hv2
      have R2 := hid r2
      have Q2 := hid q2
      have B2 := hid hb2
      have g1 : (i : Int) < (n : Int) := by omega
      clear r2 q2 k2 hb2 hTi hy eE hE
      go_wp2_with (at_builtin; refine wpList_append_run rfl (.tmp 17) (.tmp 22) 60 rfl _ _ (.slice p2 m2 cp2) w2 rfl rfl R2.out ?_)
      go_roundg (n - (i + 1))
      · exact ⟨i + 1, _, rfl, by omega, by go_num, Q2.out, B2.out⟩
      · have := HIK.out; omega
    · have hin' : i = n := by have := HIK.out; omega
      subst hin'
      have FN := hid (FIN.out (.slice pv mv cv) wr (by have h1 := RO.out; rw [List.take_of_length_le (by rw [HTL.out]; omega)] at h1; exact h1) HB.out)
      have g1 : decide ((i : Int) < (i : Int)) = false := by simp
      go_wp2
      exact FN.out
end Go.Proofs.Ytdjhpldiifdifaa
namespace Go.Proofs.Ytdjhpldiifdifaa
set_option linter.unusedSimpArgs false
set_option linter.unusedVariables false
open Go.RowKit Go.Shelf
attribute [local go_sem] Oper.semAt_some
attribute [local go_sem ↓] Go.wp_at_zero Go.wp_at_succ

/-- A level as it is shown: price, shown, orders. -/
abbrev Lw := Int × Int × Nat
def encLw (x : Lw) : List Value := [.int .i64 x.1, .int .i64 x.2.1, .int .i64 x.2.2]
def levsF (h : Half) : List Lw := h.map fun x => (x.1, shownL x.2, x.2.length)
theorem infoLw : (Try.prog.info? 72).map (fun i => (i.zero, i.size, i.bytes)) = some (some (.agg #[.int .i64 0, .int .i64 0, .int .i64 0]), 3, 24) := by kernel_rfl
theorem undLw : Try.prog.underlying 64 = some (.slice 72) := by kernel_rfl
abbrev RowL (B : Nat) (w : World) (v : Value) (l : List Lw) : Prop := OwnE encLw 3 72 B w v l
theorem encLw_one (a : Lw) : ∀ u ∈ encLw a, u.oneCell' = true := by
  intro u hu
  simp only [encLw, List.mem_cons, List.not_mem_nil, or_false] at hu
  rcases hu with rfl | rfl | rfl <;> rfl
theorem rl_append {B : Nat} {w : World} {v : Value} {l : List Lw} (h : RowL B w v l) (hB : B ≤ w.heap.size) {u : Value} {m : List Lw} (hu : SrcE encLw 3 w u m) (hn : l.length + m.length ≤ 1000000) (ty : TypeId) :
    ∃ v' w', (Builtin.append_ #[64, 64] ty #[v, u]).run Try.prog w = .ok v' w' ∧ RowL B w' v' (l ++ m) ∧ Kept (fun k => some k = v.ownBlock) w w' ∧ (v'.ownBlock = v.ownBlock ∨ v'.ownBlock = some w.heap.size) :=
  own_append undLw infoLw rfl (by decide) (fun _ => rfl) encLw_one h hB hu (by unfold maxLen; omega) (by omega)

set_option maxRecDepth 100000 in
set_option maxHeartbeats 8000000 in
theorem depth_side {O : Nat → Nat} {q : Nat} {w : World} {b : Nat} {G : Mm} {nums last : Int} (h : BdC O q w b G nums last []) {s : Int} (hs : s = 1 ∨ s = 2) (most : Int) :
    Calls Try.prog 24 #[pt b, .int .i64 s, .int .i64 most] w fun e w' => ∃ u, e = .returned u ∧ RowL w.heap.size w' u ((levsF ((G.bd nums last).half s)).take most.toNat) ∧ Below w.heap.size w w' := by
  obtain ⟨v, c2, c3, lv⟩ := levels_calls h hs
  obtain ⟨p, cap, g, rfl, hp, hc⟩ := OwnE.cells (sz := 1) (fun _ => rfl) c2
  have LV := hid lv
  rw [Mm.plain G hs]
  have sd := h.side hs
  have SD := hid sd
  have SOK := hid (h.sok hs)
  have HP := hid hp
  have HC := hid hc
  have hfew : (ensL (G.L s)).length ≤ 4096 := by
    have e := few_side (G := G) hs
    have := h.few
    omega
  have FEW := hid hfew
  obtain ⟨T, hT⟩ : ∃ T, T = levsF (plainH (G.L s) G.en) := ⟨_, rfl⟩
  have HT := hid hT
  obtain ⟨R, hR⟩ : ∃ R : Ending → World → Prop, R = fun e w' => ∃ u, e = .returned u ∧ RowL w.heap.size w' u (T.take most.toNat) ∧ Below w.heap.size w w' := ⟨_, rfl⟩
  have FIN := hid (show ∀ (u : Value) (w' : World), RowL w.heap.size w' u (T.take most.toNat) → Below w.heap.size w w' → R (.returned u) w' by intro u w' hi hb; rw [hR]; exact ⟨u, rfl, hi, hb⟩)
  rw [← hT, ← hR]
  obtain ⟨n, hn⟩ : ∃ n, n = ((G.L s).map fun x => x.2.1).length := ⟨_, rfl⟩
  have HN := hid (show n = (G.L s).length by rw [hn]; simp)
  have HTL := hid (show T.length = n by rw [hT, hn]; simp [levsF, plainH])
  have HNL := hid (show n ≤ 4096 by
    have h1 := lv_len SOK.out.sh
    have h2 := FEW.out
    have h3 := HN.out
    omega)
  rw [← hn] at LV
  clear hR hT hn h c2 c3 lv hp hc sd hfew
  go_enter Try.func24, Try.ntmps24
  go_wp2_with fail
  refine LV.out.mono ?_
  rintro e w1 ⟨rfl, rfl⟩
  have hnl := HNL.out
  go_wp2
  go_loopg [7, 14] n (fun k s7 s14 wr => ∃ (i : Nat) (vo : Value), vo = s7 ∧ i + k = n ∧ s14 = .int .i64 i ∧ (∃ m, m = (T.take i).length ∧ m = i) ∧ RowL w1.heap.size wr vo (T.take i) ∧ (0 < i → (i : Int) ≤ most) ∧ Below w1.heap.size w1 wr)
  case atStart => exact ⟨0, _, rfl, by omega, rfl, ⟨0, rfl, rfl⟩, OwnE.nil _ _, fun h => absurd h (by omega), Below.refl _ _⟩
  case round =>
    obtain ⟨i, vo, rfl, hik, rfl, ⟨m, hm1, hm2⟩, ro, him, hb⟩ := hrel
    have RO := hid ro
    have HB := hid hb
    have HIK := hid hik
    have HIM := hid him
    obtain ⟨pv, cv, hvo, _⟩ := RO.out.form
    rw [← hm1, hm2] at hvo
    subst hvo
    clear ro hb hik him hm1 hm2
    by_cases hin : i < n
    · have hil : i < (G.L s).length := by rw [← HN.out]; exact hin
      obtain ⟨rfl, _, hg⟩ := HP.out (by rw [List.length_map]; omega)
      obtain ⟨x, hx⟩ : ∃ x, x = (G.L s)[i] := ⟨_, rfl⟩
      have c0 : wr.cell? ⟨g, i, none⟩ = some (pt x.2.1) := by
        have := (HB.out.cell (p := ⟨g, i * 1 + 0, none⟩) hg).trans (HC.out i (by rw [List.length_map]; exact hil) 0 (by omega))
        rw [List.getElem_map, ← hx] at this
        simpa using this
      have hgr : g < wr.heap.size := Nat.lt_of_lt_of_le hg HB.out.size
      have g1 : (i : Int) < (n : Int) := by omega
      have hmx : x ∈ G.L s := by rw [hx]; exact List.getElem_mem hil
      by_cases hmo : most ≤ (i : Int)
      · have g2 : decide (most ≤ (i : Int)) = true := by simpa using hmo
        have FN := hid (FIN.out (.slice pv i cv) wr (by
          have h1 := RO.out
          have e : most.toNat = i ∨ (i = 0 ∧ most.toNat = 0) := by
            rcases Nat.eq_zero_or_pos i with h0 | h0
            · exact .inr ⟨h0, by omega⟩
            · have := HIM.out h0; exact .inl (by omega)
          rcases e with e | ⟨e1, e2⟩
          · rw [e]; exact h1
          · rw [e2]; rw [e1] at h1 ⊢; exact h1) HB.out)
        clear hx hmo hmx
        go_wp2
        exact FN.out
      · have g2 : decide (most ≤ (i : Int)) = false := by simpa using hmo
        have HMO := hid hmo
        obtain ⟨k1, k2, k3⟩ := SD.out.lv x hmx
        have kp : Kept (fun _ => False) w1 wr := Kept.of_below HB.out
        have hmem : ∀ y ∈ x.2.2, y.2 ∈ ensL (G.L s) := fun y hy => mem_ens hmx hy
        have hln : x.2.2.length ≤ 4096 := by
          have h1 := FEW.out
          have h2 : x.2.2.length ≤ (ensL (G.L s)).length := by
            have := (List.sublist_flatten_of_mem (show x.2.2.map Prod.snd ∈ (G.L s).map (fun x : Lv => x.2.2.map Prod.snd) from List.mem_map.2 ⟨x, hmx, rfl⟩)).length_le
            rw [List.length_map] at this
            exact Nat.le_trans this (by unfold ensL; rw [List.flatMap]; exact Nat.le_refl _)
          omega
        have sm : ∀ e ∈ x.2.2.map (fun y => G.en y.2), 0 ≤ e.h ∧ e.h ≤ 1000000000 := by
          intro e he
          obtain ⟨y, hy, rfl⟩ := List.mem_map.1 he
          have ok := SOK.out.mem (G.en y.2) (by rw [plainH_all]; exact List.mem_map.2 ⟨y.2, hmem y hy, rfl⟩)
          have := okQ ok.ok
          have := ok.h
          have := ok.l
          omega
        have SE := hid (seen_calls (k1.kept kp (fun _ _ => not_false)) (fun y hy => ((k3 y hy).2.2).kept kp not_false) sm hln)
        obtain ⟨lw, hlw⟩ : ∃ lw : Lw, lw = (x.1, shownL (x.2.2.map fun y => G.en y.2), x.2.2.length) := ⟨_, rfl⟩
        have hTi : T.take (i + 1) = T.take i ++ [lw] := by
          have hl2 : i < T.length := by rw [HTL.out]; exact hin
          rw [List.take_succ_eq_append_getElem hl2]
          congr 2
          have : T[i] = ((G.L s)[i].1, shownL ((G.L s)[i].2.2.map fun y => G.en y.2), (G.L s)[i].2.2.length) := by have h1 := HT.out; subst h1; simp [levsF, plainH]
          rw [this, hlw, hx]
        have HTI := hid hTi
        have HLW := hid hlw
        have hlt : (T.take i).length = i := by rw [List.length_take, HTL.out]; omega
        have HLT := hid hlt
        clear hx hmo hmx k1 k2 k3 kp hmem hln sm hTi hlw hlt
        go_wp2_with fail
        refine SE.out.mono ?_
        rintro e w2 ⟨rfl, hb2⟩
        have hb3 := HB.out.trans (hb2.mono HB.out.size)
        have ro2 := OwnE.alloc (OwnE.below RO.out hb2) (.cells (encLw lw).toArray 72)
        obtain ⟨v2, w3, r2, q2, k2, _⟩ := rl_append ro2 (Nat.le_trans hb3.size (by simp)) (SrcE.one (a := lw) (enc := encLw) (sz := 3) (Cells.new w2 (encLw lw).toArray 72)) (by rw [HLT.out]; simp; omega) 64
        have hb4 : Below w1.heap.size w1 w3 := (hb3.alloc hb3.size _).trans (k2.below (B := w1.heap.size) (Nat.le_trans hb3.size (by simp)) (fun k e => own_ge ro2 k e.symm))
        rw [← HTI.out] at q2
        obtain ⟨p2, cp2, hv2, _⟩ := q2.form
        have hl3 : (T.take (i + 1)).length = i + 1 := by rw [HTI.out, List.length_append, HLT.out]; rfl
        rw [hl3] at hv2
        subst hv2
        have R2 := hid r2
        have Q2 := hid q2
        have B4 := hid hb4
        rw [HLW.out] at R2
        unfold encLw at R2
        simp only at R2
        have HL3 := hid hl3
        clear hb2 hb3 ro2 r2 q2 k2 hb4 hl3
        go_wp2_with (at_builtin; refine wpList_append_run rfl (.tmp 22) (.tmp 25) 64 rfl _ _ (.slice p2 (i + 1) cp2) w3 rfl rfl R2.out ?_)
        go_roundg (n - (i + 1))
        · exact ⟨i + 1, _, rfl, by omega, by go_num, ⟨i + 1, HL3.out.symm, rfl⟩, Q2.out, fun _ => by have := HMO.out; omega, B4.out⟩
        · have := HIK.out; omega
    · have hin' : i = n := by have := HIK.out; omega
      subst hin'
      have FN := hid (FIN.out (.slice pv i cv) wr (by
        have h1 := RO.out
        rw [List.take_of_length_le (by rw [HTL.out]; omega)] at h1
        have e : T.take most.toNat = T := by
          rcases Nat.eq_zero_or_pos i with h0 | h0
          · have : T = [] := List.length_eq_zero_iff.1 (by rw [HTL.out]; exact h0)
            rw [this]; simp
          · have := HIM.out h0
            exact List.take_of_length_le (by rw [HTL.out]; omega)
        rw [e]; exact h1) HB.out)
      have g1 : decide ((i : Int) < (i : Int)) = false := by simp
      go_wp2
      exact FN.out
end Go.Proofs.Ytdjhpldiifdifaa
namespace Go.Proofs.Ytdjhpldiifdifaa
set_option linter.unusedSimpArgs false
set_option linter.unusedVariables false
open Go.RowKit Go.Shelf
attribute [local go_sem] Oper.semAt_some
attribute [local go_sem ↓] Go.wp_at_zero Go.wp_at_succ

/-- The numbers at a price, the first one first. -/
def queueF (p : Int) (h : Half) : List Int := h.flatMap fun x => if x.1 = p then x.2.map En.n else []
theorem queueF_take {p : Int} {h : Half} {i : Nat} (hi : i < h.length) : queueF p (h.take (i + 1)) = queueF p (h.take i) ++ if h[i].1 = p then h[i].2.map En.n else [] := by
  unfold queueF
  rw [List.take_succ_eq_append_getElem hi, List.flatMap_append]
  simp
theorem queueF_len {p : Int} {h : Half} : (queueF p h).length ≤ h.all.length := by
  induction h with
  | nil => simp [queueF]
  | cons x h ih =>
    have e : queueF p (x :: h) = (if x.1 = p then x.2.map En.n else []) ++ queueF p h := rfl
    have e2 : Half.all (x :: h) = x.2 ++ Half.all h := rfl
    rw [e, e2, List.length_append, List.length_append]
    split
    · simp; omega
    · simp; omega
theorem all_take_le (h : Half) (i : Nat) : (Half.all (h.take i)).length ≤ (Half.all h).length := by
  have e : Half.all h = Half.all (h.take i) ++ Half.all (h.drop i) := by
    unfold Half.all
    rw [← List.flatMap_append, List.take_append_drop]
  rw [e, List.length_append]
  omega

set_option maxRecDepth 100000 in
set_option maxHeartbeats 8000000 in
theorem queue_side {O : Nat → Nat} {q : Nat} {w : World} {b : Nat} {G : Mm} {nums last : Int} (h : BdC O q w b G nums last []) {s : Int} (hs : s = 1 ∨ s = 2) (pr : Int) :
    Calls Try.prog 23 #[pt b, .int .i64 s, .int .i64 pr] w fun e w' => ∃ u, e = .returned u ∧ RowI w.heap.size w' u (queueF pr ((G.bd nums last).half s)) ∧ Below w.heap.size w w' := by
  obtain ⟨v, c2, c3, lv⟩ := levels_calls h hs
  obtain ⟨p, cap, g, rfl, hp, hc⟩ := OwnE.cells (sz := 1) (fun _ => rfl) c2
  have LV := hid lv
  rw [Mm.plain G hs]
  have sd := h.side hs
  have SD := hid sd
  have SOK := hid (h.sok hs)
  have HP := hid hp
  have HC := hid hc
  have hfew : (ensL (G.L s)).length ≤ 4096 := by
    have e := few_side (G := G) hs
    have := h.few
    omega
  have FEW := hid hfew
  obtain ⟨H, hH⟩ : ∃ H, H = plainH (G.L s) G.en := ⟨_, rfl⟩
  have HH := hid hH
  have HAL := hid (show H.all.length ≤ 4096 by rw [hH, plainH_all]; simpa using hfew)
  obtain ⟨R, hR⟩ : ∃ R : Ending → World → Prop, R = fun e w' => ∃ u, e = .returned u ∧ RowI w.heap.size w' u (queueF pr H) ∧ Below w.heap.size w w' := ⟨_, rfl⟩
  have FIN := hid (show ∀ (u : Value) (w' : World), RowI w.heap.size w' u (queueF pr H) → Below w.heap.size w w' → R (.returned u) w' by intro u w' hi hb; rw [hR]; exact ⟨u, rfl, hi, hb⟩)
  rw [← hH, ← hR]
  obtain ⟨n, hn⟩ : ∃ n, n = ((G.L s).map fun x => x.2.1).length := ⟨_, rfl⟩
  have HN := hid (show n = (G.L s).length by rw [hn]; simp)
  have HHL := hid (show H.length = n by rw [hH, hn]; simp [plainH])
  have HNL := hid (show n ≤ 4096 by
    have h1 := lv_len SOK.out.sh
    have h2 := FEW.out
    have h3 := HN.out
    omega)
  rw [← hn] at LV
  clear hR hH hn h c2 c3 lv hp hc sd hfew
  go_enter Try.func23, Try.ntmps23
  go_wp2_with fail
  refine LV.out.mono ?_
  rintro e w1 ⟨rfl, rfl⟩
  have hnl := HNL.out
  go_wp2
  go_loopg [7, 15] n (fun k s7 s15 wr => ∃ (i : Nat) (vo : Value), vo = s7 ∧ i + k = n ∧ s15 = .int .i64 i ∧ RowI w1.heap.size wr vo (queueF pr (H.take i)) ∧ Below w1.heap.size w1 wr)
  case atStart => exact ⟨0, _, rfl, by omega, rfl, OwnE.nil _ _, Below.refl _ _⟩
  case round =>
    obtain ⟨i, vo, rfl, hik, rfl, ro, hb⟩ := hrel
    have RO := hid ro
    have HB := hid hb
    have HIK := hid hik
    clear ro hb hik
    by_cases hin : i < n
    · have hil : i < (G.L s).length := by rw [← HN.out]; exact hin
      obtain ⟨rfl, _, hg⟩ := HP.out (by rw [List.length_map]; omega)
      obtain ⟨x, hx⟩ : ∃ x, x = (G.L s)[i] := ⟨_, rfl⟩
      have c0 : wr.cell? ⟨g, i, none⟩ = some (pt x.2.1) := by
        have := (HB.out.cell (p := ⟨g, i * 1 + 0, none⟩) hg).trans (HC.out i (by rw [List.length_map]; exact hil) 0 (by omega))
        rw [List.getElem_map, ← hx] at this
        simpa using this
      have hgr : g < wr.heap.size := Nat.lt_of_lt_of_le hg HB.out.size
      have g1 : (i : Int) < (n : Int) := by omega
      have hmx : x ∈ G.L s := by rw [hx]; exact List.getElem_mem hil
      obtain ⟨k1, k2, k3⟩ := SD.out.lv x hmx
      have hLl := k1.c.lt
      have p0 : wr.cell? ⟨x.2.1, 0, none⟩ = some (.int .i64 x.1) := (HB.out.cell (p := ⟨x.2.1, 0, none⟩) hLl).trans (by rw [k1.c.cell]; rfl)
      have p1 : wr.cell? ⟨x.2.1, 1, none⟩ = some (op (headO x.2.2 none)) := (HB.out.cell (p := ⟨x.2.1, 1, none⟩) hLl).trans (by rw [k1.c.cell]; rfl)
      have hLr : x.2.1 < wr.heap.size := Nat.lt_of_lt_of_le hLl HB.out.size
      have hHi : H[i]'(by rw [HHL.out]; exact hin) = (x.1, x.2.2.map fun y => G.en y.2) := by have h1 := HH.out; subst h1; simp [plainH, hx]
      have QT := hid (show queueF pr (H.take (i + 1)) = queueF pr (H.take i) ++ if x.1 = pr then (x.2.2.map fun y => G.en y.2).map En.n else [] by
        rw [queueF_take (by rw [HHL.out]; exact hin), hHi])
      have QL := hid (show (queueF pr (H.take (i + 1))).length ≤ 4096 from Nat.le_trans queueF_len (Nat.le_trans (all_take_le H (i + 1)) HAL.out))
      have K1 := hid k1
      have K3 := hid k3
      clear hx hmx k1 k2 k3 hHi
      by_cases hpr : x.1 = pr
      · have g2 : (x.1 != pr) = false := by simpa using hpr
        rw [if_pos hpr] at QT
        clear hpr
        obtain ⟨es, hes⟩ : ∃ es, es = x.2.2 := ⟨_, rfl⟩
        rw [← hes] at p1 QT K1 K3
        obtain ⟨M, hM⟩ : ∃ M, M = (es.map fun y => G.en y.2).map En.n := ⟨_, rfl⟩
        rw [← hM] at QT
        have HM := hid hM
        obtain ⟨Q0, hQ0⟩ : ∃ Q0, Q0 = queueF pr (H.take i) := ⟨_, rfl⟩
        rw [← hQ0] at QT RO
        have HQ0 := hid hQ0
        obtain ⟨el, hel⟩ : ∃ el, el = es.length := ⟨_, rfl⟩
        have HEL := hid hel
        have hq0 : Q0.length + el ≤ 4096 := by
          have h1 := QL.out
          rw [QT.out, List.length_append, hM] at h1
          simp at h1
          omega
        clear hes hM hQ0 hel
        obtain ⟨wo, rfl⟩ : ∃ wo : World, wo = wr := ⟨_, rfl⟩
        go_upto_block 2 with fail
        go_wp2_with fail
        go_loopg [7, 10] el (fun k s7 s10 wr => ∃ (j : Nat) (vi : Value), vi = s7 ∧ j + k = el ∧ s10 = op (headO (es.drop j) none) ∧ RowI w1.heap.size wr vi (Q0 ++ M.take j) ∧ Below w1.heap.size w1 wr)
        case atStart => exact ⟨0, _, rfl, by omega, rfl, by simpa using RO.out, HB.out⟩
        case round =>
          obtain ⟨j, vi, rfl, hjk, rfl, ri, hbi⟩ := hrel
          have RI := hid ri
          have HBI := hid hbi
          have HJK := hid hjk
          clear ri hbi hjk
          by_cases hj : j < el
          · have hjl : j < es.length := by rw [← HEL.out]; exact hj
            have e0 := K1.out.l.nth j hjl
            have eX := (K3.out _ (List.getElem_mem hjl)).2.2
            obtain ⟨E, hE⟩ : ∃ E, E = es[j].1 := ⟨_, rfl⟩
            obtain ⟨X, hX⟩ : ∃ X, X = es[j].2 := ⟨_, rfl⟩
            rw [← hE, ← hX] at e0
            rw [← hE, ← hX] at eX
            have hd : headO (es.drop j) none = some E := by rw [List.drop_eq_getElem_cons hjl, hE]; rfl
            rw [hd]
            have hElt := e0.lt
            have hXlt := eX.lt
            have m1 : wr.cell? ⟨E, 1, none⟩ = some (op (headO (es.drop (j + 1)) none)) := by rw [HBI.out.cell (p := ⟨E, 1, none⟩) hElt, e0.cell]; rfl
            have m2 : wr.cell? ⟨E, 2, none⟩ = some (pt X) := by rw [HBI.out.cell (p := ⟨E, 2, none⟩) hElt, e0.cell]; rfl
            have m3 : wr.cell? ⟨X, 0, none⟩ = some (.int .i64 (G.en X).n) := by rw [HBI.out.cell (p := ⟨X, 0, none⟩) hXlt, Cells.cell eX]; rfl
            have hE2 := Nat.lt_of_lt_of_le hElt HBI.out.size
            have hX2 := Nat.lt_of_lt_of_le hXlt HBI.out.size
            obtain ⟨y, hy⟩ : ∃ y, y = (G.en X).n := ⟨_, rfl⟩
            rw [← hy] at m3
            have hMl : M.length = el := by rw [HM.out, HEL.out]; simp
            have hMT : Q0 ++ M.take (j + 1) = (Q0 ++ M.take j) ++ [y] := by
              have hl2 : j < M.length := by rw [hMl]; exact hj
              rw [List.take_succ_eq_append_getElem hl2, ← List.append_assoc]
              congr 2
              have : M[j] = (G.en es[j].2).n := by have h1 := HM.out; subst h1; simp
              rw [this, hy, hX]
            obtain ⟨v2, w2, r2, q2, k2, _⟩ := ri_append (OwnE.alloc RI.out (.cells #[.int .i64 y] 3)) (Nat.le_trans HBI.out.size (by simp)) (SrcE.one (a := y) (enc := encI) (sz := 1) (Cells.new wr #[.int .i64 y] 3)) (by rw [List.length_append, List.length_take]; simp; omega) 60
            have hb2 : Below w1.heap.size w1 w2 := (HBI.out.alloc HBI.out.size _).trans (k2.below (B := w1.heap.size) (Nat.le_trans HBI.out.size (by simp)) (fun k e => own_ge (OwnE.alloc RI.out (.cells #[.int .i64 y] 3)) k e.symm))
            rw [← hMT] at q2
            obtain ⟨pv, cv, hvi, _⟩ := RI.out.form
            generalize (Q0 ++ M.take j).length = mv at hvi
            subst hvi
            obtain ⟨p2, cp2, hv2, _⟩ := q2.form
            generalize (Q0 ++ M.take (j + 1)).length = m2' at hv2
            subst hv2
            have hXw : X < w2.heap.size ∧ E < w2.heap.size := by have := k2.size; simp at this; omega
            have m1' : w2.cell? ⟨E, 1, none⟩ = some (op (headO (es.drop (j + 1)) none)) := by rw [hb2.cell (p := ⟨E, 1, none⟩) hElt, e0.cell]; rfl
            obtain ⟨_, hEw⟩ := hXw
            have R2 := hid r2
            have Q2 := hid q2
            have B2 := hid hb2
            clear r2 q2 k2 hb2 hMT hMl hy e0 eX hE hX hd
            simp only [op_some, op_none]
            go_wp2_with (at_builtin; refine wpList_append_run rfl (.tmp 36) (.tmp 44) 60 rfl _ _ (.slice p2 m2' cp2) w2 rfl rfl R2.out ?_)
            go_roundg (el - (j + 1))
            · exact ⟨j + 1, _, rfl, by omega, rfl, Q2.out, B2.out⟩
            · have := HJK.out; omega
          · have hjj : j = es.length := by have := HEL.out; have := HJK.out; omega
            have hd : headO (es.drop j) none = none := by rw [List.drop_of_length_le (by omega)]; rfl
            have FR := hid (show RowI w1.heap.size wr vi (Q0 ++ M) by
              have h1 := RI.out
              rw [List.take_of_length_le (by rw [HM.out]; simp; omega)] at h1
              exact h1)
            rw [hd]
            clear hd hjj
            simp only [op_some, op_none]
            go_wp2
            go_roundg (n - (i + 1))
            · exact ⟨i + 1, _, rfl, by omega, by go_num, by rw [QT.out]; exact FR.out, HBI.out⟩
            · have := HIK.out; omega
      · have g2 : (x.1 != pr) = true := by simpa using hpr
        rw [if_neg hpr, List.append_nil] at QT
        clear hpr
        go_wp2
        go_roundg (n - (i + 1))
        · exact ⟨i + 1, _, rfl, by omega, by go_num, by rw [QT.out]; exact RO.out, HB.out⟩
        · have := HIK.out; omega
    · have hin' : i = n := by have := HIK.out; omega
      subst hin'
      have FN := hid (FIN.out vo wr (by
        have h1 := RO.out
        rw [List.take_of_length_le (by rw [HHL.out]; omega)] at h1
        exact h1) HB.out)
      have g1 : decide ((i : Int) < (i : Int)) = false := by simp
      obtain ⟨pv, cv, hvo, _⟩ := RO.out.form
      generalize (queueF pr (H.take i)).length = mv at hvo
      subst hvo
      go_wp2
      exact FN.out
end Go.Proofs.Ytdjhpldiifdifaa
namespace Go.Proofs.Ytdjhpldiifdifaa
set_option linter.unusedSimpArgs false
set_option linter.unusedVariables false
open Go.RowKit Go.Shelf
attribute [local go_sem] Oper.semAt_some
attribute [local go_sem ↓] Go.wp_at_zero Go.wp_at_succ

set_option maxRecDepth 100000 in
set_option maxHeartbeats 4000000 in
theorem depth_none (w : World) (b : Nat) {s : Int} (hs : sideB s = false) (most : Int) :
    Calls Try.prog 24 #[pt b, .int .i64 s, .int .i64 most] w fun e w' => e = .returned (.slice none 0 0) ∧ w' = w := by
  have LV := hid (levels_none w b hs)
  clear hs
  obtain ⟨R, hR⟩ : ∃ R : Ending → World → Prop, R = fun e w' => e = .returned (.slice none 0 0) ∧ w' = w := ⟨_, rfl⟩
  have FIN := hid (show R (.returned (.slice none 0 0)) w by rw [hR]; exact ⟨rfl, rfl⟩)
  rw [← hR]
  clear hR
  go_enter Try.func24, Try.ntmps24
  go_wp2_with fail
  refine LV.out.mono ?_
  rintro e w1 ⟨rfl, rfl⟩
  go_wp2
  go_loopg [7, 14] 0 (fun k s7 s14 wr => s7 = .slice none 0 0 ∧ s14 = .int .i64 0 ∧ wr = w1)
  case atStart => exact ⟨rfl, rfl, rfl⟩
  case round =>
    obtain ⟨rfl, rfl, rfl⟩ := hrel
    go_wp2
    exact FIN.out
set_option maxRecDepth 100000 in
set_option maxHeartbeats 4000000 in
theorem queue_none (w : World) (b : Nat) {s : Int} (hs : sideB s = false) (pr : Int) :
    Calls Try.prog 23 #[pt b, .int .i64 s, .int .i64 pr] w fun e w' => e = .returned (.slice none 0 0) ∧ w' = w := by
  have LV := hid (levels_none w b hs)
  clear hs
  obtain ⟨R, hR⟩ : ∃ R : Ending → World → Prop, R = fun e w' => e = .returned (.slice none 0 0) ∧ w' = w := ⟨_, rfl⟩
  have FIN := hid (show R (.returned (.slice none 0 0)) w by rw [hR]; exact ⟨rfl, rfl⟩)
  rw [← hR]
  clear hR
  go_enter Try.func23, Try.ntmps23
  go_wp2_with fail
  refine LV.out.mono ?_
  rintro e w1 ⟨rfl, rfl⟩
  go_wp2
  go_loopg [7, 15] 0 (fun k s7 s15 wr => s7 = .slice none 0 0 ∧ s15 = .int .i64 0 ∧ wr = w1)
  case atStart => exact ⟨rfl, rfl, rfl⟩
  case round =>
    obtain ⟨rfl, rfl, rfl⟩ := hrel
    go_wp2
    exact FIN.out
end Go.Proofs.Ytdjhpldiifdifaa
