/- The reference's Numbers. The reference's Numbers: walked. -/
import Derived.Test.YtdjhpldiifdifaaJRm1
import Derived.Test.YtdjhpldiifdifaaJRm6
import Derived.Test.YtdjhpldiifdifaaJRwi
namespace Go.Proofs.Ytdjhpldiifdifaa
set_option linter.unusedSimpArgs false
set_option linter.unusedVariables false
open Go.RowKit Go.Shelf
attribute [local go_sem] Oper.semAt_some
attribute [local go_sem ↓] Go.wp_at_zero Go.wp_at_succ

def numB (wt : Bool) (last : Int) (x : Rn) (b : Int) : Bool := (x.w || !wt) && (decide (last < x.n) && (decide (b = 0) || decide (x.n < b)))
/-- The least number above another one among the first k. -/
def bestN (wt : Bool) (last : Int) (L : List Rn) : Nat → Int
  | 0 => 0
  | k + 1 => match L[k]? with
    | none => bestN wt last L k
    | some x => if numB wt last x (bestN wt last L k) = true then x.n else bestN wt last L k
theorem bestN_succ (wt : Bool) (last : Int) {L : List Rn} {k : Nat} (hk : k < L.length) : bestN wt last L (k + 1) = if numB wt last L[k] (bestN wt last L k) = true then L[k].n else bestN wt last L k := by
  rw [bestN, List.getElem?_eq_getElem hk]
theorem bestN_spec {wt : Bool} {last : Int} {L : List Rn} (hp : ∀ x ∈ L, 1 ≤ x.n) : ∀ k, k ≤ L.length →
    (bestN wt last L k = 0 ∧ ∀ (j : Nat) (h : j < L.length), j < k → ¬ ((L[j].w || !wt) = true ∧ last < L[j].n)) ∨
    ∃ (i : Nat) (hi : i < L.length), bestN wt last L k = L[i].n ∧ (L[i].w || !wt) = true ∧ last < L[i].n ∧ ∀ (j : Nat) (h : j < L.length), j < k → (L[j].w || !wt) = true → last < L[j].n → L[i].n ≤ L[j].n
  | 0, _ => .inl ⟨rfl, fun _ _ h => absurd h (by omega)⟩
  | k + 1, hk => by
    have hkl : k < L.length := by omega
    have ih := bestN_spec (wt := wt) (last := last) hp k (by omega)
    rw [bestN_succ wt last hkl]
    by_cases hb : numB wt last L[k] (bestN wt last L k) = true
    · rw [if_pos hb]
      unfold numB at hb
      simp only [Bool.and_eq_true, decide_eq_true_eq, Bool.or_eq_true (decide _) (decide _)] at hb
      obtain ⟨h1, h2, h3⟩ := hb
      refine .inr ⟨k, hkl, rfl, h1, h2, fun j h hj hw hl => ?_⟩
      by_cases e : j = k
      · subst e; exact Int.le_refl _
      · rcases ih with ⟨_, i2⟩ | ⟨i, hi, i1, i2, i3, i4⟩
        · exact absurd ⟨hw, hl⟩ (i2 j h (by omega))
        · have := i4 j h (by omega) hw hl
          have := hp L[i] (List.getElem_mem hi)
          rw [i1] at h3
          rcases h3 with h3 | h3 <;> omega
    · rw [if_neg hb]
      rcases ih with ⟨i1, i2⟩ | ⟨i, hi, i1, i2, i3, i4⟩
      · refine .inl ⟨i1, fun j h hj hc => ?_⟩
        by_cases e : j = k
        · subst e
          apply hb
          unfold numB
          rw [i1, hc.1, decide_eq_true hc.2]
          rfl
        · exact i2 j h (by omega) hc
      · refine .inr ⟨i, hi, i1, i2, i3, fun j h hj hw hl => ?_⟩
        by_cases e : j = k
        · subst e
          refine Int.not_lt.1 fun hlt => hb ?_
          unfold numB
          rw [i1, hw, decide_eq_true hl, decide_eq_true hlt]
          simp
        · exact i4 j h (by omega) hw hl
/-- The numbers of the entries, rising. -/
structure NumsR (wt : Bool) (L : List Rn) (T : List Int) : Prop where
  rise : T.Pairwise (· < ·)
  mem : ∀ n, n ∈ T ↔ ∃ x ∈ L, (x.w || !wt) = true ∧ x.n = n
def lastT (T : List Int) (j : Nat) : Int := if j = 0 then 0 else T.getD (j - 1) 0
theorem rise_lt {T : List Int} (h : T.Pairwise (· < ·)) {i j : Nat} (hj : j < T.length) (hij : i < j) : T[i]'(by omega) < T[j] := List.pairwise_iff_getElem.1 h i j (by omega) hj hij
theorem bestN_T {wt : Bool} {L : List Rn} {T : List Int} (h : NumsR wt L T) (hp : ∀ x ∈ L, 1 ≤ x.n) {j : Nat} (hj : j ≤ T.length) : bestN wt (lastT T j) L L.length = T.getD j 0 := by
  have hl : ∀ k (hk : k < T.length), lastT T j < T[k] ↔ j ≤ k := fun k hk => by
    unfold lastT
    by_cases h0 : j = 0
    · rw [if_pos h0]
      obtain ⟨x, hx, _, hn⟩ := (h.mem T[k]).1 (List.getElem_mem hk)
      have := hp x hx
      constructor <;> omega
    · rw [if_neg h0, List.getD_eq_getElem?_getD, List.getElem?_eq_getElem (show j - 1 < T.length by omega)]
      simp only [Option.getD_some]
      constructor
      · intro hlt
        refine Nat.not_lt.1 fun hkj => ?_
        rcases Nat.lt_or_ge k (j - 1) with h1 | h1
        · have := rise_lt h.rise (show j - 1 < T.length by omega) h1; omega
        · have e : k = j - 1 := by omega
          subst e; omega
      · intro hjk
        exact rise_lt h.rise hk (by omega)
  rcases bestN_spec (wt := wt) (last := lastT T j) hp L.length (Nat.le_refl _) with ⟨h1, h2⟩ | ⟨i, hi, h1, h2, h3, h4⟩
  · rw [h1]
    rcases Nat.lt_or_ge j T.length with hlt | hge
    · exfalso
      obtain ⟨x, hx, hw, hn⟩ := (h.mem T[j]).1 (List.getElem_mem hlt)
      obtain ⟨k, hk, rfl⟩ := List.getElem_of_mem hx
      exact h2 k hk hk ⟨hw, by rw [hn]; exact (hl j hlt).2 (Nat.le_refl _)⟩
    · rw [List.getD_eq_getElem?_getD, List.getElem?_eq_none hge]; rfl
  · rw [h1]
    have hm : L[i].n ∈ T := (h.mem _).2 ⟨L[i], List.getElem_mem hi, h2, rfl⟩
    obtain ⟨k, hk, hkn⟩ := List.getElem_of_mem hm
    have hjk := (hl k hk).1 (by rw [hkn]; exact h3)
    have hlt : j < T.length := by omega
    rw [List.getD_eq_getElem?_getD, List.getElem?_eq_getElem hlt]
    simp only [Option.getD_some]
    obtain ⟨x, hx, hw, hn⟩ := (h.mem T[j]).1 (List.getElem_mem hlt)
    obtain ⟨q, hq, rfl⟩ := List.getElem_of_mem hx
    have h5 := h4 q hq hq hw (by rw [hn]; exact (hl j hlt).2 (Nat.le_refl _))
    rw [hn] at h5
    rcases Nat.lt_or_ge j k with h6 | h6
    · have := rise_lt h.rise hk h6; omega
    · have e : j = k := by omega
      subst e; omega
end Go.Proofs.Ytdjhpldiifdifaa
namespace Go.Proofs.Ytdjhpldiifdifaa
set_option linter.unusedSimpArgs false
set_option linter.unusedVariables false
open Go.RowKit Go.Shelf
attribute [local go_sem] Oper.semAt_some
attribute [local go_sem ↓] Go.wp_at_zero Go.wp_at_succ

theorem ri_append {B : Nat} {w : World} {v : Value} {l : List Int} (h : RowI B w v l) (hB : B ≤ w.heap.size) {u : Value} {m : List Int} (hu : SrcE encI 1 w u m) (hn : l.length + m.length ≤ 1000000) (ty : TypeId) :
    ∃ v' w', (Builtin.append_ #[60, 60] ty #[v, u]).run Try.prog w = .ok v' w' ∧ RowI B w' v' (l ++ m) ∧ Kept (fun k => some k = v.ownBlock) w w' ∧ (v'.ownBlock = v.ownBlock ∨ v'.ownBlock = some w.heap.size) :=
  own_append undInt infoInt rfl (by decide) (fun _ => rfl) (fun a u hu => by rw [List.mem_singleton.1 hu]; rfl) h hB hu (by unfold maxLen; omega) (by omega)

set_option maxRecDepth 100000 in
set_option maxHeartbeats 8000000 in
theorem numbers_rcalls (w : World) {v : Value} {L : List Rn} (h : RowR 0 w v L) (hn : L.length ≤ 100000) (nums turn paid : Int) (wt : Bool) {T : List Int} (hT : NumsR wt L T) (hp : ∀ x ∈ L, 1 ≤ x.n) (hTl : T.length ≤ 100000) :
    Calls Try.prog 64 #[rbV v nums turn paid, .bool wt] w fun e w' => ∃ u, e = .returned u ∧ RowI w.heap.size w' u T ∧ Below w.heap.size w w' := by
  obtain ⟨p, cap, g, rfl, hpp, hc⟩ := h.rows
  have HC := hid hc
  have HP := hid hpp
  have HT := hid hT
  have HPN := hid hp
  obtain ⟨R, hR⟩ : ∃ R : Ending → World → Prop, R = fun e w' => ∃ u, e = .returned u ∧ RowI w.heap.size w' u T ∧ Below w.heap.size w w' := ⟨_, rfl⟩
  have FIN := hid (show ∀ (u : Value) (w' : World), RowI w.heap.size w' u T → Below w.heap.size w w' → R (.returned u) w' by intro u w' hi hb; rw [hR]; exact ⟨u, rfl, hi, hb⟩)
  rw [← hR]
  have L0 := hid (LpB.start w (.slice p L.length cap) nums turn paid)
  obtain ⟨n, hnn⟩ : ∃ n, n = L.length := ⟨_, rfl⟩
  have HN := hid hnn
  rw [← hnn] at hn L0 ⊢
  unfold rbV
  obtain ⟨tn, htn⟩ : ∃ tn, tn = T.length := ⟨_, rfl⟩
  have HTN := hid htn
  rw [← htn] at hTl
  clear hR h hpp hc hnn hT hp htn
  go_enter Try.func64, Try.ntmps64
  go_wp2
  go_loopg [5, 6] (tn + 1) (fun k s5 s6 wr => ∃ (j : Nat) (vo : Value), vo = s5 ∧ j + k = tn + 1 ∧ j ≤ tn ∧ s6 = .int .i64 (lastT T j) ∧ RowI w.heap.size wr vo (T.take j) ∧ LpB w (.slice p n cap) nums turn paid wr)
  case atStart => exact ⟨0, _, rfl, by omega, by omega, rfl, OwnE.nil _ _, L0.out⟩
  case round =>
    obtain ⟨j, vo, rfl, hjk, hjt, rfl, ro, lp⟩ := hrel
    have LP := hid lp
    have RO := hid ro
    have HJK := hid hjk
    clear lp ro hjk
    obtain ⟨la, hla⟩ : ∃ la, la = lastT T j := ⟨_, rfl⟩
    rw [← hla]
    have HLA := hid hla
    have BT := hid (show bestN wt la L L.length = T.getD j 0 by rw [hla]; exact bestN_T HT.out HPN.out (by rw [← HTN.out]; exact hjt))
    clear hla
    obtain ⟨wo, rfl⟩ : ∃ wo : World, wo = wr := ⟨_, rfl⟩
    go_upto_block 2 with fail
    go_cut [7] (fun s7 wx => s7 = .int .i64 (T.getD j 0) ∧ RowI w.heap.size wx vo (T.take j) ∧ LpB w (.slice p n cap) nums turn paid wx)
    case first =>
      go_wp2_with fail
      go_loopg [7, 8] n (fun k s7 s8 wr => ∃ i : Nat, i + k = n ∧ s8 = .int .i64 i ∧ s7 = .int .i64 (bestN wt la L i) ∧ RowI w.heap.size wr vo (T.take j) ∧ LpB w (.slice p n cap) nums turn paid wr)
      case atStart => exact ⟨0, by omega, rfl, rfl, RO.out, LP.out⟩
      case round =>
        obtain ⟨i, hik, rfl, rfl, ri, li⟩ := hrel
        obtain ⟨t0, _, _, _, hwl⟩ := li.cell
        have RI := hid ri
        have LI := hid li
        have HIK := hid hik
        clear ri li hik
        by_cases hin : i < n
        · have hil : i < L.length := by rw [← HN.out]; exact hin
          obtain ⟨rfl, hg⟩ := HP.out (by omega)
          obtain ⟨c0, c1, c2, c3, c4, c5, c6, c7, c8, c9, c10, c11, c12⟩ := HC.out wr LI.out.below i hil
          obtain ⟨x, hx⟩ : ∃ x, x = L[i] := ⟨_, rfl⟩
          rw [← hx] at c0 c1 c2 c3 c4 c5 c6 c7 c8 c9 c10 c11 c12
          have BS := bestN_succ wt la hil
          rw [← hx] at BS
          have hgr : g < wr.heap.size := Nat.lt_of_lt_of_le hg LI.out.below.size
          obtain ⟨bb, hbb⟩ : ∃ bb, bb = bestN wt la L i := ⟨_, rfl⟩
          rw [← hbb] at BS ⊢
          obtain ⟨D, hD⟩ : ∃ D, D = numB wt la x bb := ⟨_, rfl⟩
          rw [← hD] at BS
          have BSH := hid BS
          unfold numB at hD
          have LA := hid (LI.out.alloc (.cells (encRn x).toArray 53))
          have RA := hid (OwnE.alloc RI.out (.cells (encRn x).toArray 53))
          unfold encRn at LA RA
          obtain ⟨wa, hwa⟩ : ∃ wa, wa = wr.alloc (.cells #[.int .i64 x.n, .int .i64 x.o.m, .int .i64 x.o.s, .int .i64 x.o.k, .int .i64 x.o.f, .int .i64 x.o.p, .int .i64 x.o.t, .int .i64 x.o.q, .int .i64 x.o.pk, .int .i64 x.l, .int .i64 x.h, .bool x.w, .int .i64 x.t] 53) := ⟨_, rfl⟩
          have HWA := hid hwa
          have a0 : wa.cell? ⟨wr.heap.size, 0, none⟩ = some (.int .i64 x.n) := by rw [hwa, (Cells.new wr _ _).cell]; rfl
          have a11 : wa.cell? ⟨wr.heap.size, 11, none⟩ = some (.bool x.w) := by rw [hwa, (Cells.new wr _ _).cell]; rfl
          have al : wr.heap.size < wa.heap.size := by rw [hwa]; exact (Cells.new wr _ _).lt
          clear hx BS hbb hwa
          go_upto_region 8 with fail
          rw [← HWA.out]
          clear c0 c1 c2 c3 c4 c5 c6 c7 c8 c9 c10 c11 c12
          go_cut [43] (fun s43 wx => s43 = .bool D ∧ wx = wa)
          case first =>
            cases hw : (x.w || !wt) with
            | false =>
              rw [hw] at hD
              have e : D = false := by rw [hD]; rfl
              subst e
              cases hx1 : x.w with
              | true => rw [hx1] at hw; cases hw
              | false =>
                cases wt with
                | false => rw [hx1] at hw; cases hw
                | true =>
                  rw [hx1] at a11
                  clear hD hw hx1
                  go_wp2
                  go_meet
                  exact ⟨rfl, rfl⟩
            | true =>
              rw [hw, Bool.true_and] at hD
              have hx2 : x.w = true ∨ (x.w = false ∧ wt = false) := by cases h1 : x.w <;> cases h2 : wt <;> simp_all
              have key : (decide (la < x.n) = false ∧ D = false) ∨ (decide (la < x.n) = true ∧ (bb == 0) = true ∧ D = true) ∨ (decide (la < x.n) = true ∧ (bb == 0) = false ∧ D = decide (x.n < bb)) := by
                by_cases h1 : la < x.n
                · by_cases h2 : bb = 0
                  · exact .inr (.inl ⟨by simpa using h1, by simpa using h2, by rw [hD]; simp [h1, h2]⟩)
                  · exact .inr (.inr ⟨by simpa using h1, by simpa using h2, by rw [hD]; simp [h1, h2]⟩)
                · exact .inl ⟨by simpa using h1, by rw [hD]; simp [h1]⟩
              clear hD hw
              rcases hx2 with hx1 | ⟨hx1, rfl⟩
              all_goals (
                rw [hx1] at a11
                clear hx1
                rcases key with ⟨k1, rfl⟩ | ⟨k1, k2, rfl⟩ | ⟨k1, k2, k3⟩
                · go_wp2
                  go_meet
                  exact ⟨rfl, rfl⟩
                · go_wp2
                  go_meet
                  exact ⟨rfl, rfl⟩
                · subst k3
                  go_wp2
                  go_meet
                  exact ⟨rfl, rfl⟩)
          case rest =>
            obtain ⟨rfl, rfl⟩ := hcut
            clear hD
            cases D with
            | true =>
              rw [if_pos rfl] at BSH
              go_wp2
              go_roundg (n - (i + 1))
              · exact ⟨i + 1, by omega, by go_num, by rw [BSH.out], by rw [HWA.out]; exact RA.out, by rw [HWA.out]; exact LA.out⟩
              · have := HIK.out; omega
            | false =>
              rw [if_neg (by decide)] at BSH
              go_wp2
              go_roundg (n - (i + 1))
              · exact ⟨i + 1, by omega, by go_num, by rw [BSH.out], by rw [HWA.out]; exact RA.out, by rw [HWA.out]; exact LA.out⟩
              · have := HIK.out; omega
        · have hin' : i = n := by have := HIK.out; omega
          subst hin'
          have g1 : decide ((i : Int) < (i : Int)) = false := by simp
          go_wp2
          go_meet
          exact ⟨by rw [← BT.out, ← HN.out], RI.out, LI.out⟩
    case rest =>
      obtain ⟨rfl, ro2, lp2⟩ := hcut
      have RO2 := hid ro2
      have LP2 := hid lp2
      clear ro2 lp2 BT HLA
      obtain ⟨tj, htj⟩ : ∃ tj, tj = T.getD j 0 := ⟨_, rfl⟩
      rw [← htj]
      have HTJ := hid htj
      clear htj
      obtain ⟨pv, cv, hvo, _⟩ := RO2.out.form
      generalize (T.take j).length = mv at hvo
      subst hvo
      by_cases hj : j < tn
      · have hjl : j < T.length := by rw [← HTN.out]; exact hj
        have hpos : 1 ≤ tj := by
          rw [HTJ.out, List.getD_eq_getElem?_getD, List.getElem?_eq_getElem hjl]
          obtain ⟨x, hx, _, hn'⟩ := (HT.out.mem T[j]).1 (List.getElem_mem hjl)
          have := HPN.out x hx
          simp only [Option.getD_some]
          omega
        have g1 : (tj == 0) = false := by simp; omega
        obtain ⟨v2, w2, r2, q2, k2, _⟩ := ri_append (OwnE.alloc RO2.out (.cells #[.int .i64 tj] 3)) (Nat.le_trans LP2.out.below.size (by simp)) (SrcE.one (a := tj) (enc := encI) (sz := 1) (Cells.new wc #[.int .i64 tj] 3)) (by rw [List.length_take]; simp; omega) 60
        have lp3 : LpB w (.slice p n cap) nums turn paid w2 := by
          have l1 := LP2.out.alloc (.cells #[.int .i64 tj] 3)
          exact ⟨l1.below.trans (k2.below (B := w.heap.size) l1.below.size (fun k e => own_ge (OwnE.alloc RO2.out (.cells #[.int .i64 tj] 3)) k e.symm)), l1.top.kept k2 (fun e => row_ne (OwnE.alloc RO2.out (.cells #[.int .i64 tj] 3)) l1.top (by decide) _ e.symm rfl)⟩
        have e2 : T.take (j + 1) = T.take j ++ [tj] := by rw [List.take_succ_eq_append_getElem hjl, HTJ.out, List.getD_eq_getElem?_getD, List.getElem?_eq_getElem hjl]; rfl
        rw [← e2] at q2
        have e3 : lastT T (j + 1) = tj := by unfold lastT; rw [if_neg (by omega), HTJ.out]; rfl
        obtain ⟨p2, c2, hv2, _⟩ := q2.form
        generalize (T.take (j + 1)).length = m2 at hv2
        subst hv2
        have R2 := hid r2
        have Q2 := hid q2
        have LP3 := hid lp3
        have E3 := hid e3
        clear r2 q2 k2 lp3 e2 e3 hpos
        go_wp2_with (at_builtin; refine wpList_append_run rfl (.tmp 49) (.tmp 51) 60 rfl _ _ (.slice p2 m2 c2) w2 rfl rfl R2.out ?_)
        go_roundg (tn - j)
        · exact ⟨j + 1, _, rfl, by omega, by omega, by rw [E3.out], Q2.out, LP3.out⟩
        · have := HJK.out; omega
      · have hj' : j = tn := by omega
        have hz : tj = 0 := by rw [HTJ.out, List.getD_eq_getElem?_getD, List.getElem?_eq_none (by rw [← HTN.out]; omega)]; rfl
        subst hz
        have FN := hid (FIN.out (.slice pv mv cv) wc (by have h1 := RO2.out; rw [List.take_of_length_le (by rw [← HTN.out]; omega)] at h1; exact h1) LP2.out.below)
        go_wp2
        exact FN.out
end Go.Proofs.Ytdjhpldiifdifaa
