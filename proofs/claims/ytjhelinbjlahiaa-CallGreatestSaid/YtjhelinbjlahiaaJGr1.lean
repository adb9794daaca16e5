/- The reference's Greatest: the walk. -/
import Derived.Test.YtjhelinbjlahiaaJGr0
import Derived.Test.YtjhelinbjlahiaaJSh0
namespace Go.Proofs.Ytjhelinbjlahiaa
set_option linter.unusedSimpArgs false
set_option linter.unusedVariables false
open Go.RowKit
attribute [local go_sem] Oper.semAt_some
attribute [local go_sem ↓] Go.wp_at_zero Go.wp_at_succ
def t1B (l : List Bd) (b : Int) (i : Nat) : Bool := decide ((bAt l i).s = 1 ∧ (b < 0 ∨ (bAt l b).p < (bAt l i).p))
def t2B (l : List Bd) (s : Int) (i : Nat) : Bool := decide ((bAt l i).s ≠ 1 ∧ (s < 0 ∨ (bAt l i).p < (bAt l s).p))
theorem BstB.skip {l : List Bd} {lf : Nat → Int} {b : Int} {i : Nat} (h : BstB l lf b i) (hi : lf i = 0) : BstB l lf b (i + 1) := by
  rcases h with ⟨h1, h2⟩ | ⟨kb, h1, h2, h3, h4, h5⟩
  · refine .inl ⟨h1, fun k hk hs => ?_⟩
    by_cases e : k = i
    · subst e; exact hi
    · exact h2 k (by omega) hs
  · refine .inr ⟨kb, h1, by omega, h3, h4, fun k hk hs hl => ?_⟩
    by_cases e : k = i
    · subst e; exact absurd hi hl
    · exact h5 k (by omega) hs hl
theorem BstS.skip {l : List Bd} {lf : Nat → Int} {b : Int} {i : Nat} (h : BstS l lf b i) (hi : lf i = 0) : BstS l lf b (i + 1) := by
  rcases h with ⟨h1, h2⟩ | ⟨kb, h1, h2, h3, h4, h5⟩
  · refine .inl ⟨h1, fun k hk hs => ?_⟩
    by_cases e : k = i
    · subst e; exact hi
    · exact h2 k (by omega) hs
  · refine .inr ⟨kb, h1, by omega, h3, h4, fun k hk hs hl => ?_⟩
    by_cases e : k = i
    · subst e; exact absurd hi hl
    · exact h5 k (by omega) hs hl
theorem BstB.next {l : List Bd} {lf : Nat → Int} {b : Int} {i : Nat} (h : BstB l lf b i) (hi : lf i ≠ 0) : BstB l lf (if t1B l b i then (i : Int) else b) (i + 1) := by
  unfold t1B
  by_cases hs : (bAt l i).s = 1
  · rcases h with ⟨h1, h2⟩ | ⟨kb, h1, h2, h3, h4, h5⟩
    · rw [if_pos (by simp [hs]; omega)]
      refine .inr ⟨i, rfl, by omega, hs, hi, fun k hk hs hl => ?_⟩
      by_cases e : k = i
      · subst e; exact Int.le_refl _
      · exact absurd (h2 k (by omega) hs) hl
    · subst h1
      by_cases hp : (bAt l kb).p < (bAt l i).p
      · rw [if_pos (by simp [hs]; omega)]
        refine .inr ⟨i, rfl, by omega, hs, hi, fun k hk hs hl => ?_⟩
        by_cases e : k = i
        · subst e; exact Int.le_refl _
        · have := h5 k (by omega) hs hl; omega
      · rw [if_neg (by simp [hs]; omega)]
        refine .inr ⟨kb, rfl, by omega, h3, h4, fun k hk hs hl => ?_⟩
        by_cases e : k = i
        · subst e; omega
        · exact h5 k (by omega) hs hl
  · rw [if_neg (by simp [hs])]
    rcases h with ⟨h1, h2⟩ | ⟨kb, h1, h2, h3, h4, h5⟩
    · refine .inl ⟨h1, fun k hk hs' => ?_⟩
      by_cases e : k = i
      · subst e; exact absurd hs' hs
      · exact h2 k (by omega) hs'
    · refine .inr ⟨kb, h1, by omega, h3, h4, fun k hk hs' hl => ?_⟩
      by_cases e : k = i
      · subst e; exact absurd hs' hs
      · exact h5 k (by omega) hs' hl
theorem BstS.next {l : List Bd} {lf : Nat → Int} {b : Int} {i : Nat} (h : BstS l lf b i) (hi : lf i ≠ 0) : BstS l lf (if t2B l b i then (i : Int) else b) (i + 1) := by
  unfold t2B
  by_cases hs : (bAt l i).s ≠ 1
  · rcases h with ⟨h1, h2⟩ | ⟨kb, h1, h2, h3, h4, h5⟩
    · rw [if_pos (by simp [hs]; omega)]
      refine .inr ⟨i, rfl, by omega, hs, hi, fun k hk hs hl => ?_⟩
      by_cases e : k = i
      · subst e; exact Int.le_refl _
      · exact absurd (h2 k (by omega) hs) hl
    · subst h1
      by_cases hp : (bAt l i).p < (bAt l kb).p
      · rw [if_pos (by simp [hs]; omega)]
        refine .inr ⟨i, rfl, by omega, hs, hi, fun k hk hs hl => ?_⟩
        by_cases e : k = i
        · subst e; exact Int.le_refl _
        · have := h5 k (by omega) hs hl; omega
      · rw [if_neg (by simp [hs]; omega)]
        refine .inr ⟨kb, rfl, by omega, h3, h4, fun k hk hs hl => ?_⟩
        by_cases e : k = i
        · subst e; omega
        · exact h5 k (by omega) hs hl
  · rw [if_neg (by simp at hs; simp [hs])]
    rcases h with ⟨h1, h2⟩ | ⟨kb, h1, h2, h3, h4, h5⟩
    · refine .inl ⟨h1, fun k hk hs' => ?_⟩
      by_cases e : k = i
      · subst e; exact absurd hs' hs
      · exact h2 k (by omega) hs'
    · refine .inr ⟨kb, h1, by omega, h3, h4, fun k hk hs' hl => ?_⟩
      by_cases e : k = i
      · subst e; exact absurd hs' hs
      · exact h5 k (by omega) hs' hl

set_option maxRecDepth 100000 in
set_option maxHeartbeats 8000000 in
theorem greatest_rcalls {w : World} {v : Value} {l : List Bd} (hv : ReadsE encBd 3 w v l) (hl : l.length ≤ 4096) (hok : ∀ b ∈ l, b.ok) :
    Calls Try.prog 35 #[v] w fun e w' => ∃ g, e = .returned (.int .i64 g) ∧ GrE l g ∧ Below w.heap.size w w' := by
  obtain ⟨hm, p, cap, bb, off, rfl, hp, hc⟩ := hv
  obtain ⟨n, hn⟩ : ∃ n, n = l.length := ⟨_, rfl⟩
  obtain ⟨R, hR⟩ : ∃ R : Ending → World → Prop, R = fun e w' => ∃ g, e = .returned (.int .i64 g) ∧ GrE l g ∧ Below w.heap.size w w' := ⟨_, rfl⟩
  rw [← hR]
  have FN := hid (show ∀ g, GrE l g → ∀ w', Below w.heap.size w w' → R (.returned (.int .i64 g)) w' from fun g q w' h => by rw [hR]; exact ⟨g, rfl, q, h⟩)
  rw [← hn] at hp hm hl ⊢
  have HN := hid hn
  have CE := hid (show ∀ wx, Below w.heap.size w wx → ∀ k : Nat, k < n → p = some ⟨bb, off, none⟩ ∧ wx.cell? ⟨bb, off + k * 3, none⟩ = some (.int .i64 (bAt l k).s) ∧ wx.cell? ⟨bb, off + k * 3 + 1, none⟩ = some (.int .i64 (bAt l k).p) ∧ wx.cell? ⟨bb, off + k * 3 + 2, none⟩ = some (.int .i64 (bAt l k).q) from fun wx hb k hk => by
    obtain ⟨h1, hbb⟩ := hp (by omega)
    have hkl : k < l.length := by omega
    rw [bAt_get hkl]
    refine ⟨h1, ?_, ?_, ?_⟩
    · have := (hb.cell (p := ⟨bb, off + k * 3 + 0, none⟩) hbb).trans (hc k hkl 0 (by omega)); simpa [encBd] using this
    · have := (hb.cell (p := ⟨bb, off + k * 3 + 1, none⟩) hbb).trans (hc k hkl 1 (by omega)); simpa [encBd] using this
    · have := (hb.cell (p := ⟨bb, off + k * 3 + 2, none⟩) hbb).trans (hc k hkl 2 (by omega)); simpa [encBd] using this)
  have BO := hid (show ∀ k : Nat, k < n → (bAt l k).ok from fun k hk => by rw [bAt_get (by omega)]; exact hok _ (List.getElem_mem _))
  have G0 := hid (GrS.start hok)
  have GL := hid (fun lf g (h : GrS l lf g) he => GrS.last hok h he)
  have SMALL := hid (fun lf g (h : GrS l lf g) => GrS.small (by omega) hok h)
  have hmk := mk_i64 w n (by omega)
  have R0 := hid (RowL.made w n)
  have B0 := hid (show Below w.heap.size w (w.alloc (.cells (madeCells #[.int .i64 0] n) 2)) from (Below.refl _ _).alloc (Nat.le_refl _) _)
  clear hR hn hp hc hok
  go_enter Try.func35, Try.ntmps35
  go_upto_region 3 with fail
  go_loopg [4] n (fun k s4 wx => ∃ i : Nat, i + k = n ∧ s4 = .int .i64 i ∧ RowL wx w.heap.size n (fun k => if k < i then (bAt l k).q else 0) ∧ Below w.heap.size w wx)
  case atStart => exact ⟨0, by omega, rfl, by simpa using R0.out, B0.out⟩
  case round =>
    obtain ⟨i, hik, rfl, hr, hb⟩ := hrel
    have HIK := hid hik
    have RR := hid hr
    have B := hid hb
    clear hik hr hb
    by_cases hin : i < n
    · obtain ⟨rfl, c0, c1, c2⟩ := CE.out wr B.out i hin
      have d0 := RR.out.cell hin
      rw [if_neg (by omega)] at d0
      have d1 := RR.out.froz i
      have d2 := RR.out.lt
      have gi : (i : Int) < (n : Int) := by omega
      have gi0 : (0 : Int) ≤ (i : Int) := by omega
      obtain ⟨q, hq⟩ : ∃ q, q = (bAt l i).q := ⟨_, rfl⟩
      rw [← hq] at c2
      have NX := hid (show RowL (wr.setCell ⟨w.heap.size, i, none⟩ (.int .i64 q)) w.heap.size n (fun k => if k < i + 1 then (bAt l k).q else 0) ∧ Below w.heap.size w (wr.setCell ⟨w.heap.size, i, none⟩ (.int .i64 q)) from by
        refine ⟨(RR.out.set i q).congr' fun k hk => ?_, B.out.trans ((set_kept wr w.heap.size i _).below B.out.size (fun k hk => by omega))⟩
        by_cases e : k = i
        · subst e; rw [if_pos rfl, if_pos (by omega), hq]
        · rw [if_neg e]
          by_cases c : k < i
          · rw [if_pos c, if_pos (by omega)]
          · rw [if_neg c, if_neg (by omega)])
      clear hq c0 c1
      go_wp2
      go_roundg (n - (i + 1))
      · exact ⟨i + 1, by omega, by go_num, NX.out.1, NX.out.2⟩
      · have := HIK.out; omega
    · have hin' : i = n := by have := HIK.out; omega
      subst hin'
      have g1 : decide ((i : Int) < (i : Int)) = false := by simp
      have RQ := hid (RR.out.congr' (f' := fun k => (bAt l k).q) fun k hk => by simp [hk])
      clear hin hmk R0 B0 RR HIK
      obtain ⟨w1, rfl⟩ : ∃ w1 : World, w1 = wr := ⟨_, rfl⟩
      go_upto_region 7 with fail
      go_loopg [5, 6, 7, 8, 9] ((sN (fun k => (bAt l (k : Nat)).q) i).toNat) (fun k s5 s6 s7 s8 s9 wx => ∃ lf g, (sN lf i).toNat = k ∧ s5 = .int .i64 g ∧ GrS l lf g ∧ RowL wx w.heap.size i lf ∧ Below w.heap.size w wx)
      case atStart => exact ⟨_, 0, rfl, rfl, G0.out, RQ.out, B.out⟩
      case round =>
        obtain ⟨lf, g, hk, rfl, hg, hr, hb⟩ := hrel
        have HK := hid hk
        have GS := hid hg
        have RR := hid hr
        have BW := hid hb
        clear hk hg hr hb RQ B G0
        obtain ⟨w2, rfl⟩ : ∃ w2 : World, w2 = wr := ⟨_, rfl⟩
        go_upto_region 9 with fail
        go_loopg [6, 7, 8] i (fun k s6 s7 s8 wx => ∃ (j : Nat) (b s : Int), j + k = i ∧ s8 = .int .i64 j ∧ s6 = .int .i64 b ∧ s7 = .int .i64 s ∧ BstB l lf b j ∧ BstS l lf s j ∧ Below w2.heap.size w2 wx)
        case atStart => exact ⟨0, -1, -1, by omega, rfl, rfl, rfl, .inl ⟨rfl, fun k hk => absurd hk (Nat.not_lt_zero k)⟩, .inl ⟨rfl, fun k hk => absurd hk (Nat.not_lt_zero k)⟩, Below.refl _ _⟩
        case round =>
          obtain ⟨j, b, s, hjk, rfl, rfl, rfl, hBB, hBS, hb⟩ := hrel
          have HJK := hid hjk
          have TB := hid hBB
          have TS := hid hBS
          have B := hid hb
          clear hjk hBB hBS hb
          by_cases hjn : j < i
          · obtain ⟨rfl, c0, c1, _⟩ := CE.out wr (BW.out.trans (B.out.mono BW.out.size)) j hjn
            have rr := RR.out.kept (Kept.of_below (X := fun _ => False) B.out) id
            have d0 := rr.cell hjn
            have gj : (j : Int) < (i : Int) := by omega
            have gj0 : (0 : Int) ≤ (j : Int) := by omega
            clear rr
            by_cases hz : lf j = 0
            · have z1 := TB.out.skip hz
              have z2 := TS.out.skip hz
              have Z1 := hid z1
              have Z2 := hid z2
              rw [hz] at d0
              clear z1 z2 hz c0 c1
              go_wp2
              go_roundg (i - (j + 1))
              · exact ⟨j + 1, b, s, by omega, by go_num, rfl, rfl, Z1.out, Z2.out, B.out⟩
              · have := HJK.out; omega
            · have z1 := TB.out.next hz
              have z2 := TS.out.next hz
              have Z1 := hid z1
              have Z2 := hid z2
              have hzb : (lf j == 0) = false := by simpa using hz
              obtain ⟨y, hy⟩ : ∃ y, y = lf j := ⟨_, rfl⟩
              rw [← hy] at d0 hzb
              clear z1 z2 hz hy
              obtain ⟨w3, rfl⟩ : ∃ w3 : World, w3 = wr := ⟨_, rfl⟩
              go_upto_region 12 with fail
              go_cut [60] (fun sx wx => sx = .bool (t1B l b j) ∧ Below w3.heap.size w3 wx)
              case first =>
                obtain ⟨pj, hpj⟩ : ∃ pj, pj = (bAt l j).p := ⟨_, rfl⟩
                rw [← hpj] at c1
                by_cases hs1 : (bAt l j).s = 1
                · rw [hs1] at c0
                  rcases TB.out with ⟨rfl, _⟩ | ⟨kb, rfl, hkb, _⟩
                  · have T : t1B l (-1) j = true := by unfold t1B; simp [hs1]
                    have TT := hid T
                    clear T hpj hs1
                    go_region
                    all_goals go_wp2
                    all_goals (
                      go_meet
                      exact ⟨by rw [TT.out], (Below.refl _ _).drew⟩)
                  · obtain ⟨_, _, e1, _⟩ := CE.out w3 (BW.out.trans (B.out.mono BW.out.size)) kb (by omega)
                    obtain ⟨pk, hpk⟩ : ∃ pk, pk = (bAt l kb).p := ⟨_, rfl⟩
                    rw [← hpk] at e1
                    have gk : (kb : Int) < (i : Int) := by omega
                    have gk0 : (0 : Int) ≤ (kb : Int) := by omega
                    have gk1 : ¬ (kb : Int) < 0 := by omega
                    by_cases hp : pk < pj
                    · have T : t1B l kb j = true := by unfold t1B; rw [hpk, hpj] at hp; simp [hs1]; omega
                      have TT := hid T
                      clear T hpj hpk hs1 hkb
                      go_region
                      all_goals go_wp2
                      all_goals (
                        go_meet
                        exact ⟨by rw [TT.out], (Below.refl _ _).drew⟩)
                    · have T : t1B l kb j = false := by unfold t1B; rw [hpk, hpj] at hp; simp [hs1]; omega
                      have TT := hid T
                      clear T hpj hpk hs1 hkb
                      go_region
                      all_goals go_wp2
                      all_goals (
                        go_meet
                        exact ⟨by rw [TT.out], (Below.refl _ _).drew⟩)
                · have hs2 : (bAt l j).s = 2 := by have := (BO.out j hjn).1; omega
                  rw [hs2] at c0
                  have T : t1B l b j = false := by unfold t1B; simp [hs1]
                  have TT := hid T
                  clear T hpj hs1 hs2
                  go_region
                  all_goals go_wp2
                  all_goals (
                    go_meet
                    exact ⟨by rw [TT.out], (Below.refl _ _).drew⟩)
              case rest =>
              obtain ⟨rfl, hb4⟩ := hcut
              obtain ⟨w4, rfl⟩ : ∃ w4 : World, w4 = wc := ⟨_, rfl⟩
              have B4 := hid (B.out.trans (hb4.mono B.out.size))
              obtain ⟨t1, ht1⟩ : ∃ t1, t1 = t1B l b j := ⟨_, rfl⟩
              rw [← ht1] at Z1 ⊢
              clear hb4 ht1 c0 c1 d0 hzb
              obtain ⟨b', hb'⟩ : ∃ b' : Int, (if t1 = true then (j : Int) else b) = b' := ⟨_, rfl⟩
              rw [hb'] at Z1
              have HB' := hid hb'
              clear hb'
              go_upto_if 60 with fail
              go_cut [6] (fun s6 wx => s6 = .int .i64 b' ∧ wx = w4)
              case first =>
                have hb' := HB'.out
                cases t1 with
                | true =>
                  have e : (j : Int) = b' := by simpa using hb'
                  subst e
                  clear hb' HB'
                  go_wp2
                  go_meet
                  exact ⟨rfl, rfl⟩
                | false =>
                  have e : b = b' := by simpa using hb'
                  subst e
                  clear hb' HB'
                  go_wp2
                  go_meet
                  exact ⟨rfl, rfl⟩
              case rest =>
              obtain ⟨rfl, rfl⟩ := hcut
              clear HB'
              obtain ⟨_, c0, c1, _⟩ := CE.out wc (BW.out.trans (B4.out.mono BW.out.size)) j hjn
              obtain ⟨w4, rfl⟩ : ∃ w4 : World, w4 = wc := ⟨_, rfl⟩
              go_upto_region 14 with fail
              go_cut [84] (fun sx wx => sx = .bool (t2B l s j) ∧ Below w4.heap.size w4 wx)
              case first =>
                obtain ⟨pj, hpj⟩ : ∃ pj, pj = (bAt l j).p := ⟨_, rfl⟩
                rw [← hpj] at c1
                by_cases hs1 : (bAt l j).s = 1
                · rw [hs1] at c0
                  have T : t2B l s j = false := by unfold t2B; simp [hs1]
                  have TT := hid T
                  clear T hpj hs1
                  go_region
                  all_goals go_wp2
                  all_goals (
                    go_meet
                    exact ⟨by rw [TT.out], (Below.refl _ _).drew⟩)
                · have hs2 : (bAt l j).s = 2 := by have := (BO.out j hjn).1; omega
                  rw [hs2] at c0
                  rcases TS.out with ⟨rfl, _⟩ | ⟨kb, rfl, hkb, _⟩
                  · have T : t2B l (-1) j = true := by unfold t2B; simp [hs2]
                    have TT := hid T
                    clear T hpj hs1 hs2
                    go_region
                    all_goals go_wp2
                    all_goals (
                      go_meet
                      exact ⟨by rw [TT.out], (Below.refl _ _).drew⟩)
                  · obtain ⟨_, _, e1, _⟩ := CE.out w4 (BW.out.trans (B4.out.mono BW.out.size)) kb (by omega)
                    obtain ⟨pk, hpk⟩ : ∃ pk, pk = (bAt l kb).p := ⟨_, rfl⟩
                    rw [← hpk] at e1
                    have gk : (kb : Int) < (i : Int) := by omega
                    have gk0 : (0 : Int) ≤ (kb : Int) := by omega
                    have gk1 : ¬ (kb : Int) < 0 := by omega
                    by_cases hp : pj < pk
                    · have T : t2B l kb j = true := by unfold t2B; rw [hpk, hpj] at hp; simp [hs2]; omega
                      have TT := hid T
                      clear T hpj hpk hs1 hs2 hkb
                      go_region
                      all_goals go_wp2
                      all_goals (
                        go_meet
                        exact ⟨by rw [TT.out], (Below.refl _ _).drew⟩)
                    · have T : t2B l kb j = false := by unfold t2B; rw [hpk, hpj] at hp; simp [hs2]; omega
                      have TT := hid T
                      clear T hpj hpk hs1 hs2 hkb
                      go_region
                      all_goals go_wp2
                      all_goals (
                        go_meet
                        exact ⟨by rw [TT.out], (Below.refl _ _).drew⟩)
              case rest =>
              obtain ⟨rfl, hb5⟩ := hcut
              obtain ⟨w5, rfl⟩ : ∃ w5 : World, w5 = wc := ⟨_, rfl⟩
              have B5 := hid (B4.out.trans (hb5.mono B4.out.size))
              obtain ⟨t2, ht2⟩ : ∃ t2, t2 = t2B l s j := ⟨_, rfl⟩
              rw [← ht2] at Z2 ⊢
              clear hb5 ht2 c0 c1
              cases t2 with
              | true =>
                rw [if_pos rfl] at Z2
                go_wp2
                go_roundg (i - (j + 1))
                · exact ⟨j + 1, b', j, by omega, by go_num, rfl, rfl, Z1.out, Z2.out, B5.out⟩
                · have := HJK.out; omega
              | false =>
                rw [if_neg (by decide)] at Z2
                go_wp2
                go_roundg (i - (j + 1))
                · exact ⟨j + 1, b', s, by omega, by go_num, rfl, rfl, Z1.out, Z2.out, B5.out⟩
                · have := HJK.out; omega
          · have hjn' : i = j := by have := HJK.out; omega
            subst hjn'
            clear hjn HJK
            obtain ⟨w3, rfl⟩ : ∃ w3 : World, w3 = wr := ⟨_, rfl⟩
            have BZ := hid (BW.out.trans (B.out.mono BW.out.size))
            have g3 : decide ((i : Int) < (i : Int)) = false := by simp
            rcases TB.out with ⟨rfl, hb0⟩ | ⟨kb, rfl, hkb, sb, lb, mb⟩
            · have F := hid (FN.out g (GL.out lf g GS.out fun x y hx hy sx sy zx zy => absurd (hb0 x (by rw [HN.out]; exact hx) sx) zx))
              clear hb0
              go_upto_region 16 with fail
              go_region
              all_goals go_wp2
              all_goals first | exact F.out _ (BZ.out.drew) | (go_ret; exact F.out _ (BZ.out.drew))
            · rcases TS.out with ⟨rfl, hs0⟩ | ⟨ks, rfl, hks, ss, ls, ms⟩
              · have F := hid (FN.out g (GL.out lf g GS.out fun x y hx hy sx sy zx zy => absurd (hs0 y (by rw [HN.out]; exact hy) sy) zy))
                have gk0 : (0 : Int) ≤ (kb : Int) := by omega
                have gk1 : ¬ (kb : Int) < 0 := by omega
                clear hs0 mb sb lb
                go_upto_region 16 with fail
                go_region
                all_goals go_wp2
                all_goals first | exact F.out _ (BZ.out.drew) | (go_ret; exact F.out _ (BZ.out.drew))
              · obtain ⟨rfl, _, c1, _⟩ := CE.out w3 BZ.out kb hkb
                obtain ⟨_, _, e1, _⟩ := CE.out w3 BZ.out ks hks
                have gk : (kb : Int) < (i : Int) := by omega
                have gk0 : (0 : Int) ≤ (kb : Int) := by omega
                have gk1 : ¬ (kb : Int) < 0 := by omega
                have hk : (ks : Int) < (i : Int) := by omega
                have hk0 : (0 : Int) ≤ (ks : Int) := by omega
                have hk1 : ¬ (ks : Int) < 0 := by omega
                by_cases hp : (bAt l ks).p < (bAt l kb).p
                · have hne : kb ≠ ks := fun e => ss (e ▸ sb)
                  have bk := (GS.out.bd kb (by rw [← HN.out]; exact hkb))
                  have bs := (GS.out.bd ks (by rw [← HN.out]; exact hks))
                  obtain ⟨_, p1, p2, q1, q2⟩ := BO.out kb hkb
                  obtain ⟨_, p3, p4, q3, q4⟩ := BO.out ks hks
                  obtain ⟨m, hm⟩ : ∃ m, min (lf kb) (lf ks) = m := ⟨_, rfl⟩
                  have st := GS.out.step (i := kb) (j := ks) (by rw [← HN.out]; exact hkb) (by rw [← HN.out]; exact hks) sb ss (fun k hk => mb k (by rw [HN.out]; exact hk)) (fun k hk => ms k (by rw [HN.out]; exact hk)) hp (m := m) (by omega) (by omega) (by omega)
                  have sm := SMALL.out _ _ st.1
                  have sm0 := SMALL.out _ _ GS.out
                  have stl := st.2
                  rw [← HN.out] at stl
                  have snn := sN_nonneg (φ := takeF lf kb ks m) (m := i) fun k hk => (st.1.bd k (by rw [← HN.out]; exact hk)).1
                  have ST := hid st.1
                  have MEAS := hid (show (sN (takeF lf kb ks m) i).toNat < (sN lf i).toNat by omega)
                  obtain ⟨pb, hpb⟩ : ∃ pb, pb = (bAt l kb).p := ⟨_, rfl⟩
                  obtain ⟨ps, hps⟩ : ∃ ps, ps = (bAt l ks).p := ⟨_, rfl⟩
                  rw [← hpb] at c1 ST p1 p2 hp sm
                  rw [← hps] at e1 ST p3 p4 hp sm
                  obtain ⟨xb, hxb⟩ : ∃ xb, xb = lf kb := ⟨_, rfl⟩
                  obtain ⟨xs, hxs⟩ : ∃ xs, xs = lf ks := ⟨_, rfl⟩
                  rw [← hxb] at hm bk
                  rw [← hxs] at hm bs
                  have np : ¬ pb ≤ ps := by omega
                  have w1' : IntKind.i64.wrap (pb - ps) = pb - ps := IntWalk.i64_in _ (by omega)
                  have pm := prod_bound (a := m) (b := pb - ps) (A := 1000000000) (B := 1000000) (by omega) (by omega)
                  have w2' : IntKind.i64.wrap (m * (pb - ps)) = m * (pb - ps) := IntWalk.i64_in _ (by omega)
                  have w3' : IntKind.i64.wrap (g + m * (pb - ps)) = g + m * (pb - ps) := IntWalk.i64_in _ (by omega)
                  have w4' : IntKind.i64.wrap (xb - m) = xb - m := IntWalk.i64_in _ (by omega)
                  have w5' : IntKind.i64.wrap (xs - m) = xs - m := IntWalk.i64_in _ (by omega)
                  have RZ := hid (fun wx (hb : Below w3.heap.size w3 wx) => (RR.out.kept (Kept.of_below (X := fun _ => False) (B.out.trans (hb.mono B.out.size))) id))
                  have XB := hid hxb
                  have PB := hid hpb
                  have PS := hid hps
                  have XS := hid hxs
                  clear hpb hps hxb hxs st stl snn sm sm0 mb ms sb ss lb ls p1 p2 p3 p4 q1 q2 q3 q4 bk bs
                  go_upto_region 16 with fail
                  go_cut [104] (fun sx wx => sx = .bool false ∧ Below w3.heap.size w3 wx)
                  case first =>
                    go_region
                    all_goals go_wp2
                    all_goals (
                      go_meet
                      exact ⟨rfl, (Below.refl _ _).drew⟩)
                  case rest =>
                  obtain ⟨rfl, hb4⟩ := hcut
                  obtain ⟨w4, rfl⟩ : ∃ w4 : World, w4 = wc := ⟨_, rfl⟩
                  have B4 := hid hb4
                  have d0 := (RZ.out w4 hb4).cell hkb
                  have d1 := (RZ.out w4 hb4).cell hks
                  rw [← XB.out] at d0
                  rw [← XS.out] at d1
                  clear hb4 c1 e1
                  go_upto_region 18 with fail
                  go_cut [9] (fun sx wx => sx = .int .i64 m ∧ Below w3.heap.size w3 wx)
                  case first =>
                    go_region
                    all_goals go_wp2
                    all_goals (
                      go_meet
                      exact ⟨rfl, B4.out.drew⟩)
                  case rest =>
                  obtain ⟨rfl, hb5⟩ := hcut
                  obtain ⟨w5, rfl⟩ : ∃ w5 : World, w5 = wc := ⟨_, rfl⟩
                  have B5 := hid hb5
                  clear hb5 d0 d1 hm
                  obtain ⟨_, _, c1, _⟩ := CE.out w5 (BZ.out.trans (B5.out.mono BZ.out.size)) kb hkb
                  obtain ⟨_, _, e1, _⟩ := CE.out w5 (BZ.out.trans (B5.out.mono BZ.out.size)) ks hks
                  rw [← PB.out] at c1
                  rw [← PS.out] at e1
                  go_upto_region 19 with fail
                  go_cut [5] (fun sx wx => sx = .int .i64 (g + m * (pb - ps)) ∧ Below w3.heap.size w3 wx)
                  case first =>
                    go_region
                    all_goals go_wp2
                    all_goals (
                      go_meet
                      exact ⟨rfl, B5.out.drew⟩)
                  case rest =>
                  obtain ⟨rfl, hb6⟩ := hcut
                  obtain ⟨w6, rfl⟩ : ∃ w6 : World, w6 = wc := ⟨_, rfl⟩
                  have r6 := RZ.out w6 hb6
                  have BX6 := hid (BZ.out.trans (hb6.mono BZ.out.size))
                  obtain ⟨w7, hw7⟩ : ∃ w7, w7 = w6.setCell ⟨w.heap.size, kb, none⟩ (.int .i64 (xb - m)) := ⟨_, rfl⟩
                  have r7 := r6.set kb (xb - m)
                  rw [← hw7] at r7
                  have BX7 := hid (show Below w.heap.size w w7 by rw [hw7]; exact BX6.out.trans ((set_kept w6 w.heap.size kb _).below BX6.out.size (fun k hk => by omega)))
                  have d0 := r6.cell hkb
                  have f0 := r6.froz kb
                  have l6 := r6.lt
                  rw [← XB.out] at d0
                  have d1 := r7.cell hks
                  rw [if_neg (Ne.symm hne), ← XS.out] at d1
                  have f1 := r7.froz ks
                  have l7 := r7.lt
                  have RF := hid (show RowL (w7.setCell ⟨w.heap.size, ks, none⟩ (.int .i64 (xs - m))) w.heap.size i (takeF lf kb ks m) from (r7.set ks (xs - m)).congr' fun k hk => by
                    unfold takeF
                    by_cases e1 : k = kb
                    · rw [if_pos e1, if_neg (by omega), if_pos e1, XB.out]
                    · rw [if_neg e1]
                      by_cases e2 : k = ks
                      · rw [if_pos e2, if_pos e2, XS.out]
                      · rw [if_neg e2, if_neg e2, if_neg e1])
                  have BF := hid (show Below w.heap.size w (w7.setCell ⟨w.heap.size, ks, none⟩ (.int .i64 (xs - m))) from BX7.out.trans ((set_kept w7 w.heap.size ks _).below BX7.out.size (fun k hk => by omega)))
                  have HW7 := hid hw7
                  clear hb6 c1 e1 r6 r7 hw7 w1' w2' w3'
                  go_upto_region 21 with fail
                  rw [← HW7.out]
                  clear d0 f0
                  go_wp2
                  go_roundg ((sN (takeF lf kb ks m) i).toNat)
                  · exact ⟨takeF lf kb ks m, _, rfl, rfl, ST.out, RF.out, BF.out⟩
                  · have := MEAS.out; have := HK.out; omega
                · have F := hid (FN.out g (GL.out lf g GS.out fun x y hx hy sx sy zx zy => by
                    have := mb x (by rw [HN.out]; exact hx) sx zx
                    have := ms y (by rw [HN.out]; exact hy) sy zy
                    omega))
                  obtain ⟨pb, hpb⟩ : ∃ pb, pb = (bAt l kb).p := ⟨_, rfl⟩
                  obtain ⟨ps, hps⟩ : ∃ ps, ps = (bAt l ks).p := ⟨_, rfl⟩
                  rw [← hpb] at c1 hp
                  rw [← hps] at e1 hp
                  have yp : pb ≤ ps := by omega
                  clear hpb hps mb ms sb ss lb ls hp
                  go_upto_region 16 with fail
                  go_region
                  all_goals go_wp2
                  all_goals first | exact F.out _ (BZ.out.drew) | (go_ret; exact F.out _ (BZ.out.drew))
end Go.Proofs.Ytjhelinbjlahiaa
