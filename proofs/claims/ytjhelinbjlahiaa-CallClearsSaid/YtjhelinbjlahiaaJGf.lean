/- The reference's Fit and Gain. -/
import Derived.Test.YtjhelinbjlahiaaJLh0
namespace Go.Proofs.Ytjhelinbjlahiaa
set_option linter.unusedSimpArgs false
set_option linter.unusedVariables false
open Go.RowKit
attribute [local go_sem] Oper.semAt_some
attribute [local go_sem ↓] Go.wp_at_zero Go.wp_at_succ
/-- A fill for each bid, from 0 to its quantity. -/
def fits (l : List Bd) (f : List Int) : Prop := f.length = l.length ∧ fitF l f
instance (l : List Bd) (f : List Int) : Decidable (fits l f) := by unfold fits; infer_instance

set_option maxRecDepth 100000 in
set_option maxHeartbeats 4000000 in
theorem rfit_calls {w : World} {v v' : Value} {l : List Bd} {f : List Int} (hv : ReadsE encBd 3 w v l) (hv' : ReadsE encI 1 w v' f) :
    Calls Try.prog 19 #[v, v'] w fun e w' => e = .returned (.bool (decide (fits l f))) ∧ Below w.heap.size w w' := by
  obtain ⟨hm, p, cap, bb, off, rfl, hp, hc⟩ := hv
  obtain ⟨hm2, p2, cap2, b2, off2, rfl, hp2, hc2⟩ := hv'
  obtain ⟨n, hn⟩ : ∃ n, n = l.length := ⟨_, rfl⟩
  obtain ⟨m, hmm⟩ : ∃ m, m = f.length := ⟨_, rfl⟩
  obtain ⟨R, hR⟩ : ∃ R : Ending → World → Prop, R = fun e w' => e = .returned (.bool (decide (fits l f))) ∧ Below w.heap.size w w' := ⟨_, rfl⟩
  rw [← hR]
  have FT := hid (show fits l f → ∀ w', Below w.heap.size w w' → R (.returned (.bool true)) w' from fun q w' h => by rw [hR, decide_eq_true q]; exact ⟨rfl, h⟩)
  have FF := hid (show ¬ fits l f → ∀ w', Below w.heap.size w w' → R (.returned (.bool false)) w' from fun q w' h => by rw [hR, decide_eq_false q]; exact ⟨rfl, h⟩)
  rw [← hn] at hp hm ⊢
  rw [← hmm] at hp2 hm2 ⊢
  have HN := hid hn
  have HM := hid hmm
  have HP := hid hp
  have HC := hid hc
  have HP2 := hid hp2
  have HC2 := hid hc2
  clear hR hn hp hc hp2 hc2 hmm
  by_cases hnm : m = n
  · subst hnm
    have g0 : ((m : Int) != (m : Int)) = false := by simp
    have HLF := hid (show l.length = f.length by rw [← HN.out, ← HM.out])
    go_enter Try.func19, Try.ntmps19
    go_upto_region 4 with fail
    go_loopg [5] m (fun k s5 wr => ∃ i : Nat, i + k = m ∧ s5 = .int .i64 i ∧ (∀ (j : Nat) (h1 : j < l.length) (h2 : j < f.length), j < i → 0 ≤ f[j] ∧ f[j] ≤ l[j].q) ∧ Below w.heap.size w wr)
    case atStart => exact ⟨0, by omega, rfl, fun j _ _ h => absurd h (Nat.not_lt_zero j), Below.refl _ _⟩
    case round =>
      obtain ⟨i, hik, rfl, hfi, hb⟩ := hrel
      have HIK := hid hik
      have HF := hid hfi
      have B := hid hb
      clear hik hb hfi
      by_cases hin : i < m
      · have hil : i < l.length := by rw [← HN.out]; exact hin
        have hif : i < f.length := by rw [← HM.out]; exact hin
        obtain ⟨rfl, hbb⟩ := HP.out (by omega)
        obtain ⟨rfl, hbb2⟩ := HP2.out (by omega)
        have c0 := (B.out.cell (p := ⟨bb, off + i * 3 + 2, none⟩) hbb).trans (HC.out i hil 2 (by omega))
        have c1 := (B.out.cell (p := ⟨b2, off2 + i * 1 + 0, none⟩) hbb2).trans (HC2.out i hif 0 (by omega))
        simp [encBd] at c0
        simp [encI] at c1
        have NX := hid (show 0 ≤ f[i] ∧ f[i] ≤ l[i].q → ∀ (j : Nat) (h1 : j < l.length) (h2 : j < f.length), j < i + 1 → 0 ≤ f[j] ∧ f[j] ≤ l[j].q from fun q j h1 h2 h3 => by
          by_cases e : j = i
          · subst e; exact q
          · exact HF.out j h1 h2 (by omega))
        have BD := hid (show ¬ (0 ≤ f[i] ∧ f[i] ≤ l[i].q) → ∀ w', Below w.heap.size w w' → R (.returned (.bool false)) w' from fun q => FF.out fun g => q ((fitF_iff HLF.out).1 g.2 i hil hif))
        obtain ⟨x, hx⟩ : ∃ x, x = f[i] := ⟨_, rfl⟩
        obtain ⟨q, hq⟩ : ∃ q, q = l[i].q := ⟨_, rfl⟩
        rw [← hx] at c1 NX BD
        rw [← hq] at c0 NX BD
        have gi : (i : Int) < (m : Int) := by omega
        have gi0 : (0 : Int) ≤ (i : Int) := by omega
        clear hx hq
        by_cases h1 : x < 0
        · have F := hid (BD.out (by omega))
          clear BD NX
          go_upto_region 6 with fail
          go_region
          all_goals go_wp2
          all_goals first | exact F.out _ B.out.drew | (go_ret; exact F.out _ B.out.drew)
        · by_cases h2 : q < x
          · have F := hid (BD.out (by omega))
            clear BD NX
            go_upto_region 6 with fail
            go_region
            all_goals go_wp2
            all_goals first | exact F.out _ B.out.drew | (go_ret; exact F.out _ B.out.drew)
          · have N2 := hid (NX.out (by omega))
            clear BD NX
            go_upto_region 6 with fail
            go_region
            all_goals go_wp2
            all_goals (
              go_roundg (m - (i + 1))
              · exact ⟨i + 1, by omega, by go_num, N2.out, B.out.drew⟩
              · have := HIK.out; omega)
      · have hin' : i = m := by have := HIK.out; omega
        subst hin'
        have g2 : decide ((i : Int) < (i : Int)) = false := by simp
        have F := hid (FT.out ⟨HLF.out.symm, (fitF_iff HLF.out).2 fun j h1 h2 => HF.out j h1 h2 (by rw [HN.out]; exact h1)⟩ wr B.out)
        go_wp2
        first | exact F.out | (go_ret; exact F.out)
  · have g0 : ((m : Int) != (n : Int)) = true := by simp; omega
    have F := hid (FF.out (fun g => hnm (by rw [HM.out, HN.out]; exact g.1)) w (Below.refl _ _))
    clear hnm
    go_enter Try.func19, Try.ntmps19
    go_wp2
    first | exact F.out | (go_ret; exact F.out)

set_option maxRecDepth 100000 in
set_option maxHeartbeats 4000000 in
theorem rgain_calls {w : World} {v v' : Value} {l : List Bd} {f : List Int} (hv : ReadsE encBd 3 w v l) (hv' : ReadsE encI 1 w v' f) (hl : l.length ≤ 4096) (hok : ∀ b ∈ l, b.ok) (hft : fits l f) :
    Calls Try.prog 34 #[v, v'] w fun e w' => e = .returned (.int .i64 (gsum l f)) ∧ Below w.heap.size w w' := by
  obtain ⟨hm, p, cap, bb, off, rfl, hp, hc⟩ := hv
  obtain ⟨hm2, p2, cap2, b2, off2, rfl, hp2, hc2⟩ := hv'
  obtain ⟨hlf0, hft⟩ := hft
  have hlf : l.length = f.length := hlf0.symm
  obtain ⟨n, hn⟩ : ∃ n, n = l.length := ⟨_, rfl⟩
  obtain ⟨R, hR⟩ : ∃ R : Ending → World → Prop, R = fun e w' => e = .returned (.int .i64 (gsum l f)) ∧ Below w.heap.size w w' := ⟨_, rfl⟩
  rw [← hR]
  have FN := hid (show ∀ w', Below w.heap.size w w' → R (.returned (.int .i64 (gsum l f))) w' from fun w' h => by rw [hR]; exact ⟨rfl, h⟩)
  rw [← hlf] at hp2 hm2 ⊢
  rw [← hn] at hp hp2 hm hm2 hl ⊢
  have HN := hid hn
  have HP := hid hp
  have HC := hid hc
  have HP2 := hid hp2
  have HC2 := hid hc2
  have HLF := hid hlf
  have HFT := hid hft
  have HOK := hid hok
  clear hR hn hp hc hp2 hc2 hlf hft hlf0 hok
  go_enter Try.func34, Try.ntmps34
  go_upto_region 3 with fail
  go_loopg [5, 6] n (fun k s5 s6 wr => ∃ i : Nat, i + k = n ∧ s6 = .int .i64 i ∧ s5 = .int .i64 (gsum (l.take i) (f.take i)) ∧ Below w.heap.size w wr)
  case atStart => exact ⟨0, by omega, rfl, rfl, Below.refl _ _⟩
  case round =>
    obtain ⟨i, hik, rfl, rfl, hb⟩ := hrel
    have HIK := hid hik
    have B := hid hb
    have hgb := gsum_bound (l := l.take i) (fun b hb => HOK.out b (List.mem_of_mem_take hb)) (fitF_take (i := i) HLF.out HFT.out)
    rw [List.length_take] at hgb
    have hlf := HLF.out
    clear hik hb
    by_cases hin : i < n
    · have hil : i < l.length := by rw [← HN.out]; exact hin
      have hif : i < f.length := by rw [← hlf]; exact hil
      obtain ⟨rfl, hbb⟩ := HP.out (by omega)
      obtain ⟨rfl, hbb2⟩ := HP2.out (by omega)
      have c0 := (B.out.cell (p := ⟨bb, off + i * 3 + 0, none⟩) hbb).trans (HC.out i hil 0 (by omega))
      have c1 := (B.out.cell (p := ⟨bb, off + i * 3 + 1, none⟩) hbb).trans (HC.out i hil 1 (by omega))
      have c3 := (B.out.cell (p := ⟨b2, off2 + i * 1 + 0, none⟩) hbb2).trans (HC2.out i hif 0 (by omega))
      simp [encBd] at c0 c1
      simp [encI] at c3
      have hx1 := (fitF_iff hlf).1 HFT.out i hil hif
      have okb := HOK.out l[i] (List.getElem_mem _)
      have SN := hid (show gsum (l.take (i + 1)) (f.take (i + 1)) = gsum (l.take i) (f.take i) + gT l[i] f[i] by rw [take_snoc hil, take_snoc hif, gsum_snoc _ _ (by simp; omega)])
      obtain ⟨b, hx⟩ : ∃ b, b = l[i] := ⟨_, rfl⟩
      obtain ⟨x, hy⟩ : ∃ x, x = f[i] := ⟨_, rfl⟩
      rw [← hx] at c0 c1 okb SN hx1
      rw [← hy] at c3 SN hx1
      obtain ⟨a, ha⟩ : ∃ a, a = gsum (l.take i) (f.take i) := ⟨_, rfl⟩
      rw [← ha] at SN hgb ⊢
      have gi : (i : Int) < (n : Int) := by omega
      have gi0 : (0 : Int) ≤ (i : Int) := by omega
      have hpb := prod_bound (a := b.p) (b := x) (A := 1000000) (B := 1000000000) ⟨by have := okb.2.1; omega, okb.2.2.1⟩ ⟨hx1.1, by have := okb.2.2.2.2; omega⟩
      unfold gT at SN
      have em : IntKind.i64.wrap (b.p * x) = b.p * x := IntWalk.i64_in _ (by omega)
      obtain ⟨u, hu⟩ : ∃ u, u = b.p * x := ⟨_, rfl⟩
      rw [← hu] at SN hpb
      have em2 : IntKind.i64.wrap (b.p * x) = u := by rw [em, hu]
      clear hu em hx hy ha hlf
      by_cases hs : b.s = 1
      · have e1 : (b.s == 1) = true := by simpa using hs
        rw [if_pos hs] at SN
        have ew : IntKind.i64.wrap (a + u) = a + u := IntWalk.i64_in _ (by omega)
        clear hs
        go_upto_region 6 with fail
        go_region
        all_goals go_wp2
        all_goals (
          go_roundg (n - (i + 1))
          · exact ⟨i + 1, by omega, by go_num, by rw [SN.out], B.out.drew⟩
          · have := HIK.out; omega)
      · have e1 : (b.s == 1) = false := by simpa using hs
        rw [if_neg hs] at SN
        have ew : IntKind.i64.wrap (a - u) = a + -u := by rw [show a + -u = a - u by omega]; exact IntWalk.i64_in _ (by omega)
        clear hs
        go_upto_region 7 with fail
        go_region
        all_goals go_wp2
        all_goals (
          go_roundg (n - (i + 1))
          · exact ⟨i + 1, by omega, by go_num, by rw [SN.out], B.out.drew⟩
          · have := HIK.out; omega)
    · have hin' : i = n := by have := HIK.out; omega
      subst hin'
      have g2 : decide ((i : Int) < (i : Int)) = false := by simp
      have h1 : l.take i = l := by rw [HN.out, List.take_length]
      have h2 : f.take i = f := by rw [HN.out, hlf, List.take_length]
      rw [h1, h2]
      have F := hid (FN.out wr B.out)
      clear h1 h2 hlf
      go_wp2
      first | exact F.out | (go_ret; exact F.out)
end Go.Proofs.Ytjhelinbjlahiaa
