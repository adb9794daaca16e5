/- call.Split. call.Gain. -/
import Derived.Test.YtjhelinbjlahiaaJSp2
import Derived.Test.YtjhelinbjlahiaaJCl1
import Derived.Test.YtjhelinbjlahiaaJCa
namespace Go.Proofs.Ytjhelinbjlahiaa
set_option linter.unusedSimpArgs false
set_option linter.unusedVariables false
open Go.RowKit
attribute [local go_sem] Oper.semAt_some
attribute [local go_sem ↓] Go.wp_at_zero Go.wp_at_succ
def wOk (l : List Int) : Prop := ∀ x ∈ l, 0 ≤ x ∧ x ≤ 1000000000
instance (l : List Int) : Decidable (wOk l) := by unfold wOk; infer_instance
/-- What Split answers. -/
def splF (t : Int) (l : List Int) : List Int × Int := if 4096 < l.length then ([], 2) else if wOk l then (if 0 ≤ t ∧ t ≤ sumI l then (splitL t l, 0) else ([], 1)) else ([], 1)
def SplP (B : Nat) (r : List Int × Int) (e : Ending) (w' : World) : Prop := ∃ vf, e = .returned (.tuple #[vf, .int .i64 r.2]) ∧ RowI B w' vf r.1
theorem inC_of {x lo hi : Int} : inC x lo hi = decide (lo ≤ x ∧ x ≤ hi) := by unfold inC; by_cases h1 : lo ≤ x <;> by_cases h2 : x ≤ hi <;> simp [h1, h2]

set_option maxRecDepth 100000 in
set_option maxHeartbeats 4000000 in
theorem splitf_calls {w : World} {v : Value} {l : List Int} (hv : ReadsE encI 1 w v l) (t : Int) :
    Calls Try.prog 27 #[.int .i64 t, v] w fun e w' => SplP w.heap.size (splF t l) e w' ∧ Below w.heap.size w w' := by
  obtain ⟨R, hR⟩ : ∃ R : Ending → World → Prop, R = fun e w' => SplP w.heap.size (splF t l) e w' ∧ Below w.heap.size w w' := ⟨_, rfl⟩
  rw [← hR]
  have FM := hid (show ∀ (r : List Int × Int) (vf : Value) w', splF t l = r → RowI w.heap.size w' vf r.1 → Below w.heap.size w w' → R (.returned (.tuple #[vf, .int .i64 r.2])) w' from fun r vf w' h1 h2 h3 => by rw [hR, h1]; exact ⟨⟨vf, rfl, h2⟩, h3⟩)
  clear hR
  have HV := hid hv
  have IN := hid (fun x lo hi wx => in_calls x lo hi wx)
  obtain ⟨hm, p, cap, bb, off, rfl, hp, hc⟩ := hv
  unfold splF at FM
  obtain ⟨n, hn⟩ : ∃ n, n = l.length := ⟨_, rfl⟩
  rw [← hn] at hp hm FM HV ⊢
  have HN := hid hn
  have HP := hid hp
  have HC := hid hc
  have hn0 : (0 : Int) ≤ (n : Int) := by omega
  by_cases hbig : 4096 < n
  · rw [if_pos hbig] at FM
    have g1 : (4096 : Int) < (n : Int) := by omega
    have FN := hid (FM.out _ (.slice none 0 0) w rfl (OwnE.nil _ _) (Below.refl _ _))
    clear hn hp hc hbig FM
    go_enter Try.func27, Try.ntmps27
    go_wp2
    first | exact FN.out | exact bodyPost_ret (by simp [results, Try.results27, go_sem]) rfl FN.out
  · rw [if_neg hbig] at FM
    have g1 : ¬ (4096 : Int) < (n : Int) := by omega
    have BAD := hid (show ∀ i (hi : i < l.length), inC l[i] 0 1000000000 = false → R (.returned (.tuple #[.slice none 0 0, .int .i64 1])) w from fun i hi h => by
      refine FM.out _ _ w (if_neg fun q => ?_) (OwnE.nil _ _) (Below.refl _ _)
      have := q _ (List.getElem_mem hi)
      rw [inC_of] at h
      exact of_decide_eq_false h this)
    have GOOD := hid (show wOk l → ∀ (r : List Int × Int) (vf : Value) w', (if 0 ≤ t ∧ t ≤ sumI l then (splitL t l, 0) else ([], 1)) = r → RowI w.heap.size w' vf r.1 → Below w.heap.size w w' → R (.returned (.tuple #[vf, .int .i64 r.2])) w' from fun q r vf w' h1 h2 h3 => FM.out r vf w' (by rw [if_pos q]; exact h1) h2 h3)
    clear hn hp hc hbig FM
    go_enter Try.func27, Try.ntmps27
    go_upto_region 5 with fail
    go_loopg [14, 6] n (fun k s14 s6 wr => ∃ i : Nat, i + k = n ∧ s14 = .int .i64 i ∧ s6 = .int .i64 (sumI (l.take i)) ∧ wOk (l.take i) ∧ wr = w)
    case atStart => exact ⟨0, by omega, rfl, rfl, by intro x hx; simp at hx, rfl⟩
    case round =>
      obtain ⟨i, hik, rfl, rfl, hok, rfl⟩ := hrel
      have HIK := hid hik
      have HOK := hid hok
      have hsb := sumI_bound hok
      rw [List.length_take] at hsb
      clear hik hok
      by_cases hin : i < n
      · have hil : i < l.length := by rw [← HN.out]; exact hin
        obtain ⟨rfl, hbb⟩ := HP.out (by omega)
        have c0 := HC.out i hil 0 (by omega)
        simp [encI] at c0
        obtain ⟨x, hx⟩ : ∃ x, x = l[i] := ⟨_, rfl⟩
        rw [← hx] at c0
        have gi : (i : Int) < (n : Int) := by omega
        have gi0 : (0 : Int) ≤ (i : Int) := by omega
        have BX := hid (BAD.out i hil)
        rw [← hx] at BX
        have SN := hid (show sumI (l.take (i + 1)) = sumI (l.take i) + x by rw [take_snoc hil, sumI_snoc, ← hx])
        have ON := hid (show inC x 0 1000000000 = true → wOk (l.take (i + 1)) from fun h y hy => by
          rw [take_snoc hil, ← hx] at hy
          rcases List.mem_append.1 hy with q | q
          · exact HOK.out y q
          · rw [List.mem_singleton.1 q]
            rw [inC_of] at h
            exact of_decide_eq_true h)
        have IX := hid (fun wx => IN.out x 0 1000000000 wx)
        obtain ⟨a, ha⟩ : ∃ a, a = sumI (l.take i) := ⟨_, rfl⟩
        rw [← ha] at SN hsb ⊢
        obtain ⟨b, hb⟩ : ∃ b, b = inC x 0 1000000000 := ⟨_, rfl⟩
        rw [← hb] at IX BX ON
        have HB := hid hb
        clear hx ha hb
        cases b with
        | true =>
          have hxb : 0 ≤ x ∧ x ≤ 1000000000 := by have := HB.out; rw [inC_of] at this; exact of_decide_eq_true this.symm
          have ew : IntKind.i64.wrap (a + x) = a + x := IntWalk.i64_in _ (by omega)
          have O2 := hid (ON.out rfl)
          go_wp2_with (go_at_call 40; refine (IX.out _).mono ?_; rintro e w3 ⟨rfl, hw3⟩; subst hw3)
          go_roundg (n - (i + 1))
          · exact ⟨i + 1, by omega, by go_num, by rw [SN.out], O2.out, rfl⟩
          · have := HIK.out; omega
        | false =>
          have FN := hid (BX.out rfl)
          go_wp2_with (go_at_call 40; refine (IX.out _).mono ?_; rintro e w3 ⟨rfl, hw3⟩; subst hw3)
          first | exact FN.out | exact bodyPost_ret (by simp [results, Try.results27, go_sem]) rfl FN.out
      · have hin' : i = n := by have := HIK.out; omega
        subst hin'
        have g2 : decide ((i : Int) < (i : Int)) = false := by simp
        have hlt : l.take i = l := by rw [HN.out, List.take_length]
        have hok := HOK.out
        rw [hlt] at hok hsb ⊢
        have GD := hid (GOOD.out hok)
        have IX := hid (fun wx => IN.out t 0 (sumI l) wx)
        rw [inC_of] at IX
        have SP := hid (fun h => split_calls HV.out (by rw [← HN.out]; omega) hok (t := t) h)
        obtain ⟨S, hS⟩ : ∃ S, S = sumI l := ⟨_, rfl⟩
        rw [← hS] at GD IX SP hsb ⊢
        clear hlt hS hok
        by_cases ht : 0 ≤ t ∧ t ≤ S
        · rw [decide_eq_true ht] at IX
          rw [if_pos ht] at GD
          have S2 := hid (SP.out ht)
          clear ht SP
          go_wp2_with (go_at_call 40; refine (IX.out _).mono ?_; rintro e w3 ⟨rfl, hw3⟩; subst hw3)
          refine S2.out.mono ?_
          rintro e w5 ⟨v5, rfl, hr5, hb5⟩
          have FN := hid (GD.out _ v5 w5 rfl hr5 hb5)
          clear hr5 hb5
          go_wp2
          first | exact FN.out | exact bodyPost_ret (by simp [results, Try.results27, go_sem]) rfl FN.out
        · rw [decide_eq_false ht] at IX
          rw [if_neg ht] at GD
          have FN := hid (GD.out _ (.slice none 0 0) wr rfl (OwnE.nil _ _) (Below.refl _ _))
          clear ht SP
          go_wp2_with (go_at_call 40; refine (IX.out _).mono ?_; rintro e w3 ⟨rfl, hw3⟩; subst hw3)
          first | exact FN.out | exact bodyPost_ret (by simp [results, Try.results27, go_sem]) rfl FN.out
end Go.Proofs.Ytjhelinbjlahiaa
namespace Go.Proofs.Ytjhelinbjlahiaa
set_option linter.unusedSimpArgs false
set_option linter.unusedVariables false
open Go.RowKit
attribute [local go_sem] Oper.semAt_some
attribute [local go_sem ↓] Go.wp_at_zero Go.wp_at_succ
/-- What a bid's fill brings. -/
def gT (b : Bd) (x : Int) : Int := if b.s = 1 then b.p * x else -(b.p * x)
def gsum : List Bd → List Int → Int
  | b :: l, x :: f => gT b x + gsum l f
  | _, _ => 0
theorem gsum_snoc : ∀ {l : List Bd} {f : List Int} (b : Bd) (x : Int), l.length = f.length → gsum (l ++ [b]) (f ++ [x]) = gsum l f + gT b x
  | [], [], b, x, _ => by simp [gsum]
  | c :: l, y :: f, b, x, h => by
    simp only [List.cons_append, gsum]
    rw [gsum_snoc b x (by simpa using h)]; omega
/-- A fill for each bid, from 0 to its quantity. -/
def fitF : List Bd → List Int → Prop
  | b :: l, x :: f => (0 ≤ x ∧ x ≤ b.q) ∧ fitF l f
  | _, _ => True
instance decFit : ∀ (l : List Bd) (f : List Int), Decidable (fitF l f)
  | b :: l, x :: f => by unfold fitF; exact @instDecidableAnd _ _ _ (decFit l f)
  | [], _ => by unfold fitF; infer_instance
  | _ :: _, [] => by unfold fitF; infer_instance
theorem fitF_iff : ∀ {l : List Bd} {f : List Int}, l.length = f.length → (fitF l f ↔ ∀ (i : Nat) (h1 : i < l.length) (h2 : i < f.length), 0 ≤ f[i] ∧ f[i] ≤ l[i].q)
  | [], [], _ => by simp [fitF]
  | b :: l, x :: f, h => by
    simp only [fitF]
    rw [fitF_iff (by simpa using h)]
    constructor
    · rintro ⟨q1, q2⟩ i h1 h2
      cases i with
      | zero => exact q1
      | succ i => exact q2 i (by simpa using h1) (by simpa using h2)
    · intro q
      exact ⟨q 0 (by simp) (by simp), fun i h1 h2 => q (i + 1) (by simpa using h1) (by simpa using h2)⟩
theorem prod_bound {a b A B : Int} (h1 : 0 ≤ a ∧ a ≤ A) (h2 : 0 ≤ b ∧ b ≤ B) : 0 ≤ a * b ∧ a * b ≤ A * B :=
  ⟨Int.mul_nonneg h1.1 h2.1, Int.mul_le_mul h1.2 h2.2 h2.1 (by omega)⟩
theorem gT_bound {b : Bd} (hb : b.ok) {x : Int} (h : 0 ≤ x ∧ x ≤ b.q) : -1000000000000000 ≤ gT b x ∧ gT b x ≤ 1000000000000000 := by
  obtain ⟨_, h1, h2, h3, h4⟩ := hb
  have := prod_bound (a := b.p) (b := x) (A := 1000000) (B := 1000000000) (by omega) (by omega)
  unfold gT; split <;> omega
theorem gsum_bound : ∀ {l : List Bd} {f : List Int}, (∀ b ∈ l, b.ok) → fitF l f → -1000000000000000 * (l.length : Int) ≤ gsum l f ∧ gsum l f ≤ 1000000000000000 * (l.length : Int)
  | [], _, _, _ => by simp [gsum]
  | b :: l, [], _, _ => by simp only [gsum, List.length_cons]; omega
  | b :: l, x :: f, h, g => by
    obtain ⟨g1, g2⟩ := g
    have := gsum_bound (fun c hc => h c (List.mem_cons_of_mem _ hc)) g2
    have := gT_bound (h b List.mem_cons_self) g1
    simp only [gsum, List.length_cons]; omega
theorem fitF_take {l : List Bd} {f : List Int} : ∀ {i : Nat}, l.length = f.length → (fitF l f → fitF (l.take i) (f.take i)) := fun {i} h g => by
  rw [fitF_iff h] at g
  rw [fitF_iff (by simp [h])]
  intro k h1 h2
  simp at h1 h2
  simpa using g k (by omega) (by omega)
/-- What Gain answers. -/
def gnF (l : List Bd) (f : List Int) : Int × Int := if chk l ≠ 0 then (0, chk l) else if f.length = l.length ∧ fitF l f then (gsum l f, 0) else (0, 1)

set_option maxRecDepth 100000 in
set_option maxHeartbeats 8000000 in
theorem gain_calls {w : World} {v vf : Value} {l : List Bd} {f : List Int} (hv : ReadsE encBd 3 w v l) (hf : ReadsE encI 1 w vf f) :
    Calls Try.prog 33 #[v, vf] w fun e w' => e = .returned (.tuple #[.int .i64 (gnF l f).1, .int .i64 (gnF l f).2]) ∧ Below w.heap.size w w' := by
  obtain ⟨R, hR⟩ : ∃ R : Ending → World → Prop, R = fun e w' => e = .returned (.tuple #[.int .i64 (gnF l f).1, .int .i64 (gnF l f).2]) ∧ Below w.heap.size w w' := ⟨_, rfl⟩
  rw [← hR]
  have FM := hid (show ∀ (a b : Int) w', gnF l f = (a, b) → Below w.heap.size w w' → R (.returned (.tuple #[.int .i64 a, .int .i64 b])) w' from fun a b w' h1 h2 => by rw [hR, h1]; exact ⟨rfl, h2⟩)
  clear hR
  have CH := hid (check_calls hv)
  have IN := hid (fun x lo hi wx => in_calls x lo hi wx)
  obtain ⟨hm, p, cap, bb, off, rfl, hp, hc⟩ := hv
  obtain ⟨hm2, p2, cap2, b2, off2, rfl, hp2, hc2⟩ := hf
  unfold gnF at FM
  obtain ⟨c, hch⟩ : ∃ c, c = chk l := ⟨_, rfl⟩
  rw [← hch] at CH FM
  have HCH := hid hch
  clear hch
  obtain ⟨n, hn⟩ : ∃ n, n = l.length := ⟨_, rfl⟩
  obtain ⟨m, hmm⟩ : ∃ m, m = f.length := ⟨_, rfl⟩
  rw [← hn, ← hmm] at FM
  rw [← hn] at hp hm CH ⊢
  rw [← hmm] at hp2 hm2 ⊢
  have HN := hid hn
  have HP := hid hp
  have HC := hid hc
  have HM := hid hmm
  have HP2 := hid hp2
  have HC2 := hid hc2
  clear hn hp hc hmm hp2 hc2
  by_cases hc0 : c = 0
  · subst hc0
    rw [if_neg (fun h => h rfl)] at FM
    have hll := (chk_zero HCH.out.symm).1
    rw [← HN.out] at hll
    have HOK := hid (chk_zero HCH.out.symm).2
    by_cases hmn : m = n
    · subst hmn
      have g1 : ((m : Int) != (m : Int)) = false := by simp
      have HLF := hid (show l.length = f.length by rw [← HN.out, ← HM.out])
      have BAD := hid (show ∀ w' i (h1 : i < l.length) (h2 : i < f.length), inC f[i] 0 l[i].q = false → Below w.heap.size w w' → R (.returned (.tuple #[.int .i64 0, .int .i64 1])) w' from fun w' i h1 h2 h hb => by
        refine FM.out _ _ w' (if_neg fun q => ?_) hb
        have := (fitF_iff HLF.out).1 q.2 i h1 h2
        rw [inC_of] at h
        exact of_decide_eq_false h this)
      have GOOD := hid (show fitF l f → ∀ w', Below w.heap.size w w' → R (.returned (.tuple #[.int .i64 (gsum l f), .int .i64 0])) w' from fun q w' hb => FM.out _ _ w' (if_pos ⟨rfl, q⟩) hb)
      clear FM
      go_enter Try.func33, Try.ntmps33
      go_wp2_with fail
      refine CH.out.mono ?_
      rintro e w2 ⟨rfl, hb2⟩
      have B2 := hid hb2
      clear hb2 CH
      go_upto_region 8 with fail
      go_loopg [22, 7] m (fun k s22 s7 wr => ∃ i : Nat, i + k = m ∧ s22 = .int .i64 i ∧ s7 = .int .i64 (gsum (l.take i) (f.take i)) ∧ fitF (l.take i) (f.take i) ∧ Below w.heap.size w wr)
      case atStart => exact ⟨0, by omega, rfl, rfl, by simp [fitF], B2.out⟩
      case round =>
        obtain ⟨i, hik, rfl, rfl, hfit, hb⟩ := hrel
        have HIK := hid hik
        have FIT := hid hfit
        have B := hid hb
        have hgb := gsum_bound (l := l.take i) (fun b hb => HOK.out b (List.mem_of_mem_take hb)) hfit
        rw [List.length_take] at hgb
        clear hik hfit hb B2
        by_cases hin : i < m
        · have hil : i < l.length := by rw [← HN.out]; exact hin
          have hif : i < f.length := by rw [← HM.out]; exact hin
          obtain ⟨rfl, hbb⟩ := HP.out (by omega)
          obtain ⟨rfl, hbb2⟩ := HP2.out (by omega)
          have c0 := (B.out.cell (p := ⟨bb, off + i * 3 + 0, none⟩) hbb).trans (HC.out i hil 0 (by omega))
          have c1 := (B.out.cell (p := ⟨bb, off + i * 3 + 1, none⟩) hbb).trans (HC.out i hil 1 (by omega))
          have c2 := (B.out.cell (p := ⟨bb, off + i * 3 + 2, none⟩) hbb).trans (HC.out i hil 2 (by omega))
          have c3 := (B.out.cell (p := ⟨b2, off2 + i * 1 + 0, none⟩) hbb2).trans (HC2.out i hif 0 (by omega))
          simp [encBd] at c0 c1 c2
          simp [encI] at c3
          have gi : (i : Int) < (m : Int) := by omega
          have gi4 : (0 : Int) ≤ (i : Int) := by omega
          obtain ⟨b, hx⟩ : ∃ b, b = l[i] := ⟨_, rfl⟩
          obtain ⟨x, hy⟩ : ∃ x, x = f[i] := ⟨_, rfl⟩
          have okb := HOK.out l[i] (List.getElem_mem _)
          rw [← hx] at c0 c1 c2 okb
          rw [← hy] at c3
          have BX := hid (fun w' => BAD.out w' i hil hif)
          rw [← hx, ← hy] at BX
          have SN := hid (show gsum (l.take (i + 1)) (f.take (i + 1)) = gsum (l.take i) (f.take i) + gT b x by rw [take_snoc hil, take_snoc hif, gsum_snoc _ _ (by simp; omega), ← hx, ← hy])
          have FN2 := hid (show inC x 0 b.q = true → fitF (l.take (i + 1)) (f.take (i + 1)) from fun h => by
            rw [inC_of] at h
            have h := of_decide_eq_true h
            rw [fitF_iff (by simp; omega)]
            intro k h1 h2
            simp at h1 h2
            by_cases e : k = i
            · subst e
              simp only [List.getElem_take]
              rw [← hx, ← hy]; exact h
            · have := (fitF_iff (l := l.take i) (f := f.take i) (by simp; omega)).1 FIT.out k (by simp; omega) (by simp; omega)
              simpa using this)
          have IX := hid (fun wx => IN.out x 0 b.q wx)
          obtain ⟨a, ha⟩ : ∃ a, a = gsum (l.take i) (f.take i) := ⟨_, rfl⟩
          rw [← ha] at SN hgb ⊢
          obtain ⟨t, ht⟩ : ∃ t, t = inC x 0 b.q := ⟨_, rfl⟩
          rw [← ht] at IX BX FN2
          have HT := hid ht
          have HX := hid hx
          obtain ⟨wb, hwb⟩ : ∃ wb, wb = wr.alloc (.cells #[.int .i64 b.s, .int .i64 b.p, .int .i64 b.q] 77) := ⟨_, rfl⟩
          have BB := hid (show Below w.heap.size w wb by rw [hwb]; exact B.out.alloc B.out.size _)
          have cb : Cells wb wr.heap.size #[.int .i64 b.s, .int .i64 b.p, .int .i64 b.q] 77 := by rw [hwb]; exact Cells.new wr _ _
          have hlb := cb.lt
          have k0 : wb.cell? ⟨wr.heap.size, 0, none⟩ = some (.int .i64 b.s) := by rw [cb.cell]; rfl
          have k1 : wb.cell? ⟨wr.heap.size, 1, none⟩ = some (.int .i64 b.p) := by rw [cb.cell]; rfl
          have k2 : wb.cell? ⟨wr.heap.size, 2, none⟩ = some (.int .i64 b.q) := by rw [cb.cell]; rfl
          have k3 : wb.cell? ⟨b2, off2 + i, none⟩ = some (.int .i64 x) := by
            rw [hwb]
            exact (((Below.refl wr.heap.size wr).alloc (Nat.le_refl _) _).cell (p := ⟨b2, off2 + i, none⟩) (Nat.lt_of_lt_of_le hbb2 B.out.size)).trans c3
          have hb2l : b2 < wb.heap.size := Nat.lt_of_lt_of_le hbb2 BB.out.size
          have HWB := hid hwb
          clear ha ht hx hy hwb cb c3
          cases t with
          | true =>
            have hxb : 0 ≤ x ∧ x ≤ b.q := by have := HT.out; rw [inC_of] at this; exact of_decide_eq_true this.symm
            have hgt := gT_bound okb hxb
            have F2 := hid (FN2.out rfl)
            have hpb := prod_bound (a := b.p) (b := x) (A := 1000000) (B := 1000000000) ⟨by have := okb.2.1; omega, okb.2.2.1⟩ ⟨hxb.1, by have := okb.2.2.2.2; omega⟩
            unfold gT at SN hgt
            have em : IntKind.i64.wrap (b.p * x) = b.p * x := IntWalk.i64_in _ (by omega)
            obtain ⟨u, hu⟩ : ∃ u, u = b.p * x := ⟨_, rfl⟩
            rw [← hu] at SN em hpb
            have em2 : IntKind.i64.wrap (b.p * x) = u := by rw [← hu] ; exact em
            have HU := hid hu
            clear hu em FN2 BX
            by_cases hs : b.s = 1
            · have e1 : (b.s == 1) = true := by simpa using hs
              rw [if_pos hs] at SN
              have ew : IntKind.i64.wrap (a + u) = a + u := IntWalk.i64_in _ (by omega)
              clear hs hgt
              go_upto_region 10 with fail
              rw [← HWB.out]
              go_region_held3 (fun wh => wh.cell? ⟨wr.heap.size, 2, none⟩ = some (.int .i64 b.q) ∧ wh.cell? ⟨b2, off2 + i, none⟩ = some (.int .i64 x))
                (exact ⟨k2, k3⟩)
                (first | (go_at_call 40; (with_reducible refine (IX.out _).mono ?_); rintro e w3 ⟨rfl, hw3⟩; subst hw3))
              all_goals (
                go_upto_region 13 with fail
                go_region
                all_goals go_wp2
                all_goals (
                  go_roundg (m - (i + 1))
                  · exact ⟨i + 1, by omega, by go_num, by rw [SN.out], F2.out, BB.out.drew.drew⟩
                  · have := HIK.out; omega))
            · have e1 : (b.s == 1) = false := by simpa using hs
              rw [if_neg hs] at SN
              have ew : IntKind.i64.wrap (a - u) = a + -u := by rw [show a + -u = a - u by omega]; exact IntWalk.i64_in _ (by omega)
              clear hs hgt
              go_upto_region 10 with fail
              rw [← HWB.out]
              go_region_held3 (fun wh => wh.cell? ⟨wr.heap.size, 2, none⟩ = some (.int .i64 b.q) ∧ wh.cell? ⟨b2, off2 + i, none⟩ = some (.int .i64 x))
                (exact ⟨k2, k3⟩)
                (first | (go_at_call 40; (with_reducible refine (IX.out _).mono ?_); rintro e w3 ⟨rfl, hw3⟩; subst hw3))
              all_goals (
                go_upto_region 14 with fail
                go_region
                all_goals go_wp2
                all_goals (
                  go_roundg (m - (i + 1))
                  · exact ⟨i + 1, by omega, by go_num, by rw [SN.out], F2.out, BB.out.drew.drew⟩
                  · have := HIK.out; omega))
          | false =>
            have FN := hid (fun w' hb => BX.out w' rfl hb)
            go_upto_region 10 with fail
            rw [← HWB.out]
            go_region_held3 (fun wh => wh.cell? ⟨wr.heap.size, 2, none⟩ = some (.int .i64 b.q) ∧ wh.cell? ⟨b2, off2 + i, none⟩ = some (.int .i64 x))
              (exact ⟨k2, k3⟩)
              (first | (go_at_call 40; (with_reducible refine (IX.out _).mono ?_); rintro e w3 ⟨rfl, hw3⟩; subst hw3))
            all_goals (
              go_wp2
              first | exact FN.out _ BB.out.drew | exact bodyPost_ret (by simp [results, Try.results33, go_sem]) rfl (FN.out _ BB.out.drew))
        · have hin' : i = m := by have := HIK.out; omega
          subst hin'
          have g2 : decide ((i : Int) < (i : Int)) = false := by simp
          have hlt : l.take i = l := by rw [HN.out, List.take_length]
          have hlt2 : f.take i = f := by rw [HM.out, List.take_length]
          have FN := hid (GOOD.out (by have := FIT.out; rwa [hlt, hlt2] at this) wr B.out)
          rw [hlt, hlt2]
          clear hlt hlt2
          go_wp2
          first | exact FN.out | exact bodyPost_ret (by simp [results, Try.results33, go_sem]) rfl FN.out
    · have g1 : ((m : Int) != (n : Int)) = true := by simp; omega
      have FN := hid (show ∀ w', Below w.heap.size w w' → R (.returned (.tuple #[.int .i64 0, .int .i64 1])) w' from fun w' hb => FM.out _ _ w' (if_neg fun q => hmn q.1) hb)
      clear FM hmn
      go_enter Try.func33, Try.ntmps33
      go_wp2_with fail
      refine CH.out.mono ?_
      rintro e w2 ⟨rfl, hb2⟩
      have B2 := hid hb2
      clear hb2 CH
      go_wp2
      first | exact FN.out _ B2.out | exact bodyPost_ret (by simp [results, Try.results33, go_sem]) rfl (FN.out _ B2.out)
  · rw [if_pos hc0] at FM
    have e1 : (c != 0) = true := by simpa using hc0
    go_enter Try.func33, Try.ntmps33
    go_wp2_with fail
    refine CH.out.mono ?_
    rintro e w2 ⟨rfl, hb2⟩
    have B2 := hid hb2
    clear hb2 hc0
    go_wp2
    first | exact FM.out _ _ _ rfl B2.out | exact bodyPost_ret (by simp [results, Try.results33, go_sem]) rfl (FM.out _ _ _ rfl B2.out)
end Go.Proofs.Ytjhelinbjlahiaa
