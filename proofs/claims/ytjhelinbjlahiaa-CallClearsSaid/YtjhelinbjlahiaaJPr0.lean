/- The price, plain: the reference's and the program's. The reference's Price: the walk. -/
import Derived.Test.YtjhelinbjlahiaaJIv0
namespace Go.Proofs.Ytjhelinbjlahiaa
set_option linter.unusedSimpArgs false
set_option linter.unusedVariables false
open Go.RowKit
/-- The zones rise. -/
def Rising (Z : List Zn) : Prop := Z.Pairwise (fun a b => a.t < b.f) ∧ ∀ z ∈ Z, z.f ≤ z.t
theorem Rising.filter {Z : List Zn} (h : Rising Z) (p : Zn → Bool) : Rising (Z.filter p) := ⟨h.1.sublist List.filter_sublist, fun z hz => h.2 z (List.mem_filter.1 hz).1⟩
theorem Rising.lt {Z : List Zn} (h : Rising Z) {i j : Nat} (hij : i < j) (hj : j < Z.length) : Z[i].t < Z[j].f ∧ Z[i].t < Z[j].t := by
  have h1 := List.pairwise_iff_getElem.1 h.1 i j (by omega) hj hij
  have h2 := h.2 _ (List.getElem_mem hj)
  omega
theorem zTo_rising {l : List Bd} (hok : ∀ b ∈ l, b.ok) : ∀ i, i ≤ (starts l).length → Rising (zTo l (starts l) i) ∧ ∀ z ∈ zTo l (starts l) i, z.t + 1 ≤ loF l i
  | 0, _ => by simp [zTo, Rising]
  | i + 1, hi => by
    obtain ⟨⟨h1, h2⟩, h3⟩ := zTo_rising hok i (by omega)
    rw [zTo_succ]
    by_cases h6 : loF l i ≤ 1000000
    · obtain ⟨n1, n2⟩ := lo_next hok (show i < (starts l).length by omega) h6
      have hge : loF l i ≤ hiF (loF l i) l 1000000 := by
        rcases (hiF_spec (loF l i) l 1000000).1 with e | ⟨b, _, e1, e2⟩ <;> omega
      rw [n2]
      refine ⟨⟨List.pairwise_append.2 ⟨h1, List.pairwise_singleton _ _, fun a ha b hb => ?_⟩, fun z hz => ?_⟩, fun z hz => ?_⟩
      · rw [List.mem_singleton.1 hb]
        have := h3 a ha
        show a.t < loF l i
        omega
      · rcases List.mem_append.1 hz with q | q
        · exact h2 z q
        · rw [List.mem_singleton.1 q]; exact hge
      · rcases List.mem_append.1 hz with q | q
        · have := h3 z q; omega
        · rw [List.mem_singleton.1 q]
          show hiF (loF l i) l 1000000 + 1 ≤ _
          omega
    · have hz : zAt l (starts l) i = [] := by
        unfold zAt
        rw [if_neg]
        unfold loF at h6
        rw [if_pos (by omega)] at h6
        exact h6
      rw [hz, List.append_nil]
      refine ⟨⟨h1, h2⟩, fun z hz => ?_⟩
      have h7 := h3 z hz
      have h8 : loF l i ≤ loF l (i + 1) := by
        have hr := lo_range hok (i := i + 1)
        have hil : i < (starts l).length := by omega
        unfold loF
        rw [if_pos hil]
        have e : (starts l).getD i 0 = (starts l)[i] := by simp [hil]
        split
        · rename_i hn
          have e2 : (starts l).getD (i + 1) 0 = (starts l)[i + 1] := by simp [hn]
          rw [e, e2]
          exact Int.le_of_lt (List.pairwise_iff_getElem.1 (starts_spec l).1 i (i + 1) hil hn (by omega))
        · rw [e]
          exact (starts_range hok _ (List.getElem_mem hil)).2
      omega
theorem zones_rising {l : List Bd} (hok : ∀ b ∈ l, b.ok) : Rising (zonesL l) := (zTo_rising hok _ (Nat.le_refl _)).1
/-- The first of those for which a number is least. -/
theorem first_kept {F : Zn → Int} {Z : List Zn} {i : Nat} (hi : i < Z.length) (h1 : ∀ (j : Nat) (hj : j < Z.length), F Z[i] ≤ F Z[j]) (h2 : ∀ (j : Nat) (hj : j < i), F Z[i] < F (Z[j]'(by omega))) : (keptF F Z).getD 0 zn0 = Z[i] := by
  have hl : leastF F Z = F Z[i] := by
    obtain ⟨z, hz, e⟩ := leastF_mem F (Z := Z) (fun h => by rw [h] at hi; simp at hi)
    have g1 := leastF_le F (List.getElem_mem hi)
    obtain ⟨j, hj, rfl⟩ := List.getElem_of_mem hz
    have := h1 j hj
    omega
  unfold keptF
  rw [hl]
  have hs : Z = Z.take i ++ (Z[i] :: Z.drop (i + 1)) := by
    rw [List.getElem_cons_drop, List.take_append_drop]
  have hf : (Z.filter fun z => decide (F z = F Z[i])) = (Z.take i).filter (fun z => decide (F z = F Z[i])) ++ (Z[i] :: Z.drop (i + 1)).filter (fun z => decide (F z = F Z[i])) := by
    rw [← List.filter_append, ← hs]
  have h0 : (Z.take i).filter (fun z => decide (F z = F Z[i])) = [] := List.filter_eq_nil_iff.2 fun z hz => by
    obtain ⟨j, hj, rfl⟩ := List.getElem_of_mem hz
    rw [List.length_take] at hj
    rw [List.getElem_take]
    have := h2 j (by omega)
    simp; omega
  rw [hf, h0, List.nil_append, List.filter_cons]
  simp
/-- The nearest price, the first of them. -/
def nearP (ref : Int) : List Zn → Int → Int
  | [], p => p
  | z :: l, p => nearP ref l (if p = 0 ∨ siz (z.pk 0 ref - ref) < siz (p - ref) then z.pk 0 ref else p)
theorem nearP_snoc (ref : Int) (l : List Zn) (z : Zn) : ∀ p, nearP ref (l ++ [z]) p = if nearP ref l p = 0 ∨ siz (z.pk 0 ref - ref) < siz (nearP ref l p - ref) then z.pk 0 ref else nearP ref l p := by
  induction l with
  | nil => intro p; rfl
  | cons y l ih => intro p; exact ih _
theorem pk_pos {z : Zn} (hz : z.ok) (ref : Int) : 1 ≤ z.pk 0 ref ∧ z.pk 0 ref ≤ 1000000 := by
  obtain ⟨h1, h2, h3, _⟩ := hz
  have e : z.pk 0 ref = min (max ref z.f) z.t := by unfold Zn.pk; rw [if_neg (by decide), if_neg (by decide)]
  rw [e]; omega
theorem nearP_at {ref : Int} {Z : List Zn} (hok : ∀ z ∈ Z, z.ok) : ∀ n, 0 < n → n ≤ Z.length → ∃ (i : Nat) (hi : i < Z.length), i < n ∧ nearP ref (Z.take n) 0 = (Z[i]).pk 0 ref ∧ (∀ (j : Nat) (hj : j < Z.length), j < n → siz ((Z[i]).pk 0 ref - ref) ≤ siz ((Z[j]).pk 0 ref - ref)) ∧ ∀ (j : Nat) (hj : j < Z.length), j < i → siz ((Z[i]).pk 0 ref - ref) < siz ((Z[j]).pk 0 ref - ref)
  | 0, h, _ => absurd h (Nat.lt_irrefl 0)
  | 1, _, hn => by
    refine ⟨0, hn, Nat.one_pos, ?_, fun j hj h => ?_, fun j hj h => absurd h (Nat.not_lt_zero j)⟩
    · rw [take_snoc hn, nearP_snoc]
      simp [nearP]
    · have : j = 0 := by omega
      subst this; exact Int.le_refl _
  | n + 2, _, hn => by
    obtain ⟨i, hi, h1, h2, h3, h4⟩ := nearP_at (ref := ref) hok (n + 1) (by omega) (by omega)
    have hnl : n + 1 < Z.length := by omega
    rw [take_snoc hnl, nearP_snoc, h2]
    have hp := pk_pos (hok _ (List.getElem_mem hi)) ref
    by_cases q : siz ((Z[n + 1]).pk 0 ref - ref) < siz ((Z[i]).pk 0 ref - ref)
    · rw [if_pos (.inr q)]
      refine ⟨n + 1, hnl, by omega, rfl, fun j hj h => ?_, fun j hj h => ?_⟩
      · by_cases e : j = n + 1
        · subst e; exact Int.le_refl _
        · have := h3 j hj (by omega); omega
      · have := h3 j hj h; omega
    · rw [if_neg (fun h => by rcases h with h | h <;> omega)]
      refine ⟨i, hi, by omega, rfl, fun j hj h => ?_, h4⟩
      by_cases e : j = n + 1
      · subst e; omega
      · exact h3 j hj (by omega)
/-- What the reference's Price gives, out of the intervals of the greatest volume. -/
def fewL (l : List Bd) : List Zn := keptF F2 (bestZ l)
def rpriceF (l : List Bd) (ref : Int) : Int :=
  if most l = 0 then 0 else if allOver (fewL l) then ((fewL l).getD ((fewL l).length - 1) zn0).t else if allUnder (fewL l) then ((fewL l).getD 0 zn0).f else nearP ref (fewL l) 0
theorem rprice_eq {l : List Bd} (hl : l.length ≤ 4096) (hok : ∀ b ∈ l, b.ok) (ref : Int) : rpriceF l ref = priceZ (zonesL l) ref := by
  obtain ⟨b1, b2, b3⟩ := bestZ_vol hl hok
  have hzo := (zonesL_ok hl hok).1
  have fne : fewL l ≠ [] := keptF_ne F2 b1
  have fok : ∀ z ∈ fewL l, z.ok := fun z hz => hzo z (keptF_sub _ (keptF_sub _ hz))
  have fvol : ∀ z ∈ fewL l, z.vol = most l := fun z hz => by
    have := keptF_sub _ hz
    rw [b3] at this
    simpa using (List.mem_filter.1 this).2
  have frise : Rising (fewL l) := ((zones_rising hok).filter _).filter _
  have h0 : 0 < (fewL l).length := List.length_pos_iff.2 fne
  -- whatever is kept last
  have key : ∀ (F : Zn → Int) (i : Nat) (hi : i < (fewL l).length), (∀ (j : Nat) (hj : j < (fewL l).length), F (fewL l)[i] ≤ F (fewL l)[j]) → (∀ (j : Nat) (hj : j < i), F (fewL l)[i] < F ((fewL l)[j]'(by omega))) → (keptF F (fewL l)).getD 0 zn0 = (fewL l)[i] := fun F i hi h1 h2 => first_kept hi h1 h2
  have pz : ∀ i (hi : i < (fewL l).length), (keptF (F3 (leanF (fewL l)) ref) (fewL l)).getD 0 zn0 = (fewL l)[i] → priceZ (zonesL l) ref = if most l = 0 then 0 else ((fewL l)[i]).pk (leanF (fewL l)) ref := fun i hi e => by
    have hv := fvol _ (List.getElem_mem hi)
    show (if ((keptF (F3 (leanF (fewL l)) ref) (fewL l)).getD 0 zn0).vol = 0 then 0 else ((keptF (F3 (leanF (fewL l)) ref) (fewL l)).getD 0 zn0).pk (leanF (fewL l)) ref) = _
    rw [e, hv]
  unfold rpriceF
  by_cases ho : allOver (fewL l) = true
  · have hw : leanF (fewL l) = 1 := by unfold leanF; rw [if_pos ho]
    have hi : (fewL l).length - 1 < (fewL l).length := by omega
    have hk := key (F3 (leanF (fewL l)) ref) _ hi (fun j hj => by
      rw [hw]
      have e : ∀ z : Zn, F3 1 ref z = -z.t := fun z => by unfold F3; rw [if_neg (by decide)]; omega
      rw [e, e]
      by_cases q : j = (fewL l).length - 1
      · subst q; exact Int.le_refl _
      · have := (frise.lt (show j < (fewL l).length - 1 by omega) hi).2; omega) (fun j hj => by
      rw [hw]
      have e : ∀ z : Zn, F3 1 ref z = -z.t := fun z => by unfold F3; rw [if_neg (by decide)]; omega
      rw [e, e]
      have := (frise.lt hj hi).2; omega)
    rw [pz _ hi hk, if_pos ho, hw]
    congr 1
    have : (fewL l).getD ((fewL l).length - 1) zn0 = (fewL l)[(fewL l).length - 1] := by simp [hi]
    rw [this]; unfold Zn.pk; rw [if_pos rfl]
  · by_cases hu : allUnder (fewL l) = true
    · have hw : leanF (fewL l) = -1 := by unfold leanF; rw [if_neg ho, if_pos hu]
      have e : ∀ z : Zn, F3 (-1) ref z = z.t := fun z => by unfold F3; rw [if_neg (by decide)]; omega
      have hk := key (F3 (leanF (fewL l)) ref) 0 h0 (fun j hj => by
        rw [hw, e, e]
        by_cases q : j = 0
        · subst q; exact Int.le_refl _
        · have := (frise.lt (show 0 < j by omega) hj).2; omega) (fun j hj => absurd hj (Nat.not_lt_zero j))
      rw [pz _ h0 hk, if_neg ho, if_pos hu, hw]
      congr 1
      have : (fewL l).getD 0 zn0 = (fewL l)[0] := by simp [h0]
      rw [this]; unfold Zn.pk; rw [if_neg (by decide), if_pos rfl]
    · have hw : leanF (fewL l) = 0 := by unfold leanF; rw [if_neg ho, if_neg hu]
      have e : ∀ z : Zn, F3 0 ref z = siz (z.pk 0 ref - ref) := fun z => by unfold F3; rw [if_pos rfl]
      obtain ⟨i, hi, h1, h2, h3, h4⟩ := nearP_at (ref := ref) fok (fewL l).length h0 (Nat.le_refl _)
      rw [List.take_length] at h2
      have hk := key (F3 (leanF (fewL l)) ref) i hi (fun j hj => by rw [hw, e, e]; exact h3 j hj hj) (fun j hj => by rw [hw, e, e]; exact h4 j (by omega) hj)
      rw [pz _ hi hk, if_neg ho, if_neg hu, hw, h2]
end Go.Proofs.Ytjhelinbjlahiaa
namespace Go.Proofs.Ytjhelinbjlahiaa
set_option linter.unusedSimpArgs false
set_option linter.unusedVariables false
open Go.RowKit
attribute [local go_sem] Oper.semAt_some
attribute [local go_sem ↓] Go.wp_at_zero Go.wp_at_succ
set_option maxRecDepth 100000 in
theorem size_calls (x : Int) (hx : -9000000000000000000 ≤ x ∧ x ≤ 9000000000000000000) (w : World) : Calls Try.prog 43 #[.int .i64 x] w fun e w' => e = .returned (.int .i64 (siz x)) ∧ w' = w := by
  unfold siz
  have e1 : IntKind.i64.wrap (-x) = -x := IntWalk.i64_in _ (by omega)
  go_enter Try.func43, Try.ntmps43
  go_wp2
  go_ret
  exact ⟨rfl, rfl⟩
theorem all_snoc (p : Zn → Bool) (l : List Zn) (z : Zn) : (l ++ [z]).all p = (l.all p && p z) := by simp
theorem F2_bound {z : Zn} (hz : z.ok) : 0 ≤ F2 z ∧ F2 z ≤ 5000000000000 := by
  have := hz.sur
  unfold F2 siz; omega
theorem minTo_take (F : Zn → Int) {Z : List Zn} {j : Nat} (hj : j < Z.length) (a : Int) : minTo F (Z.take (j + 1)) a = min (minTo F (Z.take j) a) (F Z[j]) := by rw [take_snoc hj, minTo_snoc]

set_option maxRecDepth 100000 in
set_option maxHeartbeats 8000000 in
theorem rprice_calls {w : World} {v : Value} {l : List Bd} (hv : ReadsE encBd 3 w v l) (hl : l.length ≤ 4096) (hok : ∀ b ∈ l, b.ok) {ref : Int} (hr : 1 ≤ ref ∧ ref ≤ 1000000) :
    Calls Try.prog 22 #[v, .int .i64 ref] w fun e w' => e = .returned (.int .i64 (priceZ (zonesL l) ref)) ∧ Below w.heap.size w w' := by
  rw [← rprice_eq hl hok ref]
  obtain ⟨R, hR⟩ : ∃ R : Ending → World → Prop, R = fun e w' => e = .returned (.int .i64 (rpriceF l ref)) ∧ Below w.heap.size w w' := ⟨_, rfl⟩
  rw [← hR]
  have FN := hid (show ∀ p w', p = rpriceF l ref → Below w.heap.size w w' → R (.returned (.int .i64 p)) w' from fun p w' h1 h2 => by rw [hR, h1]; exact ⟨rfl, h2⟩)
  have BC := hid (rbest_calls hv hl hok)
  unfold rbestL at BC
  obtain ⟨b1, b2, b3⟩ := bestZ_vol hl hok
  have hzk := zonesL_ok hl hok
  have KOK := hid (show ∀ z ∈ bestZ l, z.ok from fun z hz => hzk.1 z (keptF_sub _ hz))
  have hkl : (bestZ l).length ≤ 4097 := Nat.le_trans (keptF_len _ _) hzk.2
  have FNE := hid (show fewL l ≠ [] from keptF_ne F2 b1)
  have FK := hid (show fewL l = (bestZ l).filter fun z => decide (F2 z = leastF F2 (bestZ l)) from rfl)
  have RP := hid (show rpriceF l ref = if most l = 0 then 0 else if allOver (fewL l) then ((fewL l).getD ((fewL l).length - 1) zn0).t else if allUnder (fewL l) then ((fewL l).getD 0 zn0).f else nearP ref (fewL l) 0 from rfl)
  obtain ⟨P, hP⟩ : ∃ P, P = rpriceF l ref := ⟨_, rfl⟩
  rw [← hP] at FN RP
  obtain ⟨Q, hQ⟩ : ∃ Q, Q = fewL l := ⟨_, rfl⟩
  rw [← hQ] at FNE FK RP
  obtain ⟨K, hK⟩ : ∃ K, K = bestZ l := ⟨_, rfl⟩
  rw [← hK] at BC b1 KOK hkl FK
  obtain ⟨M, hM⟩ : ∃ M, M = most l := ⟨_, rfl⟩
  rw [← hM] at BC RP
  clear hR hP hQ hK hM b2 b3 hzk hv hok hl
  by_cases hM0 : M = 0
  · rw [if_pos hM0] at BC RP
    clear hM0
    go_enter Try.func22, Try.ntmps22
    go_wp2_with fail
    refine BC.out.mono ?_
    rintro e w2 ⟨v2, rfl, hr2, hb2⟩
    obtain ⟨p2, c2, hv2, _⟩ := hr2.form
    have hv3 : v2 = .slice p2 0 c2 := hv2
    subst hv3
    have F := hid (FN.out 0 w2 RP.out.symm hb2)
    clear hr2 hb2 hv2
    go_wp2
    first | exact F.out | (go_ret; exact F.out)
  · rw [if_neg hM0] at BC RP
    have hK0 : 0 < K.length := List.length_pos_iff.2 b1
    clear hM0
    go_enter Try.func22, Try.ntmps22
    go_wp2_with fail
    refine BC.out.mono ?_
    rintro e w2 ⟨v2, rfl, hr2, hb2⟩
    have B2 := hid hb2
    obtain ⟨p2, c2, g, hv2, hp2, hc2⟩ := OwnE.cells encIv_len hr2
    obtain ⟨rfl, _, hgl⟩ := hp2 hK0
    have CE := hid (show ∀ wx, Below w2.heap.size w2 wx → ∀ (j : Nat) (hj : j < K.length), g < wx.heap.size ∧ wx.cell? ⟨g, j * 4, none⟩ = some (.int .i64 K[j].f) ∧ wx.cell? ⟨g, j * 4 + 1, none⟩ = some (.int .i64 K[j].t) ∧ wx.cell? ⟨g, j * 4 + 2, none⟩ = some (.int .i64 K[j].vol) ∧ wx.cell? ⟨g, j * 4 + 3, none⟩ = some (.int .i64 K[j].sur) from fun wx hb j hj =>
      ⟨Nat.lt_of_lt_of_le hgl hb.size, (hb.cell (p := ⟨g, j * 4, none⟩) hgl).trans (hc2 j hj 0 (by omega)), (hb.cell (p := ⟨g, j * 4 + 1, none⟩) hgl).trans (hc2 j hj 1 (by omega)), (hb.cell (p := ⟨g, j * 4 + 2, none⟩) hgl).trans (hc2 j hj 2 (by omega)), (hb.cell (p := ⟨g, j * 4 + 3, none⟩) hgl).trans (hc2 j hj 3 (by omega))⟩)
    obtain ⟨n, hn⟩ : ∃ n, n = K.length := ⟨_, rfl⟩
    rw [← hn] at hv2 hkl
    have hn0 : 0 < n := by omega
    subst hv2
    have HN := hid hn
    have SZ := hid (fun (z : Zn) (hz : z ∈ K) wx => size_calls z.sur (by have := (KOK.out z hz).sur; omega) wx)
    obtain ⟨_, _, _, _, d3⟩ := CE.out w2 (Below.refl _ _) 0 hK0
    have hz0 : K[0] ∈ K := List.getElem_mem hK0
    have SZ0 := hid (SZ.out _ hz0)
    have hF0 : F2 K[0] = siz K[0].sur := rfl
    have LD := hid (show leastF F2 K = minTo F2 K (F2 K[0]) from by unfold leastF; congr 1; simp [hK0])
    obtain ⟨s0, hs0⟩ : ∃ s0, s0 = K[0].sur := ⟨_, rfl⟩
    rw [← hs0] at d3 SZ0 hF0
    rw [hF0] at LD
    have g0 : (0 : Int) < (n : Int) := by omega
    have g1 : ((n : Int) == 0) = false := by simp; omega
    clear hr2 hb2 hp2 hc2 hn BC hz0 hs0 hF0 b1
    simp only [Nat.zero_mul, Nat.zero_add] at d3
    go_wp2_with fail
    refine (SZ0.out _).mono ?_
    rintro e w3 ⟨rfl, hw3⟩
    subst hw3
    go_upto_region 6 with fail
    go_loopg [6, 7] n (fun k s6 s7 wx => ∃ j : Nat, j + k = n ∧ s7 = .int .i64 j ∧ s6 = .int .i64 (minTo F2 (K.take j) (siz s0)) ∧ wx = w3)
    case atStart => exact ⟨0, by omega, rfl, rfl, rfl⟩
    case round =>
      obtain ⟨j, hjk, rfl, rfl, hwx⟩ := hrel
      have HJK := hid hjk
      have HWX := hid hwx
      clear hjk hwx
      by_cases hjn : j < n
      · have hjl : j < K.length := by rw [← HN.out]; exact hjn
        obtain ⟨hg, _, _, _, c3'⟩ := CE.out wr (by rw [HWX.out]; exact Below.refl _ _) j hjl
        have MS := hid (minTo_take F2 hjl (siz s0))
        have SJ := hid (SZ.out _ (List.getElem_mem hjl))
        have e2 : F2 K[j] = siz K[j].sur := rfl
        rw [e2] at MS
        obtain ⟨x, hx⟩ : ∃ x, x = K[j].sur := ⟨_, rfl⟩
        obtain ⟨a, ha⟩ : ∃ a, a = minTo F2 (K.take j) (siz s0) := ⟨_, rfl⟩
        rw [← hx] at c3' MS SJ
        rw [← ha] at MS ⊢
        have gj : (j : Int) < (n : Int) := by omega
        have gj0 : (0 : Int) ≤ (j : Int) := by omega
        clear hx ha e2
        go_wp2_with fail
        refine (SJ.out _).mono ?_
        rintro e w4 ⟨rfl, hw4⟩
        subst hw4
        go_wp2
        go_roundg (n - (j + 1))
        · exact ⟨j + 1, by omega, by go_num, by rw [MS.out], HWX.out⟩
        · have := HJK.out; omega
      · have hjn2 : j = n := by have := HJK.out; omega
        subst hjn2
        have g4 : ¬ (j : Int) < (j : Int) := by omega
        have hlt : K.take j = K := by rw [HN.out, List.take_length]
        rw [hlt, ← LD.out]
        have hFK := FK.out
        obtain ⟨L, hL⟩ : ∃ L, L = leastF F2 K := ⟨_, rfl⟩
        rw [← hL] at hFK ⊢
        have FK2 := hid hFK
        obtain ⟨w4, rfl⟩ : ∃ w4 : World, w4 = wr := ⟨_, rfl⟩
        have B4 := hid (show Below w.heap.size w w4 by rw [HWX.out]; exact B2.out)
        have CE4 := hid (show ∀ wx, Below w4.heap.size w4 wx → _ by rw [HWX.out]; exact CE.out)
        clear hlt hL hFK FK LD CE B2 d3
        go_upto_region 12 with fail
        go_loopg [8, 9, 10, 11] j (fun k s8 s9 s10 s11 wx => ∃ i : Nat, i + k = j ∧ s11 = .int .i64 i ∧ RowV w4.heap.size wx s8 ((K.take i).filter fun z => decide (F2 z = L)) ∧ s9 = .bool (allOver ((K.take i).filter fun z => decide (F2 z = L))) ∧ s10 = .bool (allUnder ((K.take i).filter fun z => decide (F2 z = L))) ∧ Below w4.heap.size w4 wx)
        case atStart => exact ⟨0, by omega, rfl, OwnE.nil _ _, rfl, rfl, Below.refl _ _⟩
        case round =>
          obtain ⟨i, hik, rfl, hro, rfl, rfl, hbx⟩ := hrel
          have HIK := hid hik
          have BX := hid hbx
          obtain ⟨po, co, hvo, hho⟩ := hro.form
          obtain ⟨m, hmm⟩ : ∃ m, m = ((K.take i).filter fun z => decide (F2 z = L)).length := ⟨_, rfl⟩
          have hmi : m ≤ i := by rw [hmm]; exact Nat.le_trans (List.length_filter_le _ _) (by rw [List.length_take]; omega)
          rw [← hmm] at hvo
          subst hvo
          have RO := hid hro
          have HMM := hid hmm
          have HHO := hid hho
          clear hik hbx hro hmm hho
          by_cases hin : i < j
          · have hil : i < K.length := by rw [← HN.out]; exact hin
            obtain ⟨hg, d0, d1, d2, d3⟩ := CE4.out wr BX.out i hil
            have ht : K.take (i + 1) = K.take i ++ [K[i]] := take_snoc hil
            have SJ := hid (SZ.out _ (List.getElem_mem hil))
            obtain ⟨z, hz⟩ : ∃ z, z = K[i] := ⟨_, rfl⟩
            rw [← hz] at d0 d1 d2 d3 ht SJ
            have DD := hid (show ∀ wx, Below w4.heap.size w4 wx → g < wx.heap.size ∧ wx.cell? ⟨g, i * 4 + 3, none⟩ = some (.int .i64 z.sur) from fun wx hb => by
              obtain ⟨q1, _, _, _, q2⟩ := CE4.out wx hb i hil
              rw [← hz] at q2
              exact ⟨q1, q2⟩)
            have eF : F2 z = siz z.sur := rfl
            have gi : (i : Int) < (j : Int) := by omega
            have gi0 : (0 : Int) ≤ (i : Int) := by omega
            clear hz
            by_cases hzv : F2 z = L
            · have e1 : (siz z.sur == L) = true := by rw [← eF]; simpa using hzv
              have hfl : (K.take (i + 1)).filter (fun z => decide (F2 z = L)) = (K.take i).filter (fun z => decide (F2 z = L)) ++ [z] := by rw [ht, List.filter_append]; simp [hzv]
              have so : SrcE encIv 4 (wr.alloc (.cells #[.int .i64 z.f, .int .i64 z.t, .int .i64 z.vol, .int .i64 z.sur] 65)) (.slice (some ⟨wr.heap.size, 0, none⟩) 1 1) [z] := SrcE.one (Cells.new wr _ _)
              obtain ⟨v6, w6, r2, r3, k3, _⟩ := own_append (ty := 62) undV infoV rfl (by omega) encIv_len encIv_one (RO.out.alloc (.cells #[.int .i64 z.f, .int .i64 z.t, .int .i64 z.vol, .int .i64 z.sur] 65)) (by have := BX.out.size; simp; omega) so (by unfold maxLen; rw [← HMM.out]; simp; omega) (by rw [← HMM.out]; simp; omega)
              have R2 := hid r2
              have R6 := hid (show RowV w4.heap.size w6 v6 ((K.take (i + 1)).filter fun z => decide (F2 z = L)) by rw [hfl]; exact r3)
              have B6 := hid (show Below w4.heap.size w4 w6 from (BX.out.alloc BX.out.size _).trans (k3.below (by have := BX.out.size; simp; omega) (fun k hk => by
                rcases HHO.out with ⟨rfl, _⟩ | ⟨g', rfl, hg', _⟩ <;> cases hk
                exact hg')))
              have OS := hid (show allOver ((K.take (i + 1)).filter fun z => decide (F2 z = L)) = (allOver ((K.take i).filter fun z => decide (F2 z = L)) && decide (0 < z.sur)) by rw [hfl]; exact all_snoc _ _ _)
              have US := hid (show allUnder ((K.take (i + 1)).filter fun z => decide (F2 z = L)) = (allUnder ((K.take i).filter fun z => decide (F2 z = L)) && decide (z.sur < 0)) by rw [hfl]; exact all_snoc _ _ _)
              obtain ⟨ov, hov⟩ : ∃ ov, ov = allOver ((K.take i).filter fun z => decide (F2 z = L)) := ⟨_, rfl⟩
              obtain ⟨un, hun⟩ : ∃ un, un = allUnder ((K.take i).filter fun z => decide (F2 z = L)) := ⟨_, rfl⟩
              rw [← hov] at OS ⊢
              rw [← hun] at US ⊢
              obtain ⟨q1, q2⟩ := DD.out w6 B6.out
              clear so r2 r3 k3 ht hzv hfl eF hov hun DD
              go_wp2_with fail
              refine (SJ.out _).mono ?_
              rintro e w5 ⟨rfl, hw5⟩
              subst hw5
              cases ov <;> cases un
              all_goals (
                go_wp2_with (at_builtin; refine wpList_append_run rfl (.tmp 53) (.tmp 58) 62 rfl _ _ v6 w6 rfl rfl R2.out ?_)
                go_roundg (j - (i + 1))
                · exact ⟨i + 1, by omega, by go_num, R6.out, by rw [OS.out]; rfl, by rw [US.out]; rfl, B6.out⟩
                · have := HIK.out; omega)
            · have e1 : (siz z.sur == L) = false := by rw [← eF]; simpa using hzv
              have hfl : (K.take (i + 1)).filter (fun z => decide (F2 z = L)) = (K.take i).filter (fun z => decide (F2 z = L)) := by rw [ht, List.filter_append]; simp [hzv]
              have R6 := hid hfl
              clear ht hzv hfl eF
              go_wp2_with fail
              refine (SJ.out _).mono ?_
              rintro e w5 ⟨rfl, hw5⟩
              subst hw5
              go_wp2
              go_roundg (j - (i + 1))
              · exact ⟨i + 1, by omega, by go_num, by rw [R6.out]; exact RO.out, by rw [R6.out], by rw [R6.out], BX.out⟩
              · have := HIK.out; omega
          · have hin2 : i = j := by have := HIK.out; omega
            subst hin2
            have g5 : ¬ (i : Int) < (i : Int) := by omega
            have hlt2 : K.take i = K := by rw [HN.out, List.take_length]
            have ro := RO.out
            have hmm := HMM.out
            have hho := HHO.out
            rw [hlt2, ← FK2.out] at ro hmm
            rw [hlt2, ← FK2.out] at hho
            rw [hlt2, ← FK2.out]
            have hQ0 : 0 < Q.length := List.length_pos_iff.2 FNE.out
            have QOK := hid (show ∀ z ∈ Q, z.ok from fun z hz => by
              rw [FK2.out] at hz
              exact KOK.out z (List.mem_filter.1 hz).1)
            obtain ⟨pq, cq, gq, hvq, hpq, hcq⟩ := OwnE.cells encIv_len ro
            obtain ⟨rfl, _, hgq⟩ := hpq hQ0
            injection hvq with z1 z2 z3
            subst z1 z3
            clear z2
            have CQ := hid (show ∀ wx, Below wr.heap.size wr wx → ∀ (y : Nat) (hy : y < Q.length), gq < wx.heap.size ∧ wx.cell? ⟨gq, y * 4, none⟩ = some (.int .i64 Q[y].f) ∧ wx.cell? ⟨gq, y * 4 + 1, none⟩ = some (.int .i64 Q[y].t) from fun wx hb y hy =>
              ⟨Nat.lt_of_lt_of_le hgq hb.size, (hb.cell (p := ⟨gq, y * 4, none⟩) hgq).trans (hcq y hy 0 (by omega)), (hb.cell (p := ⟨gq, y * 4 + 1, none⟩) hgq).trans (hcq y hy 1 (by omega))⟩)
            have B0 := hid (B4.out.trans (BX.out.mono B4.out.size))
            have hRP := RP.out
            have HM2 := hid hmm
            have m0 : 0 < m := by omega
            have g6 : (0 : Int) < (m : Int) := by omega
            obtain ⟨w6, rfl⟩ : ∃ w6 : World, w6 = wr := ⟨_, rfl⟩
            clear ro hho hmm RO HMM HHO hlt2 hcq hpq BX B4 CE4
            by_cases ho : allOver Q = true
            · rw [if_pos ho] at hRP
              obtain ⟨y, hy⟩ : ∃ y, m = y + 1 := ⟨m - 1, by omega⟩
              have hyQ : y < Q.length := by rw [← HM2.out]; omega
              obtain ⟨q0, _, q1⟩ := CQ.out w6 (Below.refl _ _) y hyQ
              have e1 : Q.getD (Q.length - 1) zn0 = Q[y] := by
                have : Q.length - 1 = y := by rw [← HM2.out]; omega
                rw [this]; simp [hyQ]
              rw [e1] at hRP
              rw [← hRP] at q1
              have F := hid (FN.out P w6 rfl B0.out)
              have ew : IntKind.i64.wrap ((m : Int) - 1) = (y : Int) := by rw [show (m : Int) - 1 = (y : Int) by omega]; exact IntWalk.i64_in _ (by omega)
              have g7 : (y : Int) < (m : Int) := by omega
              have g8 : (0 : Int) ≤ (y : Int) := by omega
              rw [ho]
              clear e1 hRP ho hy
              go_wp2
              first | exact F.out | (go_ret; exact F.out)
            · have ho2 : allOver Q = false := by simpa using ho
              rw [if_neg ho] at hRP
              rw [ho2]
              clear ho ho2
              by_cases hu : allUnder Q = true
              · rw [if_pos hu] at hRP
                obtain ⟨q0, q1, _⟩ := CQ.out w6 (Below.refl _ _) 0 hQ0
                have e1 : Q.getD 0 zn0 = Q[0] := by simp [hQ0]
                rw [e1] at hRP
                rw [← hRP] at q1
                simp only [Nat.zero_mul] at q1
                have F := hid (FN.out P w6 rfl B0.out)
                rw [hu]
                clear e1 hRP hu
                go_wp2
                first | exact F.out | (go_ret; exact F.out)
              · have hu2 : allUnder Q = false := by simpa using hu
                rw [if_neg hu] at hRP
                rw [hu2]
                have RPN := hid hRP
                have SZA := hid (fun x hx wx => size_calls x hx wx)
                have PKB := hid (show ∀ y, y ≤ Q.length → 0 ≤ nearP ref (Q.take y) 0 ∧ nearP ref (Q.take y) 0 ≤ 1000000 from fun y hy => by
                  rcases Nat.eq_zero_or_pos y with e | e
                  · subst e; simp [nearP]
                  · obtain ⟨i', hi', _, h2, _⟩ := nearP_at (ref := ref) QOK.out y e hy
                    rw [h2]
                    have := pk_pos (QOK.out _ (List.getElem_mem hi')) ref
                    omega)
                clear hu hu2 hRP
                go_upto_region 24 with fail
                go_loopg [12, 13, 14] m (fun k s12 s13 s14 wx => ∃ y : Nat, y + k = m ∧ s13 = .int .i64 y ∧ s12 = .int .i64 (nearP ref (Q.take y) 0) ∧ Below w6.heap.size w6 wx)
                case atStart => exact ⟨0, by omega, rfl, rfl, Below.refl _ _⟩
                case round =>
                  obtain ⟨y, hyk, rfl, rfl, hbx⟩ := hrel
                  have HYK := hid hyk
                  have BX := hid hbx
                  clear hyk hbx
                  by_cases hym : y < m
                  · have hyQ : y < Q.length := by rw [← HM2.out]; exact hym
                    obtain ⟨hg, d0, d1⟩ := CQ.out wr BX.out y hyQ
                    have NS := hid (show nearP ref (Q.take (y + 1)) 0 = if nearP ref (Q.take y) 0 = 0 ∨ siz (Q[y].pk 0 ref - ref) < siz (nearP ref (Q.take y) 0 - ref) then Q[y].pk 0 ref else nearP ref (Q.take y) 0 by rw [take_snoc hyQ, nearP_snoc])
                    have ab := PKB.out y (by omega)
                    have bb := pk_pos (QOK.out _ (List.getElem_mem hyQ)) ref
                    have pe : Q[y].pk 0 ref = min (max ref Q[y].f) Q[y].t := by unfold Zn.pk; rw [if_neg (by decide), if_neg (by decide)]
                    rw [pe] at NS bb
                    obtain ⟨zf, hzf⟩ : ∃ zf, zf = Q[y].f := ⟨_, rfl⟩
                    obtain ⟨zt, hzt⟩ : ∃ zt, zt = Q[y].t := ⟨_, rfl⟩
                    obtain ⟨a, ha⟩ : ∃ a, a = nearP ref (Q.take y) 0 := ⟨_, rfl⟩
                    rw [← hzf] at d0 NS bb
                    rw [← hzt] at d1 NS bb
                    rw [← ha] at NS ab ⊢
                    obtain ⟨b, hb⟩ : ∃ b, b = min (max ref zf) zt := ⟨_, rfl⟩
                    rw [← hb] at NS bb
                    have HB := hid hb
                    have gy : (y : Int) < (m : Int) := by omega
                    have gy0 : (0 : Int) ≤ (y : Int) := by omega
                    clear pe hzf hzt ha hb hyQ
                    go_upto_region 26 with fail
                    go_cut [14] (fun s14 wx => s14 = .int .i64 b ∧ Below w6.heap.size w6 wx)
                    case first =>
                      go_region
                      all_goals go_wp2
                      all_goals (
                        go_meet
                        exact ⟨by rw [HB.out], BX.out.drew⟩)
                    case rest =>
                      obtain ⟨rfl, hbx2⟩ := hcut
                      have BX2 := hid hbx2
                      obtain ⟨w7, rfl⟩ : ∃ w7 : World, w7 = wc := ⟨_, rfl⟩
                      have eb : IntKind.i64.wrap (b - ref) = b - ref := IntWalk.i64_in _ (by omega)
                      have ea : IntKind.i64.wrap (a - ref) = a - ref := IntWalk.i64_in _ (by omega)
                      have S1 := hid (SZA.out (b - ref) (by omega))
                      have S2 := hid (SZA.out (a - ref) (by omega))
                      clear hbx2 BX
                      by_cases ha0 : a = 0
                      · rw [if_pos (.inl ha0)] at NS
                        have g9 : (a == 0) = true := by simpa using ha0
                        clear ha0
                        go_wp2
                        go_roundg (m - (y + 1))
                        · exact ⟨y + 1, by omega, by go_num, by rw [NS.out], BX2.out⟩
                        · have := HYK.out; omega
                      · have g9 : (a == 0) = false := by simpa using ha0
                        by_cases hlt : siz (b - ref) < siz (a - ref)
                        · rw [if_pos (.inr hlt)] at NS
                          clear ha0
                          go_wp2_with fail
                          refine (S1.out _).mono ?_
                          rintro e w8 ⟨rfl, hw8⟩
                          subst hw8
                          go_wp2_with fail
                          refine (S2.out _).mono ?_
                          rintro e w9 ⟨rfl, hw9⟩
                          subst hw9
                          go_wp2
                          go_roundg (m - (y + 1))
                          · exact ⟨y + 1, by omega, by go_num, by rw [NS.out], BX2.out⟩
                          · have := HYK.out; omega
                        · rw [if_neg (fun h => by rcases h with h | h; exact ha0 h; exact hlt h)] at NS
                          clear ha0
                          go_wp2_with fail
                          refine (S1.out _).mono ?_
                          rintro e w8 ⟨rfl, hw8⟩
                          subst hw8
                          go_wp2_with fail
                          refine (S2.out _).mono ?_
                          rintro e w9 ⟨rfl, hw9⟩
                          subst hw9
                          go_wp2
                          go_roundg (m - (y + 1))
                          · exact ⟨y + 1, by omega, by go_num, by rw [NS.out], BX2.out⟩
                          · have := HYK.out; omega
                  · have hym2 : y = m := by have := HYK.out; omega
                    subst hym2
                    have g9 : ¬ (y : Int) < (y : Int) := by omega
                    have hlt : Q.take y = Q := by rw [HM2.out, List.take_length]
                    have F := hid (FN.out (nearP ref (Q.take y) 0) wr (by rw [hlt]; exact RPN.out.symm) (B0.out.trans (BX.out.mono B0.out.size)))
                    clear hlt
                    go_wp2
                    first | exact F.out | (go_ret; exact F.out)
end Go.Proofs.Ytjhelinbjlahiaa
