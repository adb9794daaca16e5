/- The reference's intervals, plain; its At. The reference's Intervals: the walk. The reference's Best. -/
import Derived.Test.YtjhelinbjlahiaaJLh0
import Derived.Test.YtjhelinbjlahiaaJCd
namespace Go.Proofs.Ytjhelinbjlahiaa
set_option linter.unusedSimpArgs false
set_option linter.unusedVariables false
open Go.RowKit
attribute [local go_sem] Oper.semAt_some
attribute [local go_sem ↓] Go.wp_at_zero Go.wp_at_succ
def encIv (z : Zn) : List Value := [.int .i64 z.f, .int .i64 z.t, .int .i64 z.vol, .int .i64 z.sur]
theorem encIv_len (z : Zn) : (encIv z).length = 4 := rfl
theorem encIv_one (z : Zn) : ∀ u ∈ encIv z, u.oneCell' = true := by
  intro u hu
  simp only [encIv, List.mem_cons, List.not_mem_nil, or_false] at hu
  rcases hu with rfl | rfl | rfl | rfl <;> rfl
abbrev RowV (B : Nat) (w : World) (v : Value) (l : List Zn) : Prop := OwnE encIv 4 65 B w v l
theorem undV : Try.prog.underlying 62 = some (.slice 65) := by kernel_rfl
theorem infoV : (Try.prog.info? 65).map (fun i => (i.zero, i.size, i.bytes)) = some (some (.agg #[.int .i64 0, .int .i64 0, .int .i64 0, .int .i64 0]), 4, 32) := by kernel_rfl
/-- Where the interval that begins at a price ends. -/
def hiF (lo : Int) : List Bd → Int → Int
  | [], h => h
  | b :: l, h => hiF lo l (if lo ≤ cut b - 1 then min h (cut b - 1) else h)
theorem hiF_snoc (lo : Int) (l : List Bd) (b : Bd) : ∀ h, hiF lo (l ++ [b]) h = if lo ≤ cut b - 1 then min (hiF lo l h) (cut b - 1) else hiF lo l h := by
  induction l with
  | nil => intro h; rfl
  | cons c l ih => intro h; exact ih _
theorem hiF_spec (lo : Int) : ∀ (l : List Bd) (h : Int), (hiF lo l h = h ∨ ∃ b ∈ l, lo ≤ cut b - 1 ∧ hiF lo l h = cut b - 1) ∧ hiF lo l h ≤ h ∧ ∀ b ∈ l, lo ≤ cut b - 1 → hiF lo l h ≤ cut b - 1
  | [], h => ⟨.inl rfl, Int.le_refl _, by simp⟩
  | b :: l, h => by
    obtain ⟨h1, h2, h3⟩ := hiF_spec lo l (if lo ≤ cut b - 1 then min h (cut b - 1) else h)
    simp only [hiF]
    by_cases q : lo ≤ cut b - 1
    · rw [if_pos q] at h1 h2 h3 ⊢
      refine ⟨?_, by omega, fun c hc => ?_⟩
      · rcases h1 with e | ⟨c, hc, e1, e2⟩
        · rcases (show min h (cut b - 1) = h ∨ min h (cut b - 1) = cut b - 1 by omega) with z | z
          · exact .inl (by omega)
          · exact .inr ⟨b, List.mem_cons_self, q, by omega⟩
        · exact .inr ⟨c, List.mem_cons_of_mem _ hc, e1, e2⟩
      · rcases List.mem_cons.1 hc with rfl | hc
        · intro _; omega
        · exact h3 c hc
    · rw [if_neg q] at h1 h2 h3 ⊢
      refine ⟨?_, h2, fun c hc => ?_⟩
      · rcases h1 with e | ⟨c, hc, e1, e2⟩
        · exact .inl e
        · exact .inr ⟨c, List.mem_cons_of_mem _ hc, e1, e2⟩
      · rcases List.mem_cons.1 hc with rfl | hc
        · intro h; exact absurd h q
        · exact h3 c hc
theorem cut_range {b : Bd} (h : b.ok) : 1 ≤ cut b ∧ cut b ≤ 1000001 := by
  obtain ⟨h0, h1, h2, _⟩ := h
  unfold cut; split <;> omega
section
variable {l : List Bd} (hok : ∀ b ∈ l, b.ok)
include hok
theorem starts_range : ∀ x ∈ starts l, 1 ≤ x ∧ x ≤ 1000001 := fun x hx => by
  rcases ((starts_spec l).2 x).1 hx with rfl | ⟨b, hb, rfl⟩
  · omega
  · exact cut_range (hok b hb)
/-- The end of the i-th zone. -/
theorem hi_zone {i : Nat} (hi : i < (starts l).length) (h6 : (starts l).getD i 0 ≤ 1000000) : hiF ((starts l).getD i 0) l 1000000 = if i + 1 < (starts l).length then (starts l).getD (i + 1) 0 - 1 else 1000000 := by
  obtain ⟨s1, s2⟩ := starts_spec l
  obtain ⟨h1, h2, h3⟩ := hiF_spec ((starts l).getD i 0) l 1000000
  have hgi : (starts l).getD i 0 = (starts l)[i] := by simp [hi]
  by_cases hn : i + 1 < (starts l).length
  · rw [if_pos hn]
    have hgn : (starts l).getD (i + 1) 0 = (starts l)[i + 1] := by simp [hn]
    have hlt := List.pairwise_iff_getElem.1 s1 i (i + 1) hi hn (by omega)
    have hr := starts_range hok _ (List.getElem_mem hn)
    have hle : hiF ((starts l).getD i 0) l 1000000 ≤ (starts l)[i + 1] - 1 := by
      rcases (s2 _).1 (List.getElem_mem hn) with e | ⟨b, hb, e⟩
      · have := (starts_range hok _ (List.getElem_mem hi)).1; omega
      · have := h3 b hb (by omega); omega
    rw [hgn]
    rcases h1 with e | ⟨b, hb, e1, e2⟩
    · omega
    · have hm : cut b ∈ starts l := (s2 _).2 (.inr ⟨b, hb, rfl⟩)
      obtain ⟨j, hj, ej⟩ := List.getElem_of_mem hm
      have hij : i < j := by
        rcases Nat.lt_or_ge i j with q | q
        · exact q
        · rcases Nat.lt_or_ge j i with q2 | q2
          · have := List.pairwise_iff_getElem.1 s1 j i hj hi q2; omega
          · have : j = i := by omega
            subst this; omega
      rcases Nat.lt_or_ge (i + 1) j with q | q
      · have := List.pairwise_iff_getElem.1 s1 (i + 1) j hn hj q; omega
      · have : j = i + 1 := by omega
        subst this; omega
  · rw [if_neg hn]
    rcases h1 with e | ⟨b, hb, e1, e2⟩
    · exact e
    · have hm : cut b ∈ starts l := (s2 _).2 (.inr ⟨b, hb, rfl⟩)
      obtain ⟨j, hj, ej⟩ := List.getElem_of_mem hm
      rcases Nat.lt_or_ge j i with q2 | q2
      · have := List.pairwise_iff_getElem.1 s1 j i hj hi q2; omega
      · have : j = i := by omega
        subst this; omega
/-- Where the i-th interval begins. -/
def loF (l : List Bd) (i : Nat) : Int := if i < (starts l).length then (starts l).getD i 0 else 1000001
theorem lo_next {i : Nat} (hi : i < (starts l).length) (h6 : loF l i ≤ 1000000) : hiF (loF l i) l 1000000 + 1 = loF l (i + 1) ∧ zAt l (starts l) i = [⟨loF l i, hiF (loF l i) l 1000000, dem l (loF l i), sup l (loF l i)⟩] := by
  have e : loF l i = (starts l).getD i 0 := by unfold loF; rw [if_pos hi]
  rw [e] at h6 ⊢
  have hz := hi_zone hok hi h6
  constructor
  · rw [hz]; unfold loF
    split <;> omega
  · unfold zAt
    rw [if_pos h6, hz]
theorem lo_end {i : Nat} (hi : i ≤ (starts l).length) (h6 : ¬ loF l i ≤ 1000000) : zTo l (starts l) i = zonesL l := by
  unfold zonesL
  by_cases e : i = (starts l).length
  · rw [e]
  · have hil : i < (starts l).length := by omega
    have e1 : loF l i = (starts l)[i] := by unfold loF; rw [if_pos hil]; simp [hil]
    have hr := starts_range hok _ (List.getElem_mem hil)
    have hlast : i + 1 = (starts l).length := by
      refine Classical.byContradiction fun hn => ?_
      have h1 : i + 1 < (starts l).length := by omega
      have := List.pairwise_iff_getElem.1 (starts_spec l).1 i (i + 1) hil h1 (by omega)
      have := starts_range hok _ (List.getElem_mem h1)
      omega
    rw [← hlast, zTo_succ]
    have : zAt l (starts l) i = [] := by
      unfold zAt
      rw [if_neg]
      have : (starts l).getD i 0 = (starts l)[i] := by simp [hil]
      omega
    rw [this, List.append_nil]
theorem lo_range {i : Nat} : 1 ≤ loF l i ∧ loF l i ≤ 1000001 := by
  unfold loF
  split
  · rename_i h
    have : (starts l).getD i 0 = (starts l)[i] := by simp [h]
    rw [this]; exact starts_range hok _ (List.getElem_mem h)
  · omega
end
theorem lo_zero {l : List Bd} (hok : ∀ b ∈ l, b.ok) : loF l 0 = 1 := by
  obtain ⟨s1, s2⟩ := starts_spec l
  have hm : (1 : Int) ∈ starts l := (s2 1).2 (.inl rfl)
  obtain ⟨j, hj, e⟩ := List.getElem_of_mem hm
  have h0 : 0 < (starts l).length := by omega
  unfold loF
  rw [if_pos h0]
  have eg : (starts l).getD 0 0 = (starts l)[0] := by simp [h0]
  have hr := starts_range hok _ (List.getElem_mem h0)
  rw [eg]
  rcases Nat.eq_zero_or_pos j with q | q
  · subst q; exact e
  · have := List.pairwise_iff_getElem.1 s1 0 j h0 hj q
    omega

set_option maxRecDepth 100000 in
set_option maxHeartbeats 4000000 in
theorem rat_calls {w : World} {v : Value} {l : List Bd} (hv : ReadsE encBd 3 w v l) (hl : l.length ≤ 4096) (hok : ∀ b ∈ l, b.ok) (x : Int) :
    Calls Try.prog 25 #[v, .int .i64 x] w fun e w' => e = .returned (.tuple #[.int .i64 (dem l x), .int .i64 (sup l x)]) ∧ w' = w := by
  obtain ⟨hm, p, cap, bb, off, rfl, hp, hc⟩ := hv
  obtain ⟨n, hn⟩ : ∃ n, n = l.length := ⟨_, rfl⟩
  obtain ⟨R, hR⟩ : ∃ R : Ending → World → Prop, R = fun e w' => e = .returned (.tuple #[.int .i64 (dem l x), .int .i64 (sup l x)]) ∧ w' = w := ⟨_, rfl⟩
  rw [← hR]
  have FN := hid (show R (.returned (.tuple #[.int .i64 (dem l x), .int .i64 (sup l x)])) w by rw [hR]; exact ⟨rfl, rfl⟩)
  rw [← hn] at hp hm hl ⊢
  have HN := hid hn
  have HP := hid hp
  have HC := hid hc
  have HOK := hid hok
  clear hR hn hp hc hok
  go_enter Try.func25, Try.ntmps25
  go_upto_region 3 with fail
  go_loopg [6, 7, 8] n (fun k s6 s7 s8 wr => ∃ i : Nat, i + k = n ∧ s8 = .int .i64 i ∧ s6 = .int .i64 (dem (l.take i) x) ∧ s7 = .int .i64 (sup (l.take i) x) ∧ wr = w)
  case atStart => exact ⟨0, by omega, rfl, rfl, rfl, rfl⟩
  case round =>
    obtain ⟨i, hik, rfl, rfl, rfl, rfl⟩ := hrel
    have HIK := hid hik
    have hd := sumQ_bound (buyT x) (l := l.take i) (fun b hb => HOK.out b (List.mem_of_mem_take hb))
    have hs := sumQ_bound (selT x) (l := l.take i) (fun b hb => HOK.out b (List.mem_of_mem_take hb))
    rw [List.length_take] at hd hs
    clear hik
    by_cases hin : i < n
    · have hil : i < l.length := by rw [← HN.out]; exact hin
      obtain ⟨rfl, hbb⟩ := HP.out (by omega)
      have c0 := HC.out i hil 0 (by omega)
      have c1 := HC.out i hil 1 (by omega)
      have c2 := HC.out i hil 2 (by omega)
      simp [encBd] at c0 c1 c2
      have okb := HOK.out l[i] (List.getElem_mem _)
      have DN := hid (show dem (l.take (i + 1)) x = dem (l.take i) x + if buyT x l[i] = true then l[i].q else 0 by unfold dem; rw [take_snoc hil, sumQ_snoc])
      have SN := hid (show sup (l.take (i + 1)) x = sup (l.take i) x + if selT x l[i] = true then l[i].q else 0 by unfold sup; rw [take_snoc hil, sumQ_snoc])
      obtain ⟨b, hx⟩ : ∃ b, b = l[i] := ⟨_, rfl⟩
      rw [← hx] at c0 c1 c2 okb DN SN
      change 0 ≤ dem (l.take i) x ∧ _ at hd
      change 0 ≤ sup (l.take i) x ∧ _ at hs
      obtain ⟨D, hD⟩ : ∃ D, D = dem (l.take i) x := ⟨_, rfl⟩
      obtain ⟨S, hS⟩ : ∃ S, S = sup (l.take i) x := ⟨_, rfl⟩
      rw [← hD] at DN ⊢
      rw [← hS] at SN ⊢
      have hdb : 0 ≤ D ∧ D ≤ 5000000000000 := by rw [hD]; unfold dem at hd ⊢; omega
      have hsb : 0 ≤ S ∧ S ≤ 5000000000000 := by rw [hS]; unfold sup at hs ⊢; omega
      obtain ⟨ok1, ok2, ok3, ok4, ok5⟩ := okb
      have gi : (i : Int) < (n : Int) := by omega
      have gi0 : (0 : Int) ≤ (i : Int) := by omega
      have ew : IntKind.i64.wrap (D + b.q) = D + b.q := IntWalk.i64_in _ (by omega)
      have ew2 : IntKind.i64.wrap (S + b.q) = S + b.q := IntWalk.i64_in _ (by omega)
      clear hx hD hS hd hs
      unfold buyT at DN
      unfold selT at SN
      rcases ok1 with hs1 | hs1
      · have e1 : (b.s == 1) = true := by simpa using hs1
        have e2 : (b.s == 2) = false := by simp [hs1]
        rw [if_neg (by simp [hs1])] at SN
        by_cases hge : x ≤ b.p
        · rw [if_pos (by simp [hs1, hge])] at DN
          clear hs1
          go_wp2
          go_roundg (n - (i + 1))
          · exact ⟨i + 1, by omega, by go_num, by rw [DN.out], by rw [SN.out, Int.add_zero], rfl⟩
          · have := HIK.out; omega
        · rw [if_neg (by simp [hge])] at DN
          clear hs1
          go_wp2
          go_roundg (n - (i + 1))
          · exact ⟨i + 1, by omega, by go_num, by rw [DN.out, Int.add_zero], by rw [SN.out, Int.add_zero], rfl⟩
          · have := HIK.out; omega
      · have e1 : (b.s == 1) = false := by simp [hs1]
        have e2 : (b.s == 2) = true := by simp [hs1]
        rw [if_neg (by simp [hs1])] at DN
        by_cases hge : b.p ≤ x
        · rw [if_pos (by simp [hs1, hge])] at SN
          clear hs1
          go_wp2
          go_roundg (n - (i + 1))
          · exact ⟨i + 1, by omega, by go_num, by rw [DN.out, Int.add_zero], by rw [SN.out], rfl⟩
          · have := HIK.out; omega
        · rw [if_neg (by simp [hge])] at SN
          clear hs1
          go_wp2
          go_roundg (n - (i + 1))
          · exact ⟨i + 1, by omega, by go_num, by rw [DN.out, Int.add_zero], by rw [SN.out, Int.add_zero], rfl⟩
          · have := HIK.out; omega
    · have hin' : i = n := by have := HIK.out; omega
      subst hin'
      have g2 : decide ((i : Int) < (i : Int)) = false := by simp
      have h1 : l.take i = l := by rw [HN.out, List.take_length]
      rw [h1]
      clear h1
      go_wp2
      first | exact FN.out | exact bodyPost_ret (by simp [results, Try.results25, go_sem]) rfl FN.out
end Go.Proofs.Ytjhelinbjlahiaa
namespace Go.Proofs.Ytjhelinbjlahiaa
set_option linter.unusedSimpArgs false
set_option linter.unusedVariables false
open Go.RowKit
attribute [local go_sem] Oper.semAt_some
attribute [local go_sem ↓] Go.wp_at_zero Go.wp_at_succ

set_option maxRecDepth 100000 in
set_option maxHeartbeats 8000000 in
theorem intervals_calls {w : World} {v : Value} {l : List Bd} (hv : ReadsE encBd 3 w v l) (hl : l.length ≤ 4096) (hok : ∀ b ∈ l, b.ok) :
    Calls Try.prog 52 #[v] w fun e w' => ∃ v', e = .returned v' ∧ RowV w.heap.size w' v' (zonesL l) ∧ Below w.heap.size w w' := by
  obtain ⟨R, hR⟩ : ∃ R : Ending → World → Prop, R = fun e w' => ∃ v', e = .returned v' ∧ RowV w.heap.size w' v' (zonesL l) ∧ Below w.heap.size w w' := ⟨_, rfl⟩
  have FN := hid (show ∀ v' w', RowV w.heap.size w' v' (zonesL l) → Below w.heap.size w w' → R (.returned v') w' from fun v' w' h1 h2 => by rw [hR]; exact ⟨v', rfl, h1, h2⟩)
  rw [← hR]
  have HV := hid hv
  obtain ⟨hm, p, cap, bb, off, rfl, hp, hc⟩ := hv
  obtain ⟨n, hn⟩ : ∃ n, n = l.length := ⟨_, rfl⟩
  rw [← hn] at hp hm hl HV ⊢
  have HN := hid hn
  have HP := hid hp
  have HC := hid hc
  have HOK := hid hok
  have hzl := (zonesL_ok (by omega) hok).2
  have L0 := hid (lo_zero hok)
  have hsl := starts_len l
  obtain ⟨K, hK⟩ : ∃ K, K = (starts l).length := ⟨_, rfl⟩
  have HK := hid hK
  rw [← hK] at hsl
  clear hR hn hp hc hok hK
  go_enter Try.func52, Try.ntmps52
  go_upto_region 3 with fail
  go_loopg [3, 4] K (fun k s3 s4 wr => ∃ i : Nat, i + k = K ∧ s4 = .int .i64 (loF l i) ∧ RowV w.heap.size wr s3 (zTo l (starts l) i) ∧ (zTo l (starts l) i).length ≤ i ∧ Below w.heap.size w wr)
  case atStart => exact ⟨0, by omega, by rw [L0.out], OwnE.nil _ _, by simp [zTo], Below.refl _ _⟩
  case round =>
    obtain ⟨i, hik, rfl, hrow, hlen, hb⟩ := hrel
    have HIK := hid hik
    have ROW := hid hrow
    have B := hid hb
    have hlr := lo_range HOK.out (i := i)
    have LN := hid (fun (h : i < K) (h6 : loF l i ≤ 1000000) => lo_next HOK.out (by rw [← HK.out]; exact h) h6)
    have LE := hid (fun (h6 : ¬ loF l i ≤ 1000000) => lo_end HOK.out (show i ≤ (starts l).length by rw [← HK.out]; omega) h6)
    have KK := hid (show ¬ i < K → loF l i = 1000001 from fun h => by unfold loF; rw [if_neg (by rw [← HK.out]; exact h)])
    obtain ⟨lo, hlo⟩ : ∃ lo, lo = loF l i := ⟨_, rfl⟩
    rw [← hlo] at hlr LN LE KK ⊢
    have HLO := hid hlo
    obtain ⟨p3, c3, hv3, hh3⟩ := hrow.form
    obtain ⟨m, hmm⟩ : ∃ m, m = (zTo l (starts l) i).length := ⟨_, rfl⟩
    rw [← hmm] at hv3 hlen
    subst hv3
    have HMM := hid hmm
    have HH3 := hid hh3
    clear hik hrow hb hlo hmm hh3
    by_cases h6 : lo ≤ 1000000
    · have hiK : i < K := by
        refine Classical.byContradiction fun q => ?_
        have := KK.out q; omega
      obtain ⟨ln1, ln2⟩ := LN.out hiK h6
      have LN1 := hid ln1
      have LN2 := hid ln2
      clear LN LE KK ln1 ln2
      go_upto_region 6 with fail
      go_loopg [5, 6, 7] n (fun k s5 s6 s7 wx => ∃ j : Nat, j + k = n ∧ s6 = .int .i64 j ∧ s5 = .int .i64 (hiF lo (l.take j) 1000000) ∧ wx = wr)
      case atStart => exact ⟨0, by omega, rfl, rfl, rfl⟩
      case round =>
        obtain ⟨j, hjk, rfl, rfl, hwx⟩ := hrel
        have HJK := hid hjk
        have HWX := hid hwx
        clear hjk hwx
        by_cases hjn : j < n
        · have hjl : j < l.length := by rw [← HN.out]; exact hjn
          obtain ⟨rfl, hbb⟩ := HP.out (by omega)
          have bx : Below w.heap.size w wr := by rw [HWX.out]; exact B.out
          have c0 := (bx.cell (p := ⟨bb, off + j * 3 + 0, none⟩) hbb).trans (HC.out j hjl 0 (by omega))
          have c1 := (bx.cell (p := ⟨bb, off + j * 3 + 1, none⟩) hbb).trans (HC.out j hjl 1 (by omega))
          simp [encBd] at c0 c1
          have okb := HOK.out l[j] (List.getElem_mem _)
          have HS := hid (show hiF lo (l.take (j + 1)) 1000000 = if lo ≤ cut l[j] - 1 then min (hiF lo (l.take j) 1000000) (cut l[j] - 1) else hiF lo (l.take j) 1000000 by rw [take_snoc hjl, hiF_snoc])
          obtain ⟨b, hx⟩ : ∃ b, b = l[j] := ⟨_, rfl⟩
          rw [← hx] at c0 c1 okb HS
          obtain ⟨H, hH⟩ : ∃ H, H = hiF lo (l.take j) 1000000 := ⟨_, rfl⟩
          rw [← hH] at HS ⊢
          obtain ⟨ok1, ok2, ok3, _⟩ := okb
          have gj : (j : Int) < (n : Int) := by omega
          have gj0 : (0 : Int) ≤ (j : Int) := by omega
          clear hx hH bx
          rcases ok1 with hs1 | hs1
          · have e2 : (b.s == 2) = false := by simp [hs1]
            rw [show cut b = b.p + 1 by unfold cut; rw [if_pos hs1], show b.p + 1 - 1 = b.p by omega] at HS
            clear hs1
            by_cases hge : lo ≤ b.p
            · rw [if_pos hge] at HS
              go_wp2
              go_roundg (n - (j + 1))
              · exact ⟨j + 1, by omega, by go_num, by rw [HS.out], HWX.out⟩
              · have := HJK.out; omega
            · rw [if_neg hge] at HS
              go_wp2
              go_roundg (n - (j + 1))
              · exact ⟨j + 1, by omega, by go_num, by rw [HS.out], HWX.out⟩
              · have := HJK.out; omega
          · have e2 : (b.s == 2) = true := by simp [hs1]
            rw [show cut b = b.p by unfold cut; rw [if_neg (by omega)]] at HS
            have ew : IntKind.i64.wrap (b.p - 1) = b.p - 1 := IntWalk.i64_in _ (by omega)
            clear hs1
            by_cases hge : lo ≤ b.p - 1
            · rw [if_pos hge] at HS
              go_wp2
              go_roundg (n - (j + 1))
              · exact ⟨j + 1, by omega, by go_num, by rw [HS.out], HWX.out⟩
              · have := HJK.out; omega
            · rw [if_neg hge] at HS
              go_wp2
              go_roundg (n - (j + 1))
              · exact ⟨j + 1, by omega, by go_num, by rw [HS.out], HWX.out⟩
              · have := HJK.out; omega
        · have hjn2 : j = n := by have := HJK.out; omega
          subst hjn2
          have g4 : ¬ (j : Int) < (j : Int) := by omega
          have hlt : l.take j = l := by rw [HN.out, List.take_length]
          rw [hlt]
          have hhi := hiF_spec lo l 1000000
          obtain ⟨H, hH⟩ : ∃ H, H = hiF lo l 1000000 := ⟨_, rfl⟩
          rw [← hH] at LN1 LN2 hhi ⊢
          have hHb : -10 ≤ H ∧ H ≤ 1000000 := by
            refine ⟨?_, hhi.2.1⟩
            rcases hhi.1 with e | ⟨b, _, e1, e2⟩ <;> omega
          have bx : Below w.heap.size w wr := by rw [HWX.out]; exact B.out
          have AT := hid (rat_calls (HV.out.below bx) (by rw [← HN.out]; exact hl) HOK.out lo)
          have hdb := sumQ_bound (buyT lo) HOK.out
          have hsb := sumQ_bound (selT lo) HOK.out
          obtain ⟨D, hD⟩ : ∃ D, D = dem l lo := ⟨_, rfl⟩
          obtain ⟨S, hS⟩ : ∃ S, S = sup l lo := ⟨_, rfl⟩
          have hll : l.length ≤ 4096 := by rw [← HN.out]; exact hl
          have hdb2 : 0 ≤ D ∧ D ≤ 5000000000000 := by rw [hD]; unfold dem; omega
          have hsb2 : 0 ≤ S ∧ S ≤ 5000000000000 := by rw [hS]; unfold sup; omega
          rw [← hD, ← hS] at AT LN2
          have ew : IntKind.i64.wrap (D - S) = D - S := IntWalk.i64_in _ (by omega)
          have ew2 : IntKind.i64.wrap (H + 1) = H + 1 := IntWalk.i64_in _ (by omega)
          have so : SrcE encIv 4 (wr.alloc (.cells #[.int .i64 lo, .int .i64 H, .int .i64 (min D S), .int .i64 (D - S)] 65)) (.slice (some ⟨wr.heap.size, 0, none⟩) 1 1) [⟨lo, H, D, S⟩] := SrcE.one (Cells.new wr _ _)
          have row2 : RowV w.heap.size wr (.slice p3 m c3) (zTo l (starts l) i) := by rw [HWX.out]; exact ROW.out
          obtain ⟨v6, w6, r2, r3, k3, _⟩ := own_append (ty := 62) undV infoV rfl (by omega) encIv_len encIv_one (row2.alloc (.cells #[.int .i64 lo, .int .i64 H, .int .i64 (min D S), .int .i64 (D - S)] 65)) (by have := bx.size; simp; omega) so (by unfold maxLen; simp; rw [← HMM.out]; omega) (by simp; rw [← HMM.out]; omega)
          have R2 := hid r2
          have R6 := hid (show RowV w.heap.size w6 v6 (zTo l (starts l) (i + 1)) by rw [zTo_succ, LN2.out]; exact r3)
          have B6 := hid (show Below w.heap.size w w6 from (bx.alloc bx.size _).trans (k3.below (by have := bx.size; simp; omega) (fun k hk => by
            rcases HH3.out with ⟨rfl, _⟩ | ⟨g, rfl, hg, _⟩ <;> cases hk
            exact hg)))
          have LEN := hid (show (zTo l (starts l) (i + 1)).length ≤ i + 1 by rw [zTo_succ, LN2.out, List.length_append, ← HMM.out]; simp; omega)
          clear hll hlt hhi hH hD hS hdb hsb so row2 r2 r3 k3 bx
          go_wp2_with fail
          refine AT.out.mono ?_
          rintro e w5 ⟨rfl, hw5⟩
          subst hw5
          go_wp2_with (at_builtin; refine wpList_append_run rfl (.tmp 47) (.tmp 57) 62 rfl _ _ v6 w6 rfl rfl R2.out ?_)
          go_roundg (K - (i + 1))
          · exact ⟨i + 1, by omega, by rw [LN1.out], R6.out, LEN.out, B6.out⟩
          · have := HIK.out; omega
    · have F := hid (FN.out (.slice p3 m c3) wr (by rw [← LE.out h6]; exact ROW.out) B.out)
      go_wp2
      first | exact F.out | (go_ret; exact F.out)
end Go.Proofs.Ytjhelinbjlahiaa
namespace Go.Proofs.Ytjhelinbjlahiaa
set_option linter.unusedSimpArgs false
set_option linter.unusedVariables false
open Go.RowKit
attribute [local go_sem] Oper.semAt_some
attribute [local go_sem ↓] Go.wp_at_zero Go.wp_at_succ
/-- The greatest volume, and not less than 0. -/
def mostV : List Zn → Int → Int
  | [], m => m
  | z :: l, m => mostV l (max m z.vol)
theorem mostV_snoc (l : List Zn) (z : Zn) : ∀ m, mostV (l ++ [z]) m = max (mostV l m) z.vol := by
  induction l with
  | nil => intro m; rfl
  | cons y l ih => intro m; exact ih _
theorem mostV_spec : ∀ (l : List Zn) (m : Int), m ≤ mostV l m ∧ (∀ z ∈ l, z.vol ≤ mostV l m) ∧ (mostV l m = m ∨ ∃ z ∈ l, mostV l m = z.vol)
  | [], m => ⟨Int.le_refl _, by simp, .inl rfl⟩
  | z :: l, m => by
    obtain ⟨h1, h2, h3⟩ := mostV_spec l (max m z.vol)
    simp only [mostV]
    refine ⟨by omega, fun y hy => ?_, ?_⟩
    · rcases List.mem_cons.1 hy with rfl | hy
      · omega
      · exact h2 y hy
    · rcases h3 with e | ⟨y, hy, e⟩
      · rcases (show max m z.vol = m ∨ max m z.vol = z.vol by omega) with q | q
        · exact .inl (by omega)
        · exact .inr ⟨z, List.mem_cons_self, by omega⟩
      · exact .inr ⟨y, List.mem_cons_of_mem _ hy, e⟩
def most (l : List Bd) : Int := mostV (zonesL l) 0
/-- What the reference's Best gives. -/
def rbestL (l : List Bd) : List Zn := if most l = 0 then [] else bestZ l
theorem minTo_le (F : Zn → Int) : ∀ (Z : List Zn) (a : Int), minTo F Z a ≤ a ∧ ∀ z ∈ Z, minTo F Z a ≤ F z
  | [], a => ⟨Int.le_refl _, by simp⟩
  | y :: Z, a => by
    obtain ⟨h1, h2⟩ := minTo_le F Z (min a (F y))
    have e : minTo F (y :: Z) a = minTo F Z (min a (F y)) := rfl
    rw [e]
    refine ⟨by omega, fun z hz => ?_⟩
    rcases List.mem_cons.1 hz with rfl | hz
    · omega
    · exact h2 z hz
theorem leastF_le (F : Zn → Int) {Z : List Zn} {z : Zn} (hz : z ∈ Z) : leastF F Z ≤ F z := (minTo_le F Z _).2 z hz
/-- The least of the negative volumes. -/
theorem least_most {Z : List Zn} (hne : Z ≠ []) (h : ∀ z ∈ Z, 0 ≤ z.vol) : leastF F1 Z = -mostV Z 0 := by
  obtain ⟨z, hz, e⟩ := leastF_mem F1 hne
  obtain ⟨h1, h2, h3⟩ := mostV_spec Z 0
  have hle : ∀ y ∈ Z, leastF F1 Z ≤ F1 y := fun y hy => leastF_le F1 hy
  have e : -z.vol = leastF F1 Z := e
  have hle : ∀ y ∈ Z, leastF F1 Z ≤ -y.vol := hle
  have hzv := h2 z hz
  have hz0 := h z hz
  rcases h3 with q | ⟨y, hy, q⟩
  · have : z.vol = 0 := by omega
    omega
  · have := hle y hy
    omega
theorem bestZ_vol {l : List Bd} (hl : l.length ≤ 4096) (hok : ∀ b ∈ l, b.ok) : bestZ l ≠ [] ∧ ((bestZ l).getD 0 zn0).vol = most l ∧ bestZ l = (zonesL l).filter fun z => decide (z.vol = most l) := by
  have hne := zonesL_ne hok
  have hv : ∀ z ∈ zonesL l, 0 ≤ z.vol := fun z hz => ((zonesL_ok hl hok).1 z hz).vol.1
  have hlm := least_most hne hv
  have hbn : bestZ l ≠ [] := keptF_ne F1 hne
  have he : bestZ l = (zonesL l).filter fun z => decide (z.vol = most l) := by
    unfold bestZ keptF most
    rw [hlm]
    refine List.filter_congr fun z _ => ?_
    rw [decide_eq_decide]
    unfold F1; omega
  refine ⟨hbn, ?_, he⟩
  have h0 : 0 < (bestZ l).length := List.length_pos_iff.2 hbn
  have e : (bestZ l).getD 0 zn0 = (bestZ l)[0] := by simp [h0]
  rw [e]
  have hm : (bestZ l)[0] ∈ bestZ l := List.getElem_mem h0
  generalize (bestZ l)[0] = y at hm
  rw [he] at hm
  simpa using (List.mem_filter.1 hm).2
theorem most_pos (l : List Bd) : 0 ≤ most l := (mostV_spec (zonesL l) 0).1
theorem rbest_filter {l : List Bd} (hl : l.length ≤ 4096) (hok : ∀ b ∈ l, b.ok) (h : most l ≠ 0) : rbestL l = (zonesL l).filter fun z => decide (z.vol = most l) := by
  unfold rbestL; rw [if_neg h]; exact (bestZ_vol hl hok).2.2

set_option maxRecDepth 100000 in
set_option maxHeartbeats 8000000 in
theorem rbest_calls {w : World} {v : Value} {l : List Bd} (hv : ReadsE encBd 3 w v l) (hl : l.length ≤ 4096) (hok : ∀ b ∈ l, b.ok) :
    Calls Try.prog 32 #[v] w fun e w' => ∃ v', e = .returned v' ∧ RowV w.heap.size w' v' (rbestL l) ∧ Below w.heap.size w w' := by
  obtain ⟨R, hR⟩ : ∃ R : Ending → World → Prop, R = fun e w' => ∃ v', e = .returned v' ∧ RowV w.heap.size w' v' (rbestL l) ∧ Below w.heap.size w w' := ⟨_, rfl⟩
  have FN := hid (show ∀ v' w', RowV w.heap.size w' v' (rbestL l) → Below w.heap.size w w' → R (.returned v') w' from fun v' w' h1 h2 => by rw [hR]; exact ⟨v', rfl, h1, h2⟩)
  rw [← hR]
  have IV := hid (intervals_calls hv hl hok)
  have hzl := (zonesL_ok hl hok).2
  have VB := hid (show ∀ z ∈ zonesL l, 0 ≤ z.vol ∧ z.vol ≤ 5000000000000 from fun z hz => ((zonesL_ok hl hok).1 z hz).vol)
  have M0 := hid (most_pos l)
  have RB0 := hid (show most l = 0 → rbestL l = [] from fun h => by unfold rbestL; rw [if_pos h])
  have RB1 := hid (fun h => rbest_filter hl hok h)
  have MD := hid (show most l = mostV (zonesL l) 0 from rfl)
  clear hR hv hok hl
  obtain ⟨Z, hZ⟩ : ∃ Z, Z = zonesL l := ⟨_, rfl⟩
  rw [← hZ] at IV hzl VB RB1 MD
  obtain ⟨M, hM⟩ : ∃ M, M = most l := ⟨_, rfl⟩
  rw [← hM] at M0 RB0 RB1 MD
  clear hZ hM
  go_enter Try.func32, Try.ntmps32
  go_wp2_with fail
  refine IV.out.mono ?_
  rintro e w2 ⟨v2, rfl, hr2, hb2⟩
  obtain ⟨p2, c2, hv2, hh2⟩ := hr2.form
  obtain ⟨n, hn⟩ : ∃ n, n = Z.length := ⟨_, rfl⟩
  rw [← hn] at hv2 hzl
  subst hv2
  have HN := hid hn
  have ROW := hid hr2
  have B2 := hid hb2
  have CE := hid (show ∀ wx, Below w2.heap.size w2 wx → ∀ (j : Nat) (hj : j < Z.length), ∃ g, p2 = some ⟨g, 0, none⟩ ∧ g < wx.heap.size ∧ wx.cell? ⟨g, j * 4, none⟩ = some (.int .i64 Z[j].f) ∧ wx.cell? ⟨g, j * 4 + 1, none⟩ = some (.int .i64 Z[j].t) ∧ wx.cell? ⟨g, j * 4 + 2, none⟩ = some (.int .i64 Z[j].vol) ∧ wx.cell? ⟨g, j * 4 + 3, none⟩ = some (.int .i64 Z[j].sur) from fun wx hb j hj => by
    obtain ⟨pq, cq, g, hvq, hpq, hcq⟩ := OwnE.cells encIv_len ROW.out
    injection hvq with z1 z2 z3
    obtain ⟨q1, q2, q3⟩ := hpq (by omega)
    refine ⟨g, by rw [z1, q1], Nat.lt_of_lt_of_le q3 hb.size, (hb.cell (p := ⟨g, j * 4, none⟩) q3).trans (hcq j hj 0 (by omega)), (hb.cell (p := ⟨g, j * 4 + 1, none⟩) q3).trans (hcq j hj 1 (by omega)), (hb.cell (p := ⟨g, j * 4 + 2, none⟩) q3).trans (hcq j hj 2 (by omega)), (hb.cell (p := ⟨g, j * 4 + 3, none⟩) q3).trans (hcq j hj 3 (by omega))⟩)
  clear hn hr2 hb2 hh2 IV
  go_upto_region 4 with fail
  go_loopg [4, 5] n (fun k s4 s5 wx => ∃ j : Nat, j + k = n ∧ s5 = .int .i64 j ∧ s4 = .int .i64 (mostV (Z.take j) 0) ∧ wx = w2)
  case atStart => exact ⟨0, by omega, rfl, rfl, rfl⟩
  case round =>
    obtain ⟨j, hjk, rfl, rfl, hwx⟩ := hrel
    have HJK := hid hjk
    have HWX := hid hwx
    clear hjk hwx
    by_cases hjn : j < n
    · have hjl : j < Z.length := by rw [← HN.out]; exact hjn
      obtain ⟨g, rfl, hg, _, _, c2', _⟩ := CE.out wr (by rw [HWX.out]; exact Below.refl _ _) j hjl
      have MS := hid (show mostV (Z.take (j + 1)) 0 = max (mostV (Z.take j) 0) Z[j].vol by rw [take_snoc hjl, mostV_snoc])
      obtain ⟨x, hx⟩ : ∃ x, x = Z[j].vol := ⟨_, rfl⟩
      obtain ⟨a, ha⟩ : ∃ a, a = mostV (Z.take j) 0 := ⟨_, rfl⟩
      rw [← hx] at c2' MS
      rw [← ha] at MS ⊢
      have gj : (j : Int) < (n : Int) := by omega
      have gj0 : (0 : Int) ≤ (j : Int) := by omega
      clear hx ha
      go_wp2
      go_roundg (n - (j + 1))
      · exact ⟨j + 1, by omega, by go_num, by rw [MS.out], HWX.out⟩
      · have := HJK.out; omega
    · have hjn2 : j = n := by have := HJK.out; omega
      subst hjn2
      have g4 : ¬ (j : Int) < (j : Int) := by omega
      have hlt : Z.take j = Z := by rw [HN.out, List.take_length]
      rw [hlt, ← MD.out]
      obtain ⟨w3, rfl⟩ : ∃ w3 : World, w3 = wr := ⟨_, rfl⟩
      have ROW3 := hid (show RowV w.heap.size w3 (.slice p2 j c2) Z by rw [HWX.out]; exact ROW.out)
      have B3 := hid (show Below w.heap.size w w3 by rw [HWX.out]; exact B2.out)
      have CE3 := hid (show ∀ wx, Below w3.heap.size w3 wx → _ by rw [HWX.out]; exact CE.out)
      clear hlt ROW CE B2
      by_cases hM0 : M = 0
      · have F := hid (FN.out (.slice none 0 0) w3 (by rw [RB0.out hM0]; exact OwnE.nil _ _) B3.out)
        subst hM0
        go_upto_region 9 with fail
        go_loopg [6, 7] 0 (fun k s6 s7 wx => s6 = .slice none 0 0 ∧ s7 = .int .i64 0 ∧ wx = w3)
        case atStart => exact ⟨rfl, rfl, rfl⟩
        case round =>
          obtain ⟨rfl, rfl, hwx2⟩ := hrel
          have F2 := hid (show R (.returned (.slice none 0 0)) wr by rw [hwx2]; exact F.out)
          clear hwx2
          rcases Nat.eq_zero_or_pos j with q | q
          · have g5 : ¬ (0 : Int) < (j : Int) := by omega
            clear q
            go_wp2
            first | exact F2.out | (go_ret; exact F2.out)
          · have g5 : (0 : Int) < (j : Int) := by omega
            clear q
            go_wp2
            first | exact F2.out | (go_ret; exact F2.out)
      · have gM : (0 : Int) < M := by have := M0.out; omega
        have RBF := hid (RB1.out hM0)
        clear hM0 RB1
        go_upto_region 9 with fail
        go_loopg [6, 7] j (fun k s6 s7 wx => ∃ i : Nat, i + k = j ∧ s7 = .int .i64 i ∧ RowV w3.heap.size wx s6 ((Z.take i).filter fun z => decide (z.vol = M)) ∧ Below w3.heap.size w3 wx)
        case atStart => exact ⟨0, by omega, rfl, OwnE.nil _ _, Below.refl _ _⟩
        case round =>
          obtain ⟨i, hik, rfl, hro, hbx⟩ := hrel
          have HIK := hid hik
          have BX := hid hbx
          have B0 := hid (B3.out.trans (hbx.mono B3.out.size))
          obtain ⟨po, co, hvo, hho⟩ := hro.form
          obtain ⟨m, hmm⟩ : ∃ m, m = ((Z.take i).filter fun z => decide (z.vol = M)).length := ⟨_, rfl⟩
          have hmi : m ≤ i := by rw [hmm]; exact Nat.le_trans (List.length_filter_le _ _) (by rw [List.length_take]; omega)
          rw [← hmm] at hvo
          subst hvo
          have RO := hid hro
          have HMM := hid hmm
          have HHO := hid hho
          clear hik hbx hro hmm hho
          by_cases hin : i < j
          · have hil : i < Z.length := by rw [← HN.out]; exact hin
            obtain ⟨g, rfl, hg, d0, d1, d2, d3⟩ := CE3.out wr BX.out i hil
            have ht : Z.take (i + 1) = Z.take i ++ [Z[i]] := take_snoc hil
            obtain ⟨z, hz⟩ : ∃ z, z = Z[i] := ⟨_, rfl⟩
            rw [← hz] at d0 d1 d2 d3 ht
            have gi : (i : Int) < (j : Int) := by omega
            have gi0 : (0 : Int) ≤ (i : Int) := by omega
            clear hz
            by_cases hzv : z.vol = M
            · have e1 : (z.vol == M) = true := by simpa using hzv
              have so : SrcE encIv 4 (wr.alloc (.cells #[.int .i64 z.f, .int .i64 z.t, .int .i64 z.vol, .int .i64 z.sur] 65)) (.slice (some ⟨wr.heap.size, 0, none⟩) 1 1) [z] := SrcE.one (Cells.new wr _ _)
              obtain ⟨v6, w6, r2, r3, k3, _⟩ := own_append (ty := 62) undV infoV rfl (by omega) encIv_len encIv_one (RO.out.alloc (.cells #[.int .i64 z.f, .int .i64 z.t, .int .i64 z.vol, .int .i64 z.sur] 65)) (by have := BX.out.size; simp; omega) so (by unfold maxLen; rw [← HMM.out]; simp; omega) (by rw [← HMM.out]; simp; omega)
              have R2 := hid r2
              have R6 := hid (show RowV w3.heap.size w6 v6 ((Z.take (i + 1)).filter fun z => decide (z.vol = M)) by rw [ht, List.filter_append]; simpa [hzv] using r3)
              have szB := B0.out.size
              have B6 := hid (show Below w3.heap.size w3 w6 from (BX.out.alloc BX.out.size _).trans (k3.below (by have := BX.out.size; simp; omega) (fun k hk => by
                rcases HHO.out with ⟨rfl, _⟩ | ⟨g', rfl, hg', _⟩ <;> cases hk
                exact hg')))
              clear so r2 r3 k3 ht hzv
              go_wp2_with (at_builtin; refine wpList_append_run rfl (.tmp 40) (.tmp 45) 62 rfl _ _ v6 w6 rfl rfl R2.out ?_)
              go_roundg (j - (i + 1))
              · exact ⟨i + 1, by omega, by go_num, R6.out, B6.out⟩
              · have := HIK.out; omega
            · have e1 : (z.vol == M) = false := by simpa using hzv
              have R6 := hid (show RowV w3.heap.size wr (.slice po m co) ((Z.take (i + 1)).filter fun z => decide (z.vol = M)) by rw [ht, List.filter_append]; simpa [hzv] using RO.out)
              clear ht hzv
              go_wp2
              go_roundg (j - (i + 1))
              · exact ⟨i + 1, by omega, by go_num, R6.out, BX.out⟩
              · have := HIK.out; omega
          · have hin2 : i = j := by have := HIK.out; omega
            subst hin2
            have g5 : ¬ (i : Int) < (i : Int) := by omega
            have hlt2 : Z.take i = Z := by rw [HN.out, List.take_length]
            have ro := RO.out
            rw [hlt2, ← RBF.out] at ro
            have F := hid (FN.out _ wr (ro.mono B3.out.size) B0.out)
            clear ro hlt2
            go_wp2
            first | exact F.out | (go_ret; exact F.out)
end Go.Proofs.Ytjhelinbjlahiaa
