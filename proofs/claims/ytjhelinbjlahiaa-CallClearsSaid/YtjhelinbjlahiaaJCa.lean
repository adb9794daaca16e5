/- call.At, call.Price, call.Best. -/
import Derived.Test.YtjhelinbjlahiaaJZq
import Derived.Test.YtjhelinbjlahiaaJCl1
namespace Go.Proofs.Ytjhelinbjlahiaa
set_option linter.unusedSimpArgs false
set_option linter.unusedVariables false
open Go.RowKit Go.Shelf
attribute [local go_sem] Oper.semAt_some
attribute [local go_sem ↓] Go.wp_at_zero Go.wp_at_succ
theorem chk_zero {l : List Bd} (h : chk l = 0) : l.length ≤ 4096 ∧ ∀ b ∈ l, b.ok := by
  unfold chk at h
  split at h
  · cases h
  · split at h
    · rename_i h1 h2
      exact ⟨by omega, h2⟩
    · cases h
theorem below_two {w w2 w3 : World} (h : Below w.heap.size w w2) (g : Below w2.heap.size w2 w3) : Below w.heap.size w w3 := h.trans (g.mono h.size)
/-- What At answers. -/
def atF (l : List Bd) (x : Int) : Int × Int × Int := if chk l ≠ 0 then (0, 0, chk l) else if inC x 1 1000000 then (dem l x, sup l x, 0) else (0, 0, 1)

set_option maxRecDepth 100000 in
set_option maxHeartbeats 4000000 in
theorem at_calls {w : World} {v : Value} {l : List Bd} (hv : ReadsE encBd 3 w v l) (x : Int) :
    Calls Try.prog 30 #[v, .int .i64 x] w fun e w' => e = .returned (.tuple #[.int .i64 (atF l x).1, .int .i64 (atF l x).2.1, .int .i64 (atF l x).2.2]) ∧ Below w.heap.size w w' := by
  obtain ⟨R, hR⟩ : ∃ R : Ending → World → Prop, R = fun e w' => e = .returned (.tuple #[.int .i64 (atF l x).1, .int .i64 (atF l x).2.1, .int .i64 (atF l x).2.2]) ∧ Below w.heap.size w w' := ⟨_, rfl⟩
  rw [← hR]
  have FM := hid (show ∀ (a b c : Int) w', atF l x = (a, b, c) → Below w.heap.size w w' → R (.returned (.tuple #[.int .i64 a, .int .i64 b, .int .i64 c])) w' from fun a b c w' h1 h2 => by rw [hR, h1]; exact ⟨rfl, h2⟩)
  clear hR
  have CH := hid (check_calls hv)
  have IN := hid (fun wx => in_calls x 1 1000000 wx)
  have SM := hid (fun (hc : chk l = 0) wx (hb : Below w.heap.size w wx) => sums_calls (hv.below hb) (chk_zero hc).1 (chk_zero hc).2 x)
  unfold atF at FM
  obtain ⟨c, hc⟩ : ∃ c, c = chk l := ⟨_, rfl⟩
  rw [← hc] at CH FM
  have HC := hid hc
  obtain ⟨b, hb⟩ : ∃ b, b = inC x 1 1000000 := ⟨_, rfl⟩
  rw [← hb] at IN FM
  clear hc hb hv
  by_cases hc0 : c = 0
  · subst hc0
    rw [if_neg (fun h => h rfl)] at FM
    cases b with
    | true =>
      rw [if_pos rfl] at FM
      go_enter Try.func30, Try.ntmps30
      go_wp2_with fail
      refine CH.out.mono ?_
      rintro e w2 ⟨rfl, hb2⟩
      have B2 := hid hb2
      clear hb2
      go_wp2_with fail
      refine (IN.out _).mono ?_
      rintro e w3 ⟨rfl, rfl⟩
      go_wp2_with fail
      refine (SM.out HC.out.symm _ B2.out).mono ?_
      rintro e w4 ⟨rfl, hb4⟩
      have B4 := hid (below_two B2.out hb4)
      clear hb4
      go_wp2
      exact bodyPost_ret (by simp [results, Try.results30, go_sem]) rfl (FM.out _ _ _ _ rfl B4.out)
    | false =>
      rw [if_neg (by decide)] at FM
      go_enter Try.func30, Try.ntmps30
      go_wp2_with fail
      refine CH.out.mono ?_
      rintro e w2 ⟨rfl, hb2⟩
      have B2 := hid hb2
      clear hb2
      go_wp2_with fail
      refine (IN.out _).mono ?_
      rintro e w3 ⟨rfl, rfl⟩
      go_wp2
      exact bodyPost_ret (by simp [results, Try.results30, go_sem]) rfl (FM.out _ _ _ _ rfl B2.out)
  · rw [if_pos hc0] at FM
    have e1 : (c != 0) = true := by simpa using hc0
    go_enter Try.func30, Try.ntmps30
    go_wp2_with fail
    refine CH.out.mono ?_
    rintro e w2 ⟨rfl, hb2⟩
    have B2 := hid hb2
    clear hb2 hc0
    go_wp2
    exact bodyPost_ret (by simp [results, Try.results30, go_sem]) rfl (FM.out _ _ _ _ rfl B2.out)
/-- What Price answers. -/
def prF (l : List Bd) (x : Int) : Int × Int := if chk l ≠ 0 then (0, chk l) else if inC x 1 1000000 then (if priceZ (zonesL l) x = 0 then (0, 30) else (priceZ (zonesL l) x, 0)) else (0, 1)
theorem inC_true {x : Int} (h : inC x 1 1000000 = true) : 1 ≤ x ∧ x ≤ 1000000 := by unfold inC at h; simpa using h

set_option maxRecDepth 100000 in
set_option maxHeartbeats 4000000 in
theorem pricef_calls {w : World} {v : Value} {l : List Bd} (hv : ReadsE encBd 3 w v l) (x : Int) :
    Calls Try.prog 26 #[v, .int .i64 x] w fun e w' => e = .returned (.tuple #[.int .i64 (prF l x).1, .int .i64 (prF l x).2]) ∧ Below w.heap.size w w' := by
  obtain ⟨R, hR⟩ : ∃ R : Ending → World → Prop, R = fun e w' => e = .returned (.tuple #[.int .i64 (prF l x).1, .int .i64 (prF l x).2]) ∧ Below w.heap.size w w' := ⟨_, rfl⟩
  rw [← hR]
  have FM := hid (show ∀ (a b : Int) w', prF l x = (a, b) → Below w.heap.size w w' → R (.returned (.tuple #[.int .i64 a, .int .i64 b])) w' from fun a b w' h1 h2 => by rw [hR, h1]; exact ⟨rfl, h2⟩)
  clear hR
  have CH := hid (check_calls hv)
  have IN := hid (fun wx => in_calls x 1 1000000 wx)
  have PR := hid (fun (hc : chk l = 0) (hi : inC x 1 1000000 = true) wx (hb : Below w.heap.size w wx) => price_calls (hv.below hb) (chk_zero hc).1 (chk_zero hc).2 (inC_true hi))
  unfold prF at FM
  obtain ⟨c, hc⟩ : ∃ c, c = chk l := ⟨_, rfl⟩
  rw [← hc] at CH FM
  have HC := hid hc
  obtain ⟨b, hb⟩ : ∃ b, b = inC x 1 1000000 := ⟨_, rfl⟩
  have HB := hid hb
  rw [← hb] at IN FM
  obtain ⟨p, hp⟩ : ∃ p, p = priceZ (zonesL l) x := ⟨_, rfl⟩
  rw [← hp] at PR FM
  clear hc hb hv hp
  by_cases hc0 : c = 0
  · subst hc0
    rw [if_neg (fun h => h rfl)] at FM
    cases b with
    | true =>
      rw [if_pos rfl] at FM
      by_cases hp0 : p = 0
      · rw [if_pos hp0] at FM
        have e2 : (p == 0) = true := by simpa using hp0
        clear hp0
        go_enter Try.func26, Try.ntmps26
        go_wp2_with fail
        refine CH.out.mono ?_
        rintro e w2 ⟨rfl, hb2⟩
        have B2 := hid hb2
        clear hb2
        go_wp2_with fail
        refine (IN.out _).mono ?_
        rintro e w3 ⟨rfl, rfl⟩
        go_wp2_with fail
        refine (PR.out HC.out.symm HB.out.symm _ B2.out).mono ?_
        rintro e w4 ⟨rfl, hb4⟩
        have B4 := hid (below_two B2.out hb4)
        clear hb4
        go_wp2
        first | exact FM.out _ _ _ rfl B4.out | exact bodyPost_ret (by simp [results, Try.results26, go_sem]) rfl (FM.out _ _ _ rfl B4.out)
      · rw [if_neg hp0] at FM
        have e2 : (p == 0) = false := by simpa using hp0
        clear hp0
        go_enter Try.func26, Try.ntmps26
        go_wp2_with fail
        refine CH.out.mono ?_
        rintro e w2 ⟨rfl, hb2⟩
        have B2 := hid hb2
        clear hb2
        go_wp2_with fail
        refine (IN.out _).mono ?_
        rintro e w3 ⟨rfl, rfl⟩
        go_wp2_with fail
        refine (PR.out HC.out.symm HB.out.symm _ B2.out).mono ?_
        rintro e w4 ⟨rfl, hb4⟩
        have B4 := hid (below_two B2.out hb4)
        clear hb4
        go_wp2
        first | exact FM.out _ _ _ rfl B4.out | exact bodyPost_ret (by simp [results, Try.results26, go_sem]) rfl (FM.out _ _ _ rfl B4.out)
    | false =>
      rw [if_neg (by decide)] at FM
      go_enter Try.func26, Try.ntmps26
      go_wp2_with fail
      refine CH.out.mono ?_
      rintro e w2 ⟨rfl, hb2⟩
      have B2 := hid hb2
      clear hb2
      go_wp2_with fail
      refine (IN.out _).mono ?_
      rintro e w3 ⟨rfl, rfl⟩
      go_wp2
      first | exact FM.out _ _ _ rfl B2.out | exact bodyPost_ret (by simp [results, Try.results26, go_sem]) rfl (FM.out _ _ _ rfl B2.out)
  · rw [if_pos hc0] at FM
    have e1 : (c != 0) = true := by simpa using hc0
    go_enter Try.func26, Try.ntmps26
    go_wp2_with fail
    refine CH.out.mono ?_
    rintro e w2 ⟨rfl, hb2⟩
    have B2 := hid hb2
    clear hb2 hc0
    go_wp2
    first | exact FM.out _ _ _ rfl B2.out | exact bodyPost_ret (by simp [results, Try.results26, go_sem]) rfl (FM.out _ _ _ rfl B2.out)
end Go.Proofs.Ytjhelinbjlahiaa
