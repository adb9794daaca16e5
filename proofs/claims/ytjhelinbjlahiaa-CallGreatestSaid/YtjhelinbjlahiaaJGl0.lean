/- CallGreatest: the walk. -/
import Derived.Test.YtjhelinbjlahiaaJGr1
import Derived.Test.YtjhelinbjlahiaaJMi1
namespace Go.Proofs.Ytjhelinbjlahiaa
set_option linter.unusedSimpArgs false
set_option linter.unusedVariables false
open Go.RowKit
attribute [local go_sem] Oper.semAt_some
attribute [local go_sem ↓] Go.wp_at_zero Go.wp_at_succ
theorem gre_fills {l : List Bd} (hok : ∀ b ∈ l, b.ok) {x rule : Int} (hx : 1 ≤ x ∧ x ≤ 1000000) (h : volX l x = most l) : GrE l (gsum l (fillsL l x (volX l x) rule)) :=
  ⟨fun Q => gain_weak hok Q rfl, gain_dual hok hx rfl (fun y a b => by rw [h]; exact vol_le_most hok a b)⟩
theorem fills_naught {l : List Bd} (hok : ∀ b ∈ l, b.ok) {x rule : Int} : gsum l (fillsL l x 0 rule) = 0 := by
  obtain ⟨e, _, _⟩ := list_sN l (fillOf l x 0 rule) l.length (Nat.le_refl _)
  rw [List.take_length] at e
  have e2 : gsum l (fillsL l x 0 rule) = _ := e
  rw [e2, sN_congr (ψ := fun _ => 0) fun k hk => ?_]
  · clear e e2 hok
    induction l.length with
    | zero => rfl
    | succ m ih => simp only [sN]; rw [ih]; omega
  · obtain ⟨c1, c2⟩ := fillOf_cases (l := l) (x := x) (v := 0) (rule := rule) hk
    have hz : fillOf l x 0 rule k = 0 := by
      have nn : ∀ sd m, 0 ≤ sumI (qs l (fore l sd x m)) := fun sd m => sumI_nonneg fun y hy => (qs_nonneg hok _ y hy).1
      rcases (hok _ (List.getElem_mem hk)).1 with hs | hs
      · by_cases q : x ≤ l[k].p
        · rw [((c1 hs).1 q).1]; exact fill_naught hok ((c1 hs).1 q).2 (nn _ _)
        · exact (c1 hs).2 q
      · by_cases q : l[k].p ≤ x
        · rw [((c2 hs).1 q).1]; exact fill_naught hok ((c2 hs).1 q).2 (nn _ _)
        · exact (c2 hs).2 q
    show gT (bAt l k) (fillOf l x 0 rule k) = 0
    rw [hz]; unfold gT; simp
theorem gre_zero {l : List Bd} (hl : l.length ≤ 4096) (hok : ∀ b ∈ l, b.ok) (h : most l = 0) : GrE l 0 := by
  obtain ⟨x, x1, x2, x3⟩ := most_at hok hl
  have := gre_fills hok (rule := 1) ⟨x1, x2⟩ x3
  rw [x3, h, fills_naught hok] at this
  exact this
/-- The fills of both sides, by places. -/
def pB (l : List Bd) (f : Nat → Int) (m : Nat) : Int := sN (fun k => if (bAt l k).s = 1 then f k else 0) m
def pS (l : List Bd) (f : Nat → Int) (m : Nat) : Int := sN (fun k => if (bAt l k).s = 1 then 0 else f k) m
def fL (l : List Bd) (f : Nat → Int) : List Int := (List.range l.length).map f
theorem fL_sums (l : List Bd) (f : Nat → Int) : sumB l (fL l f) = pB l f l.length ∧ sumS l (fL l f) = pS l f l.length := by
  obtain ⟨_, e2, e3⟩ := list_sN l f l.length (Nat.le_refl _)
  rw [List.take_length] at e2 e3
  exact ⟨e2, e3⟩
/-- The state while the fills are brought to balance. -/
structure BlS (l : List Bd) (f : Nat → Int) (b s : Int) (j : Nat) : Prop where
  bd : ∀ k, k < l.length → 0 ≤ f k ∧ f k ≤ (bAt l k).q
  fb : b = pB l f l.length
  fs : s = pS l f l.length
  eb : b - s ≤ pB l f j
  es : s - b ≤ pS l f j
theorem pB_nonneg {l : List Bd} {f : Nat → Int} {m : Nat} (h : ∀ k, k < m → 0 ≤ f k) : 0 ≤ pB l f m := sN_nonneg fun k hk => by have := h k hk; split <;> omega
theorem pS_nonneg {l : List Bd} {f : Nat → Int} {m : Nat} (h : ∀ k, k < m → 0 ≤ f k) : 0 ≤ pS l f m := sN_nonneg fun k hk => by have := h k hk; split <;> omega
theorem BlS.start {l : List Bd} {f : Nat → Int} (h : ∀ k, k < l.length → 0 ≤ f k ∧ f k ≤ (bAt l k).q) : BlS l f (pB l f l.length) (pS l f l.length) l.length := by
  have h1 := pB_nonneg (l := l) (f := f) (m := l.length) fun k hk => (h k hk).1
  have h2 := pS_nonneg (l := l) (f := f) (m := l.length) fun k hk => (h k hk).1
  exact ⟨h, rfl, rfl, by omega, by omega⟩
theorem BlS.skip {l : List Bd} {f : Nat → Int} {b s : Int} {j : Nat} (h : BlS l f b s (j + 1)) (hj : j < l.length) (hb : (bAt l j).s = 1 → b ≤ s) (hs : (bAt l j).s ≠ 1 → s ≤ b) : BlS l f b s j := by
  have n1 := pB_nonneg (l := l) (f := f) (m := j) fun k hk => (h.bd k (by omega)).1
  have n2 := pS_nonneg (l := l) (f := f) (m := j) fun k hk => (h.bd k (by omega)).1
  have e1 := h.eb
  have e2 := h.es
  unfold pB at e1 n1
  unfold pS at e2 n2
  simp only [sN] at e1 e2
  refine ⟨h.bd, h.fb, h.fs, ?_, ?_⟩
  · unfold pB
    by_cases c : (bAt l j).s = 1
    · have := hb c; omega
    · rw [if_neg c] at e1; omega
  · unfold pS
    by_cases c : (bAt l j).s = 1
    · rw [if_pos c] at e2; omega
    · have := hs c; omega
def cutF (f : Nat → Int) (j : Nat) (m : Int) : Nat → Int := fun k => if k = j then f j - m else f k
theorem BlS.buy {l : List Bd} {f : Nat → Int} {b s : Int} {j : Nat} (h : BlS l f b s (j + 1)) (hj : j < l.length) (hs : (bAt l j).s = 1) (hbs : s < b) : BlS l (cutF f j (min (b - s) (f j))) (b - min (b - s) (f j)) s j := by
  have hf := h.bd j hj
  have e1 := h.eb
  have e2 := h.es
  have cj : cutF f j (min (b - s) (f j)) j = f j - min (b - s) (f j) := by unfold cutF; rw [if_pos rfl]
  have ck : ∀ k, k ≠ j → cutF f j (min (b - s) (f j)) k = f k := fun k hk => by unfold cutF; rw [if_neg hk]
  have u1 : pB l (cutF f j (min (b - s) (f j))) l.length = pB l f l.length + (f j - min (b - s) (f j) - f j) := by
    unfold pB
    rw [sN_upd (φ := fun k => if (bAt l k).s = 1 then f k else 0) hj fun k _ hk => by rw [ck k hk]]
    simp only [if_pos hs, cj]
  have u2 : pS l (cutF f j (min (b - s) (f j))) l.length = pS l f l.length := by
    unfold pS
    refine sN_congr fun k hk => ?_
    by_cases e : k = j
    · subst e; rw [if_pos hs, if_pos hs]
    · rw [ck k e]
  have v1 : pB l (cutF f j (min (b - s) (f j))) j = pB l f j := sN_congr fun k hk => by rw [ck k (by omega)]
  have v2 : pS l (cutF f j (min (b - s) (f j))) j = pS l f j := sN_congr fun k hk => by rw [ck k (by omega)]
  have n1 := pB_nonneg (l := l) (f := f) (m := j) fun k hk => (h.bd k (by omega)).1
  have n2 := pS_nonneg (l := l) (f := f) (m := j) fun k hk => (h.bd k (by omega)).1
  have w1 : pB l f (j + 1) = pB l f j + f j := by unfold pB; simp only [sN, if_pos hs]
  refine ⟨fun k hk => ?_, by rw [u1, ← h.fb]; omega, by rw [u2]; exact h.fs, by rw [v1]; omega, by rw [v2]; omega⟩
  by_cases e : k = j
  · subst e; rw [cj]; omega
  · rw [ck k e]; exact h.bd k hk
theorem BlS.sell {l : List Bd} {f : Nat → Int} {b s : Int} {j : Nat} (h : BlS l f b s (j + 1)) (hj : j < l.length) (hs : (bAt l j).s ≠ 1) (hbs : b < s) : BlS l (cutF f j (min (s - b) (f j))) b (s - min (s - b) (f j)) j := by
  have hf := h.bd j hj
  have e1 := h.eb
  have e2 := h.es
  have cj : cutF f j (min (s - b) (f j)) j = f j - min (s - b) (f j) := by unfold cutF; rw [if_pos rfl]
  have ck : ∀ k, k ≠ j → cutF f j (min (s - b) (f j)) k = f k := fun k hk => by unfold cutF; rw [if_neg hk]
  have u1 : pS l (cutF f j (min (s - b) (f j))) l.length = pS l f l.length + (f j - min (s - b) (f j) - f j) := by
    unfold pS
    rw [sN_upd (φ := fun k => if (bAt l k).s = 1 then 0 else f k) hj fun k _ hk => by rw [ck k hk]]
    simp only [if_neg hs, cj]
  have u2 : pB l (cutF f j (min (s - b) (f j))) l.length = pB l f l.length := by
    unfold pB
    refine sN_congr fun k hk => ?_
    by_cases e : k = j
    · subst e; rw [if_neg hs, if_neg hs]
    · rw [ck k e]
  have v1 : pB l (cutF f j (min (s - b) (f j))) j = pB l f j := sN_congr fun k hk => by rw [ck k (by omega)]
  have v2 : pS l (cutF f j (min (s - b) (f j))) j = pS l f j := sN_congr fun k hk => by rw [ck k (by omega)]
  have n1 := pB_nonneg (l := l) (f := f) (m := j) fun k hk => (h.bd k (by omega)).1
  have n2 := pS_nonneg (l := l) (f := f) (m := j) fun k hk => (h.bd k (by omega)).1
  have w1 : pS l f (j + 1) = pS l f j + f j := by unfold pS; simp only [sN, if_neg hs]
  refine ⟨fun k hk => ?_, by rw [u2]; exact h.fb, by rw [u1, ← h.fs]; omega, by rw [v1]; omega, by rw [v2]; omega⟩
  by_cases e : k = j
  · subst e; rw [cj]; omega
  · rw [ck k e]; exact h.bd k hk
theorem BlS.last {l : List Bd} {f : Nat → Int} {b s : Int} (h : BlS l f b s 0) (hl : l.length ≤ 4096) (hok : ∀ b ∈ l, b.ok) {g : Int} (hg : GrE l g) : b = s ∧ gnF l (fL l f) = (gsum l (fL l f), 0) ∧ gsum l (fL l f) ≤ g := by
  have e1 := h.eb
  have e2 := h.es
  unfold pB at e1
  unfold pS at e2
  simp only [sN] at e1 e2
  have hbs : b = s := by omega
  have hlen : (fL l f).length = l.length := by simp [fL]
  have hft : fitF l (fL l f) := (fitF_iff hlen.symm).2 fun i h1 h2 => by
    have e : (fL l f)[i] = f i := by simp [fL]
    rw [e]
    have := h.bd i h1
    rw [bAt_get h1] at this; exact this
  obtain ⟨_, P, hP⟩ := hg
  obtain ⟨s1, s2⟩ := fL_sums l f
  have := weak P hlen.symm hft
  rw [s1, s2, ← h.fb, ← h.fs, hbs, Int.sub_self, Int.mul_zero, Int.zero_add] at this
  refine ⟨hbs, ?_, by omega⟩
  unfold gnF
  rw [if_neg (by rw [chk_ok hl hok]; decide), if_pos ⟨hlen, hft⟩]
theorem BlS.small {l : List Bd} {f : Nat → Int} {b s : Int} {j : Nat} (h : BlS l f b s j) (hl : l.length ≤ 30) (hok : ∀ b ∈ l, b.ok) : 0 ≤ b ∧ b ≤ 30000000000 ∧ 0 ≤ s ∧ s ≤ 30000000000 := by
  have key : ∀ (φ : Nat → Int) m, (∀ k, k < m → 0 ≤ φ k ∧ φ k ≤ 1000000000) → 0 ≤ sN φ m ∧ sN φ m ≤ 1000000000 * (m : Int) := fun φ m => by
    induction m with
    | zero => intro _; simp [sN]
    | succ m ih =>
      intro h
      have := ih fun k hk => h k (by omega)
      have := h m (by omega)
      simp only [sN]; omega
  have q : ∀ k, k < l.length → 0 ≤ f k ∧ f k ≤ 1000000000 := fun k hk => by
    have := h.bd k hk
    rw [bAt_get hk] at this
    obtain ⟨_, _, _, _, q⟩ := hok _ (List.getElem_mem hk)
    omega
  have a := key (fun k => if (bAt l k).s = 1 then f k else 0) l.length fun k hk => by have := q k hk; split <;> omega
  have c := key (fun k => if (bAt l k).s = 1 then 0 else f k) l.length fun k hk => by have := q k hk; split <;> omega
  have e1 := h.fb
  have e2 := h.fs
  unfold pB at e1
  unfold pS at e2
  omega
end Go.Proofs.Ytjhelinbjlahiaa
