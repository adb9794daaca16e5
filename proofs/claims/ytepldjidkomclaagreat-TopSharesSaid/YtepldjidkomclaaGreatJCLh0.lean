/- The law's small functions: some, give. The law's small functions: Valid, the reference's Check, tame. The law's small functions: tame. The law's small functions: longs, nothing, same, awake. The law's small functions: longs, nothing, same, sums. The reference's muldiv. Shares by taking the greatest rest again and again, plain. Shares, plain: what they are together. The top laws' small functions: small, bids. -/
import Derived.Maps.AppendAt
import Derived.Test.YtepldjidkomclaaGreatJCZnw
import Derived.Test.YtepldjidkomclaaGreatJCOpen
import Derived.Test.YtepldjidkomclaaGreatJCCd
namespace Go.Proofs.YtepldjidkomclaaGreat.Ca
set_option linter.unusedSimpArgs false
set_option linter.unusedVariables false
open Go.RowKit
attribute [local go_sem] Oper.semAt_some
attribute [local go_sem ↓] Go.wp_at_zero Go.wp_at_succ
abbrev RowC (B : Nat) (w : World) (v : Value) (l : List Bd) : Prop := OwnE encBd 3 32 B w v l
theorem undC : Tryz.prog.underlying 22 = some (.slice 32) := by kernel_rfl
theorem infoC : (Tryz.prog.info? 32).map (fun i => (i.zero, i.size, i.bytes)) = some (some (.agg #[.int .i64 0, .int .i64 0, .int .i64 0]), 3, 24) := by kernel_rfl
def SrcX {α : Type} (enc : α → List Value) (sz : Nat) (w : World) (v : Value) (l : List α) : Prop :=
  (v = .slice none 0 0 ∧ l = []) ∨ ∃ a c, v = .slice (some a) l.length c ∧ l.length ≤ c ∧ ∀ j x, (flatE enc l)[j]? = some x → w.cell? (a.add j) = some x
section
variable {α : Type} {enc : α → List Value} {sz : Nat}
theorem SrcX.take {w : World} {a : Addr} {n c : Nat} {l : List α} (hlen : ∀ a, (enc a).length = sz) (h : SrcX enc sz w (.slice (some a) n c) l) {k : Nat} (hk : k ≤ n) : SrcX enc sz w (.slice (some a) k c) (l.take k) := by
  rcases h with ⟨h1, _⟩ | ⟨a', c', h1, h2, h3⟩
  · cases h1
  · injection h1 with e1 e2 e3
    injection e1 with e1
    subst e1 e2 e3
    have e : (l.take k).length = k := by rw [List.length_take]; omega
    refine .inr ⟨a, c, by rw [e], by omega, fun j x hx => h3 j x ?_⟩
    have hj : j < (l.take k).length * sz := by rw [← flatE_length hlen]; exact (List.getElem?_eq_some_iff.1 hx).1
    have hs : flatE enc l = flatE enc (l.take k) ++ flatE enc (l.drop k) := by rw [← flatE_append, List.take_append_drop]
    rw [hs, List.getElem?_append_left (by rw [flatE_length hlen]; exact hj)]
    exact hx
theorem SrcX.form {w : World} {v : Value} {l : List α} (h : SrcX enc sz w v l) : (v = .slice none 0 0 ∧ l = []) ∨ ∃ a c, v = .slice (some a) l.length c ∧ l.length ≤ c := by
  rcases h with h | ⟨a, c, h1, h2, _⟩
  · exact .inl h
  · exact .inr ⟨a, c, h1, h2⟩
end
end Go.Proofs.YtepldjidkomclaaGreat.Ca
namespace Go.Proofs.YtepldjidkomclaaGreat.Ca
set_option linter.unusedSimpArgs false
set_option linter.unusedVariables false
open Go.RowKit
attribute [local go_sem] Oper.semAt_some
attribute [local go_sem ↓] Go.wp_at_zero Go.wp_at_succ
end Go.Proofs.YtepldjidkomclaaGreat.Ca
namespace Go.Proofs.YtepldjidkomclaaGreat.Ca
set_option linter.unusedSimpArgs false
set_option linter.unusedVariables false
open Go.RowKit
attribute [local go_sem] Oper.semAt_some
attribute [local go_sem ↓] Go.wp_at_zero Go.wp_at_succ
def um (x k : Int) : Int := IntKind.u64.wrap x % k
theorem u64_range (x : Int) : 0 ≤ IntKind.u64.wrap x ∧ IntKind.u64.wrap x < 18446744073709551616 := by
  unfold IntKind.wrap
  simp [IntKind.bits, IntKind.signed]
  omega
theorem um_range (x : Int) {k : Int} (hk : 0 < k) : 0 ≤ um x k ∧ um x k < k := ⟨Int.emod_nonneg _ (by omega), Int.emod_lt_of_pos _ hk⟩
theorem um_tmod (x k : Int) : (IntKind.u64.wrap x).tmod k = um x k := Int.tmod_eq_emod_of_nonneg (u64_range x).1
end Go.Proofs.YtepldjidkomclaaGreat.Ca
namespace Go.Proofs.YtepldjidkomclaaGreat.Ca
set_option linter.unusedSimpArgs false
set_option linter.unusedVariables false
open Go.RowKit
attribute [local go_sem] Oper.semAt_some
attribute [local go_sem ↓] Go.wp_at_zero Go.wp_at_succ
end Go.Proofs.YtepldjidkomclaaGreat.Ca
namespace Go.Proofs.YtepldjidkomclaaGreat.Ca
set_option linter.unusedSimpArgs false
set_option linter.unusedVariables false
open Go.RowKit
attribute [local go_sem] Oper.semAt_some
attribute [local go_sem ↓] Go.wp_at_zero Go.wp_at_succ
end Go.Proofs.YtepldjidkomclaaGreat.Ca
namespace Go.Proofs.YtepldjidkomclaaGreat.Ca
set_option linter.unusedSimpArgs false
set_option linter.unusedVariables false
open Go.RowKit
attribute [local go_sem] Oper.semAt_some
attribute [local go_sem ↓] Go.wp_at_zero Go.wp_at_succ
end Go.Proofs.YtepldjidkomclaaGreat.Ca
namespace Go.Proofs.YtepldjidkomclaaGreat.Ca
set_option linter.unusedSimpArgs false
set_option linter.unusedVariables false
open Go.RowKit
theorem filt_le {α : Type} {p q : α → Bool} : ∀ (l : List α), (∀ x ∈ l, p x = true → q x = true) → (l.filter p).length ≤ (l.filter q).length
  | [], _ => by simp
  | x :: l, h => by
    have ih := filt_le l fun y hy => h y (List.mem_cons_of_mem _ hy)
    have hx := h x List.mem_cons_self
    rw [List.filter_cons, List.filter_cons]
    cases hp : p x with
    | true => rw [hx hp]; simpa using ih
    | false => cases hq : q x <;> simp <;> omega
theorem filt_lt {α : Type} {p q : α → Bool} {a : α} (hp : p a = false) (hq : q a = true) : ∀ (l : List α), a ∈ l → (∀ x ∈ l, p x = true → q x = true) → (l.filter p).length < (l.filter q).length
  | [], h, _ => by simp at h
  | x :: l, ha, h => by
    have hs : ∀ y ∈ l, p y = true → q y = true := fun y hy => h y (List.mem_cons_of_mem _ hy)
    have hx := h x List.mem_cons_self
    rw [List.filter_cons, List.filter_cons]
    rcases List.mem_cons.1 ha with e | e
    · rw [← e, hp, hq]
      have := filt_le l hs
      simp; omega
    · have ih := filt_lt hp hq l e hs
      cases hpx : p x with
      | true => rw [hx hpx]; simpa using ih
      | false => cases hqx : q x <;> simp <;> omega
theorem filt_one {n b : Nat} (hb : b < n) : ((List.range n).filter fun j => decide (j = b)).length = 1 := by
  induction n with
  | zero => omega
  | succ n ih =>
    rw [List.range_succ, List.filter_append, List.length_append]
    by_cases e : b = n
    · subst e
      have : ((List.range b).filter fun j => decide (j = b)) = [] := List.filter_eq_nil_iff.2 fun j hj => by have := List.mem_range.1 hj; simp; omega
      rw [this]; simp
    · rw [ih (by omega)]; simp; omega
theorem filt_or {α : Type} {p q : α → Bool} : ∀ (l : List α), (∀ x ∈ l, ¬ (p x = true ∧ q x = true)) → (l.filter fun x => p x || q x).length = (l.filter p).length + (l.filter q).length
  | [], _ => by simp
  | x :: l, h => by
    have ih := filt_or l fun y hy => h y (List.mem_cons_of_mem _ hy)
    have hx := h x List.mem_cons_self
    rw [List.filter_cons, List.filter_cons, List.filter_cons]
    cases hp : p x <;> cases hq : q x <;> simp_all <;> omega
def bef (r : Nat → Int) (j k : Nat) : Prop := r k < r j ∨ r j = r k ∧ j < k
instance (r : Nat → Int) (j k : Nat) : Decidable (bef r j k) := by unfold bef; infer_instance
theorem rankR_eq (r : Nat → Int) (n k : Nat) : rankR r n k = ((List.range n).filter fun j => decide (bef r j k)).length := rfl
theorem bef_total {r : Nat → Int} {j k : Nat} (h : j ≠ k) : bef r j k ∨ bef r k j := by unfold bef; omega
theorem bef_lt {r : Nat → Int} {n j k : Nat} (hj : j < n) (h : bef r j k) : rankR r n j < rankR r n k := by
  rw [rankR_eq, rankR_eq]
  refine filt_lt (a := j) (by simp [bef]) (by simpa using h) _ (List.mem_range.2 hj) fun x _ hx => ?_
  simp only [decide_eq_true_eq] at hx ⊢
  unfold bef at *; omega
theorem rank_lt_bef {r : Nat → Int} {n j k : Nat} (hk : k < n) (h : rankR r n j < rankR r n k) : bef r j k := by
  rcases (bef_total (r := r) (j := j) (k := k) fun e => by subst e; omega) with q | q
  · exact q
  · have := bef_lt hk q; omega
theorem rank_inj {r : Nat → Int} {n j k : Nat} (hj : j < n) (hk : k < n) (h : rankR r n j = rankR r n k) : j = k := by
  by_cases e : j = k
  · exact e
  · rcases bef_total (r := r) e with q | q
    · have := bef_lt hj q; omega
    · have := bef_lt hk q; omega
structure FirstMax (g : Nat → Int) (n b : Nat) : Prop where
  lt : b < n
  le : ∀ j, j < n → g j ≤ g b
  first : ∀ j, j < b → g j < g b
def restC (r : Nat → Int) (n c k : Nat) : Int := if rankR r n k < c then -1 else r k
def taken (r : Nat → Int) (n c : Nat) : Nat := ((List.range n).filter fun j => decide (rankR r n j < c)).length
theorem taken_zero (r : Nat → Int) (n : Nat) : taken r n 0 = 0 := by
  unfold taken
  rw [List.filter_eq_nil_iff.2 (fun j _ => by simp)]; rfl
theorem take_next {r : Nat → Int} {n c b : Nat} (hr : ∀ k, k < n → 0 ≤ r k) (hc : c < n) (ht : taken r n c = c) (hb : FirstMax (restC r n c) n b) : rankR r n b = c ∧ taken r n (c + 1) = c + 1 := by
  have hex : ∃ u, u < n ∧ ¬ rankR r n u < c := Classical.byContradiction fun hn => by
    have : taken r n c = n := by
      unfold taken
      rw [List.filter_eq_self.2 (fun j hj => by
        simp only [decide_eq_true_eq]
        exact Classical.byContradiction fun q => hn ⟨j, List.mem_range.1 hj, q⟩)]
      simp
    omega
  obtain ⟨u, hu, hu2⟩ := hex
  have hbn : ¬ rankR r n b < c := fun q => by
    have := hb.le u hu
    unfold restC at this
    rw [if_neg hu2, if_pos q] at this
    have := hr u hu
    omega
  have hrb : rankR r n b = c := by
    rw [← ht, rankR_eq]
    unfold taken
    congr 1
    refine List.filter_congr fun j hj => ?_
    have hj := List.mem_range.1 hj
    rw [decide_eq_decide]
    constructor
    · intro hbe
      refine Classical.byContradiction fun q => ?_
      have h1 := hb.le j hj
      unfold restC at h1
      rw [if_neg q, if_neg hbn] at h1
      rcases hbe with h2 | ⟨h2, h3⟩
      · omega
      · have h4 := hb.first j h3
        unfold restC at h4
        rw [if_neg q, if_neg hbn] at h4
        omega
    · intro q
      exact rank_lt_bef (r := r) (n := n) hb.lt (by omega)
  refine ⟨hrb, ?_⟩
  have : taken r n (c + 1) = ((List.range n).filter fun j => decide (rankR r n j < c) || decide (j = b)).length := by
    unfold taken
    congr 1
    refine List.filter_congr fun j hj => ?_
    have hj := List.mem_range.1 hj
    have : (rankR r n j < c + 1) ↔ (rankR r n j < c ∨ j = b) := by
      constructor
      · intro q
        by_cases e : rankR r n j < c
        · exact .inl e
        · exact .inr (rank_inj (r := r) (n := n) hj hb.lt (by omega))
      · rintro (q | q)
        · omega
        · subst q; omega
    by_cases e : rankR r n j < c
    · simp [e]; omega
    · by_cases e2 : j = b
      · simp [e2, hrb]
      · have : ¬ rankR r n j < c + 1 := fun q => by rcases this.1 q with q | q <;> omega
        simp [e2, e, this]
  rw [this, filt_or _ (fun j hj ⟨h1, h2⟩ => by
    simp only [decide_eq_true_eq] at h1 h2
    subst h2; omega), filt_one hb.lt]
  show taken r n c + 1 = c + 1
  rw [ht]
end Go.Proofs.YtepldjidkomclaaGreat.Ca
namespace Go.Proofs.YtepldjidkomclaaGreat.Ca
set_option linter.unusedSimpArgs false
set_option linter.unusedVariables false
open Go.RowKit
theorem first_max (g : Nat → Int) : ∀ n, 0 < n → ∃ b, FirstMax g n b
  | 0, h => absurd h (Nat.lt_irrefl 0)
  | 1, _ => ⟨0, Nat.one_pos, fun j hj => by rw [show j = 0 by omega]; exact Int.le_refl _, fun j hj => absurd hj (Nat.not_lt_zero j)⟩
  | n + 2, _ => by
    obtain ⟨b, hb⟩ := first_max g (n + 1) (by omega)
    by_cases h : g b < g (n + 1)
    · exact ⟨n + 1, by omega, fun j hj => by
        by_cases e : j = n + 1
        · rw [e]; exact Int.le_refl _
        · have := hb.le j (by omega); omega, fun j hj => by have := hb.le j (by omega); omega⟩
    · exact ⟨b, by have := hb.lt; omega, fun j hj => by
        by_cases e : j = n + 1
        · rw [e]; omega
        · exact hb.le j (by omega), hb.first⟩
theorem taken_eq {r : Nat → Int} {n : Nat} (hr : ∀ k, k < n → 0 ≤ r k) : ∀ c, c ≤ n → taken r n c = c
  | 0, _ => taken_zero r n
  | c + 1, h => by
    have ih := taken_eq hr c (by omega)
    obtain ⟨b, hb⟩ := first_max (restC r n c) n (by omega)
    exact (take_next hr (by omega) ih hb).2
theorem count_sum (p : Nat → Bool) (n : Nat) : sumI ((List.range n).map fun k => if p k then (1 : Int) else 0) = (((List.range n).filter p).length : Int) := by
  induction n with
  | zero => simp [sumI]
  | succ n ih =>
    rw [List.range_succ, List.map_append, List.map_singleton, sumI_snoc, ih, List.filter_append, List.length_append]
    cases hp : p n <;> simp [hp]
theorem sumI_add {α : Type} (f g : α → Int) (l : List α) : sumI (l.map fun x => f x + g x) = sumI (l.map f) + sumI (l.map g) := by
  induction l with
  | nil => rfl
  | cons x l ih => simp only [List.map_cons, sumI, ih]; omega
theorem range_get (f : Int → Int) (l : List Int) : (List.range l.length).map (fun k => f (l.getD k 0)) = l.map f := by
  apply List.ext_getElem
  · simp
  · intro i h1 h2
    simp at h1
    simp [h1]
section
variable {t : Int} {l : List Int}
theorem left_nat (hS : 0 < sumI l) : ∃ lf : Nat, t - sumI (l.map fun x => t * x / sumI l) = lf ∧ lf ≤ l.length := by
  obtain ⟨h1, h2⟩ := left_bound (t := t) hS
  exact ⟨(t - sumI (l.map fun x => t * x / sumI l)).toNat, by omega, by omega⟩
theorem splitL_sum (hS : 0 < sumI l) : sumI (splitL t l) = t := by
  obtain ⟨lf, h1, h2⟩ := left_nat (t := t) hS
  have e : splitL t l = (List.range l.length).map fun k => t * l.getD k 0 / sumI l + if decide (rankR (fun j => t * l.getD j 0 % sumI l) l.length k < lf) then (1 : Int) else 0 := by
    unfold splitL
    refine List.map_congr_left fun k hk => ?_
    unfold shareF
    rw [if_neg (by omega), h1]
    congr 1
    by_cases q : rankR (fun j => t * l.getD j 0 % sumI l) l.length k < lf
    · rw [if_pos (by omega), if_pos (by simpa using q)]
    · rw [if_neg (by omega), if_neg (by simpa using q)]
  rw [e, sumI_add, range_get (fun x => t * x / sumI l) l, count_sum]
  have ht := taken_eq (r := fun j => t * l.getD j 0 % sumI l) (n := l.length) (fun k _ => Int.emod_nonneg _ (by omega)) lf h2
  unfold taken at ht
  rw [ht]
  omega
theorem pos_sum {S : Int} (hS : 0 < S) (g : Nat → Int) : ∀ n, (∀ k, k < n → 0 ≤ g k ∧ g k < S) → sumI ((List.range n).map g) ≤ (S - 1) * (((List.range n).filter fun k => decide (0 < g k)).length : Int)
  | 0, _ => by simp [sumI]
  | n + 1, h => by
    have ih := pos_sum hS g n fun k hk => h k (by omega)
    have hn := h n (by omega)
    rw [List.range_succ, List.map_append, List.map_singleton, sumI_snoc, List.filter_append, List.length_append]
    by_cases q : 0 < g n
    · have e : ([n].filter fun k => decide (0 < g k)) = [n] := by simp [q]
      rw [e]
      have : (S - 1) * ((((List.range n).filter fun k => decide (0 < g k)).length + [n].length : Nat) : Int) = (S - 1) * (((List.range n).filter fun k => decide (0 < g k)).length : Int) + (S - 1) := by
        simp [Int.mul_add]
      rw [this]; omega
    · have e : ([n].filter fun k => decide (0 < g k)) = [] := by simp [q]
      rw [e]
      simp only [List.length_nil, Nat.add_zero]
      omega
theorem rank_pos (hS : 0 < sumI l) {k : Nat} (hk : k < l.length) (h : (rankR (fun j => t * l.getD j 0 % sumI l) l.length k : Int) < t - sumI (l.map fun x => t * x / sumI l)) : 0 < t * l.getD k 0 % sumI l := by
  obtain ⟨S, hSe⟩ : ∃ S, S = sumI l := ⟨_, rfl⟩
  have hql := quota_left (t := t) hS l
  rw [← hSe] at h hql hS ⊢
  refine Classical.byContradiction fun hn => ?_
  have hz : t * l.getD k 0 % S = 0 := by have := Int.emod_nonneg (t * l.getD k 0) (show S ≠ 0 by omega); omega
  have h1 : ((List.range l.length).filter fun j => decide (0 < t * l.getD j 0 % S)).length ≤ rankR (fun j => t * l.getD j 0 % S) l.length k := by
    rw [rankR_eq]
    refine filt_le _ fun j hj hp => ?_
    simp only [decide_eq_true_eq] at hp ⊢
    left
    show t * l.getD k 0 % S < t * l.getD j 0 % S
    rw [hz]; exact hp
  have h2 := pos_sum hS (fun j => t * l.getD j 0 % S) l.length (fun k _ => ⟨Int.emod_nonneg _ (by omega), Int.emod_lt_of_pos _ hS⟩)
  rw [range_get (fun x => t * x % S) l] at h2
  obtain ⟨P, hP⟩ : ∃ P : Nat, P = ((List.range l.length).filter fun j => decide (0 < t * l.getD j 0 % S)).length := ⟨_, rfl⟩
  obtain ⟨q, hq⟩ : ∃ q, q = sumI (l.map fun x => t * x / S) := ⟨_, rfl⟩
  obtain ⟨rr, hr⟩ : ∃ rr, rr = sumI (l.map fun x => t * x % S) := ⟨_, rfl⟩
  rw [← hP] at h1 h2
  rw [← hr] at h2 hql
  rw [← hq] at h hql
  have h3 : S * (t - q) = rr := by rw [Int.mul_sub, Int.mul_comm S t]; omega
  have h4 : (P : Int) + 1 ≤ t - q := by omega
  have h5 : S * ((P : Int) + 1) ≤ S * (t - q) := Int.mul_le_mul_of_nonneg_left h4 (by omega)
  rw [Int.mul_add] at h5
  rw [Int.sub_mul] at h2
  omega
theorem share_le (ht : 0 ≤ t ∧ t ≤ sumI l) (hx : ∀ x ∈ l, 0 ≤ x) (hS : 0 < sumI l) {k : Nat} (hk : k < l.length) : 0 ≤ shareF t l k ∧ shareF t l k ≤ l.getD k 0 := by
  have hp := rank_pos (t := t) hS hk
  have hx0 : 0 ≤ l.getD k 0 := by
    have : l.getD k 0 = l[k] := by simp [hk]
    rw [this]; exact hx _ (List.getElem_mem hk)
  unfold shareF
  rw [if_neg (by omega)]
  obtain ⟨S, hSe⟩ : ∃ S, S = sumI l := ⟨_, rfl⟩
  rw [← hSe] at hp hS ht ⊢
  obtain ⟨x, hxe⟩ : ∃ x, x = l.getD k 0 := ⟨_, rfl⟩
  rw [← hxe] at hp hx0 ⊢
  have g1 : 0 ≤ t * x / S := Int.ediv_nonneg (Int.mul_nonneg ht.1 hx0) (by omega)
  have g2 : t * x / S ≤ x := Int.ediv_le_of_le_mul hS (by rw [Int.mul_comm x S]; exact Int.mul_le_mul_of_nonneg_right ht.2 hx0)
  split
  · rename_i h
    have h1 := hp h
    have h2 := Int.mul_ediv_add_emod (t * x) S
    have h3 : t * x ≤ S * x := Int.mul_le_mul_of_nonneg_right ht.2 hx0
    refine ⟨by omega, ?_⟩
    rcases (show t * x / S = x ∨ t * x / S < x by omega) with e | e
    · rw [e] at h2; omega
    · omega
  · omega
end
end Go.Proofs.YtepldjidkomclaaGreat.Ca
namespace Go.Proofs.YtepldjidkomclaaGreat
set_option linter.unusedSimpArgs false
set_option linter.unusedVariables false
open Go.RowKit
attribute [local go_sem] Oper.semAt_some
attribute [local go_sem ↓] Go.wp_at_zero Go.wp_at_succ
set_option maxRecDepth 100000 in
set_option maxHeartbeats 4000000 in
theorem small_calls (x m k : Int) (hk : k = m + 1) (hm : 0 ≤ m ∧ m ≤ 1000000000000) (w : World) :
    Calls Tryz.prog 12 #[.int .i64 x, .int .i64 m] w fun e w' => e = .returned (.int .i64 (Ca.um x k)) ∧ w' = w := by
  obtain ⟨R, hR⟩ : ∃ R : Ending → World → Prop, R = fun e w' => e = .returned (.int .i64 (Ca.um x k)) ∧ w' = w := ⟨_, rfl⟩
  have F := hid (show R (.returned (.int .i64 (Ca.um x k))) w by rw [hR]; exact ⟨rfl, rfl⟩)
  rw [← hR]
  have u := Ca.um_range x (k := k) (by omega)
  have e1 : IntKind.i64.wrap (m + 1) = k := by rw [IntWalk.i64_in _ (by omega), hk]
  have e2 : IntKind.u64.wrap k = k := IntWalk.u64_in _ (by omega)
  have t1 := Ca.um_tmod x k
  have t2 : IntKind.i64.wrap (Ca.um x k) = Ca.um x k := IntWalk.i64_in _ (by omega)
  have nz : ¬ k = 0 := by omega
  have nz2 : (k == 0) = false := by simpa using nz
  clear hR hk
  go_enter Tryz.func12, Tryz.ntmps12
  go_wp2
  first | exact F.out | (go_ret; exact F.out)
set_option maxRecDepth 100000 in
set_option maxHeartbeats 4000000 in
theorem bids_calls {w : World} {v : Value} {l : List Ca.Bd} (hv : ReadsE Ca.encBd 3 w v l) (m : Nat) (hm : m ≤ 100) :
    Calls Tryz.prog 5 #[v, .int .i64 m] w fun e w' => ∃ v' O, e = .returned v' ∧ Ca.RowC w.heap.size w' v' O ∧ O.length ≤ m ∧ (∀ b ∈ O, b.ok) ∧ Below w.heap.size w w' := by
  obtain ⟨R, hR⟩ : ∃ R : Ending → World → Prop, R = fun e w' => ∃ v' O, e = .returned v' ∧ Ca.RowC w.heap.size w' v' O ∧ O.length ≤ m ∧ (∀ b ∈ O, b.ok) ∧ Below w.heap.size w w' := ⟨_, rfl⟩
  rw [← hR]
  have FN := hid (show ∀ v' (O : List Ca.Bd) w', Ca.RowC w.heap.size w' v' O → O.length ≤ m → (∀ b ∈ O, b.ok) → Below w.heap.size w w' → R (.returned v') w' from fun v' O w' h1 h2 h3 h4 => by rw [hR]; exact ⟨v', O, rfl, h1, h2, h3, h4⟩)
  clear hR
  obtain ⟨hm2, p, cap, bb, off, rfl, hp, hc⟩ := hv
  obtain ⟨n, hn⟩ : ∃ n, n = l.length := ⟨_, rfl⟩
  rw [← hn] at hp hm2 ⊢
  have HN := hid hn
  have HP := hid hp
  have HC := hid hc
  obtain ⟨N, hN⟩ : ∃ N, N = min n m := ⟨_, rfl⟩
  have HNM := hid hN
  clear hn hp hc hN
  go_enter Tryz.func5, Tryz.ntmps5
  go_upto_region 3 with fail
  go_loopg [5, 6] N (fun k s5 s6 wr => ∃ (i : Nat) (O : List Ca.Bd), i + k = N ∧ s6 = .int .i64 i ∧ Ca.RowC w.heap.size wr s5 O ∧ O.length = i ∧ (∀ b ∈ O, b.ok) ∧ Below w.heap.size w wr)
  case atStart => exact ⟨0, [], by omega, rfl, OwnE.nil _ _, rfl, fun b hb => by simp at hb, Below.refl _ _⟩
  case round =>
    obtain ⟨i, O, hik, rfl, rr, hOl, hOk, hb⟩ := hrel
    have HIK := hid hik
    have RR := hid rr
    have B := hid hb
    have HOK := hid hOk
    have HOL := hid hOl
    clear hik rr hb hOk hOl
    by_cases hin : i < N
    · have h1 : i < n := by have := HNM.out; omega
      have h2 : i < m := by have := HNM.out; omega
      have hil : i < l.length := by rw [← HN.out]; exact h1
      obtain ⟨rfl, hbb⟩ := HP.out (by omega)
      obtain ⟨b, hx⟩ : ∃ b, b = l[i] := ⟨_, rfl⟩
      have CE := hid (show ∀ wx, Below w.heap.size w wx → wx.cell? ⟨bb, off + i * 3, none⟩ = some (.int .i64 b.s) ∧ wx.cell? ⟨bb, off + i * 3 + 1, none⟩ = some (.int .i64 b.p) ∧ wx.cell? ⟨bb, off + i * 3 + 2, none⟩ = some (.int .i64 b.q) from fun wx hwx => by
        have hbx := hwx
        have c0 := (hbx.cell (p := ⟨bb, off + i * 3 + 0, none⟩) hbb).trans (HC.out i hil 0 (by omega))
        have c1 := (hbx.cell (p := ⟨bb, off + i * 3 + 1, none⟩) hbb).trans (HC.out i hil 1 (by omega))
        have c2 := (hbx.cell (p := ⟨bb, off + i * 3 + 2, none⟩) hbb).trans (HC.out i hil 2 (by omega))
        simp [Ca.encBd, ← hx] at c0 c1 c2
        exact ⟨c0, c1, c2⟩)
      obtain ⟨c0, c1, c2⟩ := CE.out _ B.out
      have gi : (i : Int) < (n : Int) := by omega
      have gm : (i : Int) < (m : Int) := by omega
      have gi0 : (0 : Int) ≤ (i : Int) := by omega
      clear hx
      obtain ⟨x1, hx1⟩ : ∃ x1, x1 = IntKind.i64.wrap (b.p - 1) := ⟨_, rfl⟩
      obtain ⟨x2, hx2⟩ : ∃ x2, x2 = IntKind.i64.wrap (b.q - 1) := ⟨_, rfl⟩
      obtain ⟨y1, hy1⟩ : ∃ y, y = Ca.um x1 100 := ⟨_, rfl⟩
      obtain ⟨y2, hy2⟩ : ∃ y, y = Ca.um x2 50 := ⟨_, rfl⟩
      have r1 := Ca.um_range x1 (k := 100) (by omega)
      have r2 := Ca.um_range x2 (k := 50) (by omega)
      rw [← hy1] at r1
      rw [← hy2] at r2
      have SC1 := hid (fun wx => small_calls x1 99 100 (by omega) (by omega) wx)
      have SC2 := hid (fun wx => small_calls x2 49 50 (by omega) (by omega) wx)
      rw [← hy1] at SC1
      rw [← hy2] at SC2
      have u0 := Ca.um_range b.s (k := 2) (by omega)
      have t1 := Ca.um_tmod b.s 2
      have t2 : IntKind.i64.wrap (Ca.um b.s 2) = Ca.um b.s 2 := IntWalk.i64_in _ (by omega)
      have t3 : IntKind.i64.wrap (1 + Ca.um b.s 2) = 1 + Ca.um b.s 2 := IntWalk.i64_in _ (by omega)
      have t4 : IntKind.i64.wrap (1 + y1) = 1 + y1 := IntWalk.i64_in _ (by omega)
      have t5 : IntKind.i64.wrap (1 + y2) = 1 + y2 := IntWalk.i64_in _ (by omega)
      have e1 : IntKind.i64.wrap (b.p - 1) = x1 := hx1.symm
      have e2 : IntKind.i64.wrap (b.q - 1) = x2 := hx2.symm
      clear hx1 hx2 hy1 hy2
      obtain ⟨z, hz⟩ : ∃ z, z = 1 + Ca.um b.s 2 := ⟨_, rfl⟩
      have hzb : z = 1 ∨ z = 2 := by omega
      rw [← hz] at t3
      have BOK := hid (show (⟨z, 1 + y1, 1 + y2⟩ : Ca.Bd).ok from ⟨hzb, by simp only; omega, by simp only; omega, by simp only; omega, by simp only; omega⟩)
      have hz' : 1 + Ca.um b.s 2 = z := hz.symm
      clear hz u0 hzb
      obtain ⟨po, co, hvo, hh⟩ := RR.out.form
      rw [HOL.out] at hvo
      subst hvo
      have AP := hid (show ∀ wx, Below wr.heap.size wr wx → ∃ v6 w6, (Builtin.append_ #[22, 22] 22 #[.slice po i co, .slice (some ⟨wx.heap.size, 0, none⟩) 1 1]).run Tryz.prog (wx.alloc (.cells #[.int .i64 z, .int .i64 (1 + y1), .int .i64 (1 + y2)] 32)) = .ok v6 w6 ∧ Ca.RowC w.heap.size w6 v6 (O ++ [⟨z, 1 + y1, 1 + y2⟩]) ∧ Below w.heap.size w w6 from fun wx hwx => by
        have so : Ca.SrcE Ca.encBd 3 (wx.alloc (.cells #[.int .i64 z, .int .i64 (1 + y1), .int .i64 (1 + y2)] 32)) (.slice (some ⟨wx.heap.size, 0, none⟩) 1 1) [⟨z, 1 + y1, 1 + y2⟩] := Ca.SrcE.one (Cells.new wx _ _)
        have hsz := B.out.size
        have hsz2 := hwx.size
        obtain ⟨v6, w6, r2, r3, k3, _⟩ := Ca.own_append (ty := 22) Ca.undC Ca.infoC rfl (by omega) Ca.encBd_len Ca.encBd_one ((OwnE.below RR.out hwx).alloc (.cells #[.int .i64 z, .int .i64 (1 + y1), .int .i64 (1 + y2)] 32)) (by simp; omega) so (by unfold maxLen; simp [HOL.out]; omega) (by simp [HOL.out]; omega)
        refine ⟨v6, w6, r2, r3, ((B.out.trans (hwx.mono hsz)).alloc (by omega) _).trans (k3.below (by simp; omega) (fun k hk => ?_))⟩
        rcases hh with ⟨rfl, _⟩ | ⟨g, rfl, hg, _⟩ <;> cases hk
        exact hg)
      clear hh
      go_upto_region 5 with fail
      go_region_held3 (fun wh => wh.cell? ⟨bb, off + i * 3, none⟩ = some (.int .i64 b.s) ∧ wh.cell? ⟨bb, off + i * 3 + 1, none⟩ = some (.int .i64 b.p) ∧ wh.cell? ⟨bb, off + i * 3 + 2, none⟩ = some (.int .i64 b.q))
        (first | exact CE.out _ hb6 | exact CE.out _ B.out | exact CE.out _ B.out.drew | exact CE.out _ (B.out.drew.alloc B.out.size _) | assumption)
        (first
          | (go_at_call 12; (with_reducible refine (SC1.out _).mono ?_); rintro e w3 ⟨rfl, rfl⟩)
          | (go_at_call 12; (with_reducible refine (SC2.out _).mono ?_); rintro e w3 ⟨rfl, rfl⟩)
          | (obtain ⟨v6, w6, r6, hr6, hb6⟩ := AP.out _ (Below.refl _ _).drew; refine Ca.step_append_run (by rfl) (.tmp 18) (.tmp 45) 22 (by rfl) _ _ v6 w6 (by rfl) (by rfl) r6 ?_)
          | fail)
      all_goals go_wp2
      all_goals (
        go_roundg (N - (i + 1))
        · refine ⟨i + 1, O ++ [⟨z, 1 + y1, 1 + y2⟩], by omega, by go_num, hr6, by rw [List.length_append, HOL.out]; rfl, fun c hc => ?_, hb6⟩
          rcases List.mem_append.1 hc with q | q
          · exact HOK.out c q
          · rw [List.mem_singleton.1 q]; exact BOK.out
        · have := HIK.out; omega)
    · have hin' : N = i := by have := HIK.out; omega
      have F2 := hid (FN.out _ O wr RR.out (by rw [HOL.out]; have := HNM.out; omega) HOK.out B.out)
      by_cases h1 : i < n
      · have g1 : (i : Int) < (n : Int) := by omega
        have g2 : ¬ (i : Int) < (m : Int) := by have := HNM.out; omega
        clear h1 hin hin'
        go_wp2
        first | exact F2.out | (go_ret; exact F2.out)
      · have g1 : ¬ (i : Int) < (n : Int) := by omega
        clear h1 hin hin'
        go_wp2
        first | exact F2.out | (go_ret; exact F2.out)
end Go.Proofs.YtepldjidkomclaaGreat
