/- The closure of split. split in plain Lean, and its comparison. split: who gets one more, plain. Shares by largest remainders, plain: who is how far ahead. split: one weight's quota; the state of its loop. -/
import Derived.Test.YtjhelinbjlahiaaJSob
import Derived.Test.YtjhelinbjlahiaaJZn1
import Derived.Test.YtjhelinbjlahiaaJDiv
namespace Go.Proofs.Ytjhelinbjlahiaa
set_option linter.unusedSimpArgs false
set_option linter.unusedVariables false
open Go.RowKit
attribute [local go_sem] Oper.semAt_some
attribute [local go_sem ↓] Go.wp_at_zero Go.wp_at_succ
/-- A block whose first n cells are the uint64s of a function. -/
def RowU (w : World) (g n : Nat) (f : Nat → Int) : Prop := ∃ cs, Cells w g cs 32 ∧ cs.size = n ∧ ∀ i, i < n → cs[i]? = some (Value.int .u64 (f i))
theorem RowU.cell {w : World} {g n : Nat} {f : Nat → Int} (h : RowU w g n f) {i : Nat} (hi : i < n) : w.cell? ⟨g, i, none⟩ = some (.int .u64 (f i)) := by
  obtain ⟨cs, hc, _, hz⟩ := h
  rw [hc.cell]; exact hz i hi
theorem RowU.froz {w : World} {g n : Nat} {f : Nat → Int} (h : RowU w g n f) (i : Nat) : w.frozen? ⟨g, i, none⟩ = false := by
  obtain ⟨cs, hc, _⟩ := h
  exact hc.frozen i
theorem RowU.lt {w : World} {g n : Nat} {f : Nat → Int} (h : RowU w g n f) : g < w.heap.size := by
  obtain ⟨cs, hc, _⟩ := h
  exact hc.lt
theorem RowU.set {w : World} {g n : Nat} {f : Nat → Int} (h : RowU w g n f) (i : Nat) (v : Int) : RowU (w.setCell ⟨g, i, none⟩ (.int .u64 v)) g n (fun k => if k = i then v else f k) := by
  obtain ⟨cs, hc, hs, hz⟩ := h
  refine ⟨_, hc.set i _, by simp [hs], fun k hk => ?_⟩
  have hlt := (Array.getElem?_eq_some_iff.1 (hz k hk)).1
  by_cases e : k = i
  · subst e
    simp only [if_true]
    rw [Array.getElem?_setIfInBounds_self_of_lt hlt]
  · simp only [if_neg e]
    rw [Array.getElem?_setIfInBounds_ne (fun h => e h.symm)]
    exact hz k hk
theorem RowU.kept {X : Nat → Prop} {w w' : World} {g n : Nat} {f : Nat → Int} (h : RowU w g n f) (hk : Kept X w w') (hx : ¬ X g) : RowU w' g n f := by
  obtain ⟨cs, hc, hz⟩ := h
  exact ⟨cs, hc.kept hk hx, hz⟩
/-- By rests, the greater first. -/
def cfR (r : Nat → Int) (i j : Int) : Int := if r i.toNat > r j.toNat then -1 else if r i.toNat < r j.toNat then 1 else 0

set_option maxRecDepth 100000 in
set_option maxHeartbeats 4000000 in
theorem splitc_calls {w : World} {gr rb n : Nat} {r : Nat → Int} (h : RowU w gr n r) (hb : Cells w rb #[.slice (some ⟨gr, 0, none⟩) n n] 94) {i j : Nat} (hi : i < n) (hj : j < n) (hn : n ≤ 5000) :
    Calls Try.prog 65 #[.int .i64 i, .int .i64 j, .pointer (some ⟨rb, 0, none⟩)] w fun e w' => e = .returned (.int .i64 (cfR r i j)) ∧ Below w.heap.size w w' := by
  have c0 : w.cell? ⟨rb, 0, none⟩ = some (.slice (some ⟨gr, 0, none⟩) n n) := by rw [hb.cell]; rfl
  have l0 := hb.lt
  have l1 := h.lt
  have m1 := h.cell hi
  have m2 := h.cell hj
  unfold cfR
  have ti : ((i : Int)).toNat = i := by simp
  have tj : ((j : Int)).toNat = j := by simp
  rw [ti, tj]
  clear ti tj
  obtain ⟨x, hx⟩ : ∃ x, x = r i := ⟨_, rfl⟩
  obtain ⟨y, hy⟩ : ∃ y, y = r j := ⟨_, rfl⟩
  rw [← hx] at m1 ⊢
  rw [← hy] at m2 ⊢
  have p1 : (i : Int) < (n : Int) := by omega
  have p2 : (j : Int) < (n : Int) := by omega
  have p3 : (0 : Int) ≤ (i : Int) := by omega
  have p4 : (0 : Int) ≤ (j : Int) := by omega
  clear hx hy h hb
  obtain ⟨R, hR⟩ : ∃ R : Ending → World → Prop, R = fun e w' => e = .returned (.int .i64 (if x > y then -1 else if x < y then 1 else 0)) ∧ Below w.heap.size w w' := ⟨_, rfl⟩
  rw [← hR]
  have FM := hid (show ∀ (v : Int) k, v = (if x > y then -1 else if x < y then 1 else 0) → R (.returned (.int .i64 v)) (w.drewN k) from fun v k hv => by rw [hR, hv]; exact ⟨rfl, Below.of_drewN w k⟩)
  clear hR
  by_cases h1 : x > y
  · have e1 : y < x := h1
    have FN := hid (fun k => FM.out (-1) k (by rw [if_pos h1]))
    clear h1
    go_enter Try.func65, Try.ntmps65
    go_upto_region 1 with fail
    go_region
    all_goals go_wp2
    all_goals exact FN.out 1
  · have e1 : ¬ y < x := h1
    by_cases h2 : x < y
    · have FN := hid (fun k => FM.out 1 k (by rw [if_neg h1, if_pos h2]))
      clear h1
      go_enter Try.func65, Try.ntmps65
      go_upto_if 6 with (go_region)
      go_upto_region 3 with (go_region)
      go_region
      all_goals go_wp2
      all_goals exact FN.out 2
    · have FN := hid (fun k => FM.out 0 k (by rw [if_neg h1, if_neg h2]))
      clear h1
      go_enter Try.func65, Try.ntmps65
      go_upto_if 6 with (go_region)
      go_upto_region 3 with (go_region)
      go_region
      all_goals go_wp2
      all_goals exact FN.out 2
end Go.Proofs.Ytjhelinbjlahiaa
namespace Go.Proofs.Ytjhelinbjlahiaa
set_option linter.unusedSimpArgs false
set_option linter.unusedVariables false
open Go.RowKit
theorem cmp_split {w : World} {gr rb g n : Nat} {r : Nat → Int} (h : RowU w gr n r) (hb : Cells w rb #[.slice (some ⟨gr, 0, none⟩) n n] 94) (h1 : gr ≠ g) (h2 : rb ≠ g) (hn : n ≤ 5000) : CmpF 65 #[.pointer (some ⟨rb, 0, none⟩)] (cfR r) (fun x => 0 ≤ x ∧ x < (n : Int)) g w := by
  refine ⟨enters_of Try.func65 (by kernel_rfl) rfl, fun w' hk x y hx hy => ?_⟩
  obtain ⟨i, rfl⟩ : ∃ i : Nat, x = i := ⟨x.toNat, by omega⟩
  obtain ⟨j, rfl⟩ : ∃ j : Nat, y = j := ⟨y.toNat, by omega⟩
  exact splitc_calls (h.kept hk h1) (hb.kept hk h2) (by omega) (by omega) hn
theorem ltR (r : Nat → Int) (x y : Int) : ltC (cfR r) x y = decide (r y.toNat < r x.toNat) := by
  unfold ltC cfR
  by_cases h1 : r x.toNat > r y.toNat
  · rw [if_pos h1]; simp; omega
  · rw [if_neg h1]
    by_cases h2 : r x.toNat < r y.toNat
    · rw [if_pos h2]; simp; omega
    · rw [if_neg h2]; simp; omega
/-- The sum of some weights. -/
def sumI : List Int → Int
  | [] => 0
  | x :: l => x + sumI l
theorem sumI_snoc (l : List Int) (x : Int) : sumI (l ++ [x]) = sumI l + x := by
  induction l with
  | nil => simp [sumI]
  | cons y l ih => simp only [List.cons_append, sumI, ih]; omega
/-- What is left behind the quotas. -/
theorem quota_left {S t : Int} (hS : 0 < S) (l : List Int) : S * sumI (l.map fun x => t * x / S) + sumI (l.map fun x => t * x % S) = t * sumI l := by
  induction l with
  | nil => simp [sumI]
  | cons x l ih =>
    simp only [List.map_cons, sumI, Int.mul_add]
    have := Int.mul_ediv_add_emod (t * x) S
    omega
theorem rests_bound {S t : Int} (hS : 0 < S) (l : List Int) : 0 ≤ sumI (l.map fun x => t * x % S) ∧ sumI (l.map fun x => t * x % S) ≤ (S - 1) * l.length := by
  induction l with
  | nil => simp [sumI]
  | cons x l ih =>
    obtain ⟨h1, h2⟩ := ih
    have h3 := Int.emod_nonneg (t * x) (Int.ne_of_gt hS)
    have h4 := Int.emod_lt_of_pos (t * x) hS
    simp only [List.map_cons, sumI, List.length_cons, Int.natCast_add, Int.mul_add]
    constructor
    · omega
    · have : (S - 1) * ((1 : Nat) : Int) = S - 1 := by simp
      omega
/-- What is left is at most one for each. -/
theorem left_bound {t : Int} {l : List Int} (hS : 0 < sumI l) : 0 ≤ t - sumI (l.map fun x => t * x / sumI l) ∧ t - sumI (l.map fun x => t * x / sumI l) ≤ l.length := by
  have h1 := quota_left (t := t) hS l
  obtain ⟨h2, h3⟩ := rests_bound (t := t) hS l
  obtain ⟨S, hSe⟩ : ∃ S, S = sumI l := ⟨_, rfl⟩
  rw [← hSe] at h1 h2 h3 hS ⊢
  obtain ⟨q, hq⟩ : ∃ q, q = sumI (l.map fun x => t * x / S) := ⟨_, rfl⟩
  obtain ⟨rr, hr⟩ : ∃ rr, rr = sumI (l.map fun x => t * x % S) := ⟨_, rfl⟩
  rw [← hq, ← hr] at h1
  rw [← hr] at h2 h3
  rw [← hq]
  have h4 : S * (t - q) = rr := by rw [Int.mul_sub, Int.mul_comm S t]; omega
  constructor
  · rcases (show t - q < 0 ∨ 0 ≤ t - q by omega) with h | h
    · have := Int.mul_neg_of_pos_of_neg hS h
      omega
    · exact h
  · rcases (show (l.length : Int) < t - q ∨ t - q ≤ (l.length : Int) by omega) with h | h
    · have h5 : S * ((l.length : Int) + 1) ≤ S * (t - q) := Int.mul_le_mul_of_nonneg_left (by omega) (by omega)
      rw [Int.mul_add] at h5
      rw [Int.sub_mul] at h3
      omega
    · exact h
theorem swoR (r : Nat → Int) : Swo (ltC (cfR r)) :=
  ⟨fun a b h => by rw [ltR] at h ⊢; simp at h ⊢; omega, fun a b c h => by rw [ltR] at h ⊢; rw [ltR]; simp at h ⊢; omega⟩
/-- The first of an order get one more. -/
def plusOne (f q : Nat → Int) (left : Nat) : Nat → Int := fun k => q k + if ∃ i, i < left ∧ f i = (k : Int) then 1 else 0
end Go.Proofs.Ytjhelinbjlahiaa
namespace Go.Proofs.Ytjhelinbjlahiaa
set_option linter.unusedSimpArgs false
set_option linter.unusedVariables false
open Go.RowKit
theorem order_facts {r f : Nat → Int} {n : Nat} (h : Good (ltC (cfR r)) (fun k => (k : Int)) f 0 n) : (∀ a, a < n → 0 ≤ f a ∧ f a < (n : Int)) ∧ (∀ a b, a < n → b < n → f a = f b → a = b) := by
  have hne : ∀ a b, a < b → b < n → f a ≠ f b := fun a b h1 h2 e => by
    have := h.srt a b (Nat.zero_le _) h1 h2
    rw [e] at this
    rcases this with q | ⟨_, q⟩
    · have := (swoR r).asym _ _ q
      rw [q] at this
      cases this
    · omega
  refine ⟨fun a ha => ?_, fun a b ha hb e => ?_⟩
  · obtain ⟨i, i1, i2, e⟩ := mem_seg.1 (h.perm.mem_iff.1 (mem_seg.2 ⟨a, Nat.zero_le _, ha, rfl⟩))
    omega
  · rcases Nat.lt_trichotomy a b with q | q | q
    · exact absurd e (hne a b q hb)
    · exact q
    · exact absurd e.symm (hne b a q ha)
open Classical in
theorem plus_step {f q : Nat → Int} {n k : Nat} (hinj : ∀ a b, a < n → b < n → f a = f b → a = b) (hk : k < n) (m : Nat) : plusOne f q (k + 1) m = if f k = (m : Int) then plusOne f q k m + 1 else plusOne f q k m := by
  unfold plusOne
  by_cases e : f k = (m : Int)
  · rw [if_pos e, if_pos ⟨k, Nat.lt_succ_self k, e⟩, if_neg (fun ⟨i, i1, i2⟩ => by have := hinj i k (by omega) hk (by rw [i2, e]); omega)]
    omega
  · rw [if_neg e]
    by_cases h2 : ∃ i, i < k ∧ f i = (m : Int)
    · obtain ⟨i, i1, i2⟩ := h2
      rw [if_pos ⟨i, by omega, i2⟩, if_pos ⟨i, i1, i2⟩]
    · rw [if_neg h2, if_neg (fun ⟨i, i1, i2⟩ => by
        rcases Nat.lt_or_ge i k with q | q
        · exact h2 ⟨i, q, i2⟩
        · have : i = k := by omega
          subst this
          exact e i2)]
end Go.Proofs.Ytjhelinbjlahiaa
namespace Go.Proofs.Ytjhelinbjlahiaa
set_option linter.unusedSimpArgs false
set_option linter.unusedVariables false
open Go.RowKit
/-- How many come ahead of k: those with a greater rest, and of the same rest the earlier ones. -/
def rankR (r : Nat → Int) (n k : Nat) : Nat := ((List.range n).filter fun j => decide (r k < r j ∨ r j = r k ∧ j < k)).length
theorem rankR_congr {r r' : Nat → Int} {n k : Nat} (hk : k < n) (h : ∀ j, j < n → r j = r' j) : rankR r n k = rankR r' n k := by
  unfold rankR
  congr 1
  refine List.filter_congr fun j hj => ?_
  rw [h j (List.mem_range.1 hj), h k hk]
theorem filter_lt_range (n i : Nat) (h : i ≤ n) : ((List.range n).filter fun b => decide (b < i)).length = i := by
  induction n with
  | zero => simp; omega
  | succ n ih =>
    rw [List.range_succ, List.filter_append, List.length_append]
    by_cases e : i ≤ n
    · rw [ih e]; simp; omega
    · have e1 : i = n + 1 := by omega
      subst e1
      have : ((List.range n).filter fun b => decide (b < n + 1)) = List.range n := List.filter_eq_self.2 fun b hb => by have := List.mem_range.1 hb; simp; omega
      rw [this]; simp
theorem rank_of_order {r f : Nat → Int} {n : Nat} (h : Good (ltC (cfR r)) (fun k => (k : Int)) f 0 n) {i k : Nat} (hi : i < n) (hk : f i = (k : Int)) : rankR r n k = i := by
  have hb := (order_facts h).1
  have P1 : rankR r n k = ((seg (fun k => (k : Int)) 0 n).filter fun x => decide (r k < r x.toNat ∨ r x.toNat = r k ∧ x < (k : Int))).length := by
    unfold rankR seg
    rw [List.filter_map, List.length_map]
    have : List.range (n - 0) = List.range n := rfl
    rw [this]
    congr 1
    refine List.filter_congr fun j _ => ?_
    simp
  have P2 : ((seg (fun k => (k : Int)) 0 n).filter fun x => decide (r k < r x.toNat ∨ r x.toNat = r k ∧ x < (k : Int))).length = ((seg f 0 n).filter fun x => decide (r k < r x.toNat ∨ r x.toNat = r k ∧ x < (k : Int))).length := (h.perm.symm.filter _).length_eq
  rw [P1, P2]
  unfold seg
  rw [List.filter_map, List.length_map]
  have : ((List.range (n - 0)).filter ((fun x : Int => decide (r k < r x.toNat ∨ r x.toNat = r k ∧ x < (k : Int))) ∘ fun i => f (0 + i))) = (List.range n).filter fun b => decide (b < i) := by
    rw [Nat.sub_zero]
    refine List.filter_congr fun b hbm => ?_
    have hbn := List.mem_range.1 hbm
    simp only [Function.comp, Nat.zero_add, decide_eq_decide]
    have hkn : ((k : Int)).toNat = k := by simp
    rcases Nat.lt_trichotomy b i with q | q | q
    · refine ⟨fun _ => q, fun _ => ?_⟩
      rcases h.srt b i (Nat.zero_le _) q hi with s | ⟨s, s2⟩
      · rw [hk, ltR, hkn] at s
        left; simpa using s
      · rw [hk, ltR, hkn] at s
        rw [hk] at s2
        simp at s
        by_cases e : r (f b).toNat = r k
        · exact .inr ⟨e, s2⟩
        · left; omega
    · subst q
      rw [hk, hkn]
      simp
    · refine ⟨fun g => ?_, fun g => by omega⟩
      exfalso
      rcases h.srt i b (Nat.zero_le _) q hbn with s | ⟨s, s2⟩
      · rw [hk, ltR, hkn] at s
        have s' : r (f b).toNat < r k := by simpa using s
        omega
      · rw [hk, ltR, hkn] at s
        rw [hk] at s2
        have s' : ¬ r k < r (f b).toNat := by simpa using s
        rcases g with g | ⟨_, g⟩
        · exact s' g
        · omega
  rw [this, filter_lt_range n i (by omega)]
theorem ahead_iff {r f : Nat → Int} {n a k : Nat} (h : Good (ltC (cfR r)) (fun k => (k : Int)) f 0 n) (ha : a ≤ n) (hk : k < n) : (∃ i, i < a ∧ f i = (k : Int)) ↔ rankR r n k < a := by
  constructor
  · rintro ⟨i, i1, i2⟩
    rw [rank_of_order h (by omega) i2]; exact i1
  · intro hr
    obtain ⟨i, _, i2, e⟩ := mem_seg.1 (h.perm.symm.mem_iff.1 (mem_seg.2 ⟨k, Nat.zero_le _, hk, rfl⟩))
    have := rank_of_order h i2 e.symm
    exact ⟨i, by omega, e.symm⟩
/-- The share of the k-th. -/
def shareF (t : Int) (l : List Int) (k : Nat) : Int :=
  if sumI l = 0 then 0 else t * l.getD k 0 / sumI l + if (rankR (fun j => t * l.getD j 0 % sumI l) l.length k : Int) < t - sumI (l.map fun x => t * x / sumI l) then 1 else 0
/-- Shares by largest remainders. -/
def splitL (t : Int) (l : List Int) : List Int := (List.range l.length).map (shareF t l)
theorem splitL_len (t : Int) (l : List Int) : (splitL t l).length = l.length := by simp [splitL]
theorem splitL_get (t : Int) (l : List Int) (k : Nat) (hk : k < (splitL t l).length) : (splitL t l)[k] = shareF t l k := by simp [splitL]
theorem splitL_zero {t : Int} {l : List Int} (h : sumI l = 0) : splitL t l = List.replicate l.length 0 := by
  apply List.ext_getElem
  · simp [splitL]
  · intro i h1 h2
    rw [splitL_get]; simp [shareF, h]
/-- The last of split's loops has dealt out the shares. -/
theorem split_end {t : Int} {l : List Int} {q r f : Nat → Int} {n lf : Nat} (hn : n = l.length) (hS : sumI l ≠ 0) (hlo : ∀ (k : Nat) (hk : k < l.length), k < n → q k = t * l[k] / sumI l ∧ r k = t * l[k] % sumI l) (hg : Good (ltC (cfR r)) (fun k => (k : Int)) f 0 n) (hlf : t - sumI (l.map fun x => t * x / sumI l) = (lf : Int)) (hle : lf ≤ n) (k : Nat) (hk : k < (splitL t l).length) : plusOne f q lf k = (splitL t l)[k] := by
  rw [splitL_get]
  rw [splitL_len] at hk
  unfold shareF plusOne
  rw [if_neg hS, hlf]
  obtain ⟨h1, _⟩ := hlo k hk (by omega)
  have hd : l.getD k 0 = l[k] := by simp [hk]
  rw [h1, hd]
  congr 1
  have e : rankR (fun j => t * l.getD j 0 % sumI l) l.length k = rankR r n k := by
    rw [hn]
    refine rankR_congr hk fun j hj => ?_
    rw [(hlo j hj (by omega)).2]
    simp [hj]
  rw [e]
  have := ahead_iff hg hle (k := k) (by omega)
  by_cases h2 : rankR r n k < lf
  · rw [if_pos (this.2 h2), if_pos (by omega)]
  · rw [if_neg (fun h => h2 (this.1 h)), if_neg (by omega)]
end Go.Proofs.Ytjhelinbjlahiaa
namespace Go.Proofs.Ytjhelinbjlahiaa
set_option linter.unusedSimpArgs false
set_option linter.unusedVariables false
open Go.RowKit
/-- Mul64 then Div64. -/
theorem quota_nat {t x S : Nat} (hx : x ≤ 1000000000) (ht : t ≤ S) (hS : 0 < S) : t * x / 18446744073709551616 < S ∧ (t * x / 18446744073709551616) * 18446744073709551616 + t * x % 18446744073709551616 = t * x := by
  refine ⟨?_, by omega⟩
  have h1 : t * x ≤ S * 1000000000 := Nat.mul_le_mul ht hx
  rw [Nat.div_lt_iff_lt_mul (by omega)]
  omega
/-- The rows of split. -/
structure SpR (w0 : World) (n : Nat) (q r o : Nat → Int) (w : World) : Prop where
  out : RowL w w0.heap.size n q
  rst : RowU w (w0.heap.size + 1) n r
  ord : Row w (w0.heap.size + 3) n o
  box : Cells w (w0.heap.size + 2) #[.slice (some ⟨w0.heap.size + 1, 0, none⟩) n n] 94
  below : Below w0.heap.size w0 w
theorem SpR.drew {w0 : World} {n : Nat} {q r o : Nat → Int} {w : World} (h : SpR w0 n q r o w) : SpR w0 n q r o w.drew := ⟨h.out, h.rst, h.ord, h.box, h.below.drew⟩
def upd (f : Nat → Int) (i : Nat) (v : Int) : Nat → Int := fun k => if k = i then v else f k
theorem set_kept (w : World) (b i : Nat) (v : Value) : Kept (fun k => k = b) w (w.setCell ⟨b, i, none⟩ v) := (Kept.refl (fun k => k = b) w).set (C := b) rfl _ _
theorem SpR.setQ {w0 : World} {n : Nat} {q r o : Nat → Int} {w : World} (h : SpR w0 n q r o w) (i : Nat) (v : Int) : SpR w0 n (upd q i v) r o (w.setCell ⟨w0.heap.size, i, none⟩ (.int .i64 v)) :=
  ⟨h.out.set i v, h.rst.kept (set_kept _ _ _ _) (by omega), h.ord.kept (set_kept _ _ _ _) (by omega), h.box.kept (set_kept _ _ _ _) (by omega), h.below.trans ((set_kept _ _ _ _).below h.below.size (fun k hk => by omega))⟩
theorem SpR.setR {w0 : World} {n : Nat} {q r o : Nat → Int} {w : World} (h : SpR w0 n q r o w) (i : Nat) (v : Int) : SpR w0 n q (upd r i v) o (w.setCell ⟨w0.heap.size + 1, i, none⟩ (.int .u64 v)) :=
  ⟨h.out.kept (set_kept _ _ _ _) (by omega), h.rst.set i v, h.ord.kept (set_kept _ _ _ _) (by omega), h.box.kept (set_kept _ _ _ _) (by omega), h.below.trans ((set_kept _ _ _ _).below h.below.size (fun k hk => by omega))⟩
theorem SpR.setO {w0 : World} {n : Nat} {q r o : Nat → Int} {w : World} (h : SpR w0 n q r o w) (i : Nat) (v : Int) : SpR w0 n q r (upd o i v) (w.setCell ⟨w0.heap.size + 3, i, none⟩ (.int .i64 v)) :=
  ⟨h.out.kept (set_kept _ _ _ _) (by omega), h.rst.kept (set_kept _ _ _ _) (by omega), h.ord.set i v, h.box.kept (set_kept _ _ _ _) (by omega), h.below.trans ((set_kept _ _ _ _).below h.below.size (fun k hk => by omega))⟩
/-- The state of the loop that deals the quotas out. -/
def SpS (w0 : World) (n : Nat) (l : List Int) (t S : Int) (i : Nat) (w : World) : Prop :=
  ∃ q r o, SpR w0 n q r o w ∧ ∀ (k : Nat) (hk : k < l.length), k < i → q k = t * l[k] / S ∧ r k = t * l[k] % S ∧ o k = (k : Int)
theorem SpS.next {w0 : World} {n : Nat} {l : List Int} {t S : Int} {i : Nat} {q r o : Nat → Int} {w' : World} {x : Int} (hl : ∀ (k : Nat) (hk : k < l.length), k < i → q k = t * l[k] / S ∧ r k = t * l[k] % S ∧ o k = (k : Int)) (hi : i < l.length) (hx : x = l[i]) (h : SpR w0 n (upd q i (t * x / S)) (upd r i (t * x % S)) (upd o i (i : Int)) w') : SpS w0 n l t S (i + 1) w' := by
  refine ⟨_, _, _, h, fun k hk hki => ?_⟩
  unfold upd
  by_cases e : k = i
  · subst e
    rw [if_pos rfl, if_pos rfl, if_pos rfl, hx]
    exact ⟨rfl, rfl, rfl⟩
  · rw [if_neg e, if_neg e, if_neg e]
    exact hl k hk (by omega)
end Go.Proofs.Ytjhelinbjlahiaa
