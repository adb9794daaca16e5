/- The law's small functions: some, give. The law's small functions: Valid, the reference's Check, tame. The law's small functions: tame. The law's small functions: longs, nothing, same, awake. The law's small functions: longs, nothing, same, sums. The reference's muldiv. Shares by taking the greatest rest again and again, plain. Shares, plain: what they are together. Fills, plain: what they are together. No program in sight. The reference's intervals, plain; its At. The reference's Intervals: the walk. The reference's Best. -/
import Derived.Maps.AppendAt
import Derived.Test.YtepldjidkomclaaGreatJCZnw
import Derived.Test.YtepldjidkomclaaGreatJCOpen
import Derived.Test.YtepldjidkomclaaGreatJCCc1
import Derived.Test.YtepldjidkomclaaGreatJCSv0
import Derived.Test.YtepldjidkomclaaGreatJCSv2
namespace Go.Proofs.YtepldjidkomclaaGreat.Ca
set_option linter.unusedSimpArgs false
set_option linter.unusedVariables false
open Go.RowKit
attribute [local go_sem] Oper.semAt_some
attribute [local go_sem ↓] Go.wp_at_zero Go.wp_at_succ
abbrev RowC (B : Nat) (w : World) (v : Value) (l : List Bd) : Prop := OwnE encBd 3 32 B w v l
theorem undC : Tryz.prog.underlying 22 = some (.slice 32) := by kernel_rfl
theorem infoC : (Tryz.prog.info? 32).map (fun i => (i.zero, i.size, i.bytes)) = some (some (.agg #[.int .i64 0, .int .i64 0, .int .i64 0]), 3, 24) := by kernel_rfl
/-- What an append may read. -/
def SrcX {α : Type} (enc : α → List Value) (sz : Nat) (w : World) (v : Value) (l : List α) : Prop :=
  (v = .slice none 0 0 ∧ l = []) ∨ ∃ a c, v = .slice (some a) l.length c ∧ l.length ≤ c ∧ ∀ j x, (flatE enc l)[j]? = some x → w.cell? (a.add j) = some x
theorem addr_add (b off j : Nat) : (⟨b, off, none⟩ : Addr).add j = ⟨b, off + j, none⟩ := by unfold Addr.add; split <;> simp_all
section
variable {α : Type} {enc : α → List Value} {sz : Nat}
theorem ArgE.src {w : World} {v : Value} {l : List α} (hlen : ∀ a, (enc a).length = sz) (hsz : 0 < sz) (h : ArgE enc sz w v l) : SrcX enc sz w v l := by
  obtain ⟨hm, p, cap, b, off, hv, hp, hc⟩ := h.reads
  rcases h.form with q | ⟨a, n, c, q, q1, q2⟩
  · rw [q] at hv
    injection hv with e1 e2 e3
    exact .inl ⟨q, List.length_eq_zero_iff.1 e2.symm⟩
  · rw [q] at hv
    injection hv with e1 e2 e3
    subst e2
    refine .inr ⟨a, c, q, q1, fun j x hx => ?_⟩
    have hj : j < l.length * sz := by rw [← flatE_length hlen l]; exact (List.getElem?_eq_some_iff.1 hx).1
    have h0 : 0 < l.length := by
      rcases Nat.eq_zero_or_pos l.length with h | h
      · rw [h] at hj; omega
      · exact h
    obtain ⟨h1, _⟩ := hp h0
    rw [← e1] at h1
    injection h1 with h1
    subst h1
    rw [addr_add]
    have h2 := hc (j / sz) (Nat.div_lt_of_lt_mul (by rw [Nat.mul_comm]; exact hj)) (j % sz) (Nat.mod_lt _ hsz)
    have h3 := flatE_get hlen l (j / sz) (Nat.div_lt_of_lt_mul (by rw [Nat.mul_comm]; exact hj)) (j % sz) (Nat.mod_lt _ hsz)
    have h4 : j / sz * sz + j % sz = j := by rw [Nat.mul_comm]; exact Nat.div_add_mod j sz
    rw [Nat.add_assoc, h4] at h2
    rw [h4] at h3
    rw [h2, ← h3]; exact hx
theorem _root_.Go.Proofs.YtepldjidkomclaaGreat.OwnE.srcx {B : Nat} {e : TypeId} {w : World} {v : Value} {l : List α} (h : OwnE enc sz e B w v l) (hsz : 0 < sz) : SrcX enc sz w v l := by
  rcases h.2 with ⟨h1, h2⟩ | ⟨g, cap, cur, rfl, _, hg, h3, h4, h5, _⟩
  · exact .inl ⟨h1, List.length_eq_zero_iff.1 h2⟩
  · refine .inr ⟨⟨g, 0, none⟩, cap, rfl, h3, fun j x hx => ?_⟩
    have hj : j < l.length * sz := by rw [← h.1]; exact (List.getElem?_eq_some_iff.1 hx).1
    rw [addr_add, Nat.zero_add, World.ownsRow.cellAt h _ hj]
    exact hx
theorem SrcX.take {w : World} {a : Addr} {n c : Nat} {l : List α} (hlen : ∀ a, (enc a).length = sz) (h : SrcX enc sz w (.slice (some a) n c) l) {k : Nat} (hk : k ≤ n) : SrcX enc sz w (.slice (some a) k c) (l.take k) := by
  rcases h with ⟨h1, _⟩ | ⟨a', c', h1, h2, h3⟩
  · cases h1
  · injection h1 with e1 e2 e3
    injection e1 with e1
    subst e1 e2 e3
    have e : (l.take k).length = k := by rw [List.length_take]; omega
    refine .inr ⟨a, c, by rw [e], by omega, fun j x hx => h3 j x ?_⟩
    have hj : j < (l.take k).length * sz := by rw [← flatE_length hlen]; exact (List.getElem?_eq_some_iff.1 hx).1
    have hs : flatE enc l = flatE enc (l.take k) ++ flatE enc (l.drop k) := by rw [← flatE_append, List.take_append_drop]
    rw [hs, List.getElem?_append_left (by rw [flatE_length hlen]; exact hj)]
    exact hx
theorem SrcX.form {w : World} {v : Value} {l : List α} (h : SrcX enc sz w v l) : (v = .slice none 0 0 ∧ l = []) ∨ ∃ a c, v = .slice (some a) l.length c ∧ l.length ≤ c := by
  rcases h with h | ⟨a, c, h1, h2, _⟩
  · exact .inl h
  · exact .inr ⟨a, c, h1, h2⟩
/-- append(own row, what is read ...). -/
theorem own_app {t e ty : TypeId} {z : Value} {by' : Nat} (ht : Tryz.prog.underlying t = some (.slice e)) (hi : (Tryz.prog.info? e).map (fun i => (i.zero, i.size, i.bytes)) = some (some z, sz, by')) (hz : z.cells.size = sz) (hsz : 0 < sz)
    (hen : ∀ a, (enc a).length = sz) (hone : ∀ a, ∀ u ∈ enc a, u.oneCell' = true) {B : Nat} {w : World} {v : Value} {l : List α} (h : OwnE enc sz e B w v l) (hB : B ≤ w.heap.size) {u : Value} {m : List α} (hu : SrcX enc sz w u m) (hn : l.length + m.length ≤ maxLen) (hby : (l.length + m.length) * by' ≤ 140737488355328) :
    ∃ v' w', (Builtin.append_ #[t, t] ty #[v, u]).run Tryz.prog w = .ok v' w' ∧ OwnE enc sz e B w' v' (l ++ m) ∧ Kept (fun k => some k = v.ownBlock) w w' := by
  obtain ⟨i, h1, h2, h3, h4⟩ := info_of hi
  rcases hu with ⟨rfl, rfl⟩ | ⟨a, c, rfl, _, hc⟩
  · exact ⟨v, w, run_append_owned_none (P := Tryz.prog) (w := w) B t ty e i sz ht h1 v l.length (flatE enc l) h, by rw [List.append_nil]; exact h, Kept.refl _ _⟩
  · obtain ⟨v', w', r1, r2, r3, _, r5⟩ := run_append_own_at w B t ty e i z sz by' ht h1 h2 h3 h4 hz hsz v l.length (flatE enc l) h a m.length c (flatE enc m) (flatE_length hen m)
      hc (fun x hx => by obtain ⟨a, _, ha⟩ := List.mem_flatMap.1 hx; exact hone a x ha) hn hby hB
    refine ⟨v', w', r1, ?_, Kept.of_grown r3⟩
    unfold OwnE
    rw [flatE_append, List.length_append]
    exact r2
end

end Go.Proofs.YtepldjidkomclaaGreat.Ca
namespace Go.Proofs.YtepldjidkomclaaGreat.Ca
set_option linter.unusedSimpArgs false
set_option linter.unusedVariables false
open Go.RowKit
attribute [local go_sem] Oper.semAt_some
attribute [local go_sem ↓] Go.wp_at_zero Go.wp_at_succ

end Go.Proofs.YtepldjidkomclaaGreat.Ca
namespace Go.Proofs.YtepldjidkomclaaGreat.Ca
set_option linter.unusedSimpArgs false
set_option linter.unusedVariables false
open Go.RowKit
attribute [local go_sem] Oper.semAt_some
attribute [local go_sem ↓] Go.wp_at_zero Go.wp_at_succ
def um (x k : Int) : Int := IntKind.u64.wrap x % k
theorem u64_range (x : Int) : 0 ≤ IntKind.u64.wrap x ∧ IntKind.u64.wrap x < 18446744073709551616 := by
  unfold IntKind.wrap
  simp [IntKind.bits, IntKind.signed]
  omega
theorem um_range (x : Int) {k : Int} (hk : 0 < k) : 0 ≤ um x k ∧ um x k < k := ⟨Int.emod_nonneg _ (by omega), Int.emod_lt_of_pos _ hk⟩
theorem um_tmod (x k : Int) : (IntKind.u64.wrap x).tmod k = um x k := Int.tmod_eq_emod_of_nonneg (u64_range x).1
/-- A valid bid of any one. -/
def fixB (b : Bd) : Bd := if b.ok then b else ⟨1 + um b.s 2, 1 + um b.p 100, 1 + um b.q 100⟩
theorem fixB_ok (b : Bd) : (fixB b).ok := by
  unfold fixB
  split
  · assumption
  · have h1 := um_range b.s (k := 2) (by omega)
    have h2 := um_range b.p (k := 100) (by omega)
    have h3 := um_range b.q (k := 100) (by omega)
    unfold Bd.ok
    simp only
    omega
/-- The first bids, made valid. -/
def tameL (m : Nat) (l : List Bd) : List Bd := (l.take m).map fixB
theorem tameL_ok (m : Nat) (l : List Bd) : ∀ b ∈ tameL m l, b.ok := fun b hb => by
  obtain ⟨c, _, rfl⟩ := List.mem_map.1 hb
  exact fixB_ok c
theorem tameL_len (m : Nat) (l : List Bd) : (tameL m l).length ≤ m := by unfold tameL; rw [List.length_map, List.length_take]; omega

end Go.Proofs.YtepldjidkomclaaGreat.Ca
namespace Go.Proofs.YtepldjidkomclaaGreat.Ca
set_option linter.unusedSimpArgs false
set_option linter.unusedVariables false
open Go.RowKit
attribute [local go_sem] Oper.semAt_some
attribute [local go_sem ↓] Go.wp_at_zero Go.wp_at_succ
def bidsA : List Bd := [⟨1, 52, 10⟩, ⟨1, 50, 5⟩, ⟨2, 49, 8⟩, ⟨2, 51, 4⟩]
theorem awake_starts : starts bidsA = [1, 49, 51, 53] := by
  obtain ⟨h1, h2⟩ := starts_spec bidsA
  refine inc_unique h1 (by decide) fun x => ?_
  rw [h2]
  simp [bidsA, cut]
  omega
theorem awake_zones : zonesL bidsA = [⟨1, 48, 15, 0⟩, ⟨49, 50, 15, 8⟩, ⟨51, 52, 10, 12⟩, ⟨53, 1000000, 0, 12⟩] := by
  unfold zonesL
  rw [awake_starts]
  decide
theorem awake_price : priceZ (zonesL bidsA) 50 = 51 := by rw [awake_zones]; decide
theorem awake_fills : fillsL bidsA 51 10 1 = [10, 0, 8, 2] := by decide +kernel
theorem awake_clear : clearF bidsA 50 1 = ⟨51, 10, -2, [10, 0, 8, 2], 0⟩ := by
  unfold clearF
  rw [if_neg (by decide), if_pos ⟨by decide, .inl rfl⟩, awake_price, if_neg (by decide)]
  unfold clrF
  have h1 : dem bidsA 51 = 10 := by decide
  have h2 : sup bidsA 51 = 12 := by decide
  rw [h1, h2, if_neg (by decide)]
  have h3 : min (10 : Int) 12 = 10 := by decide
  rw [h3, awake_fills]
  rfl

end Go.Proofs.YtepldjidkomclaaGreat.Ca
namespace Go.Proofs.YtepldjidkomclaaGreat.Ca
set_option linter.unusedSimpArgs false
set_option linter.unusedVariables false
open Go.RowKit
attribute [local go_sem] Oper.semAt_some
attribute [local go_sem ↓] Go.wp_at_zero Go.wp_at_succ

/-- The fills of the buyers, and of the sellers. -/
def sumB : List Bd → List Int → Int
  | b :: l, x :: f => (if b.s = 1 then x else 0) + sumB l f
  | _, _ => 0
def sumS : List Bd → List Int → Int
  | b :: l, x :: f => (if b.s = 1 then 0 else x) + sumS l f
  | _, _ => 0
theorem sumB_snoc : ∀ {l : List Bd} {f : List Int} (b : Bd) (x : Int), l.length = f.length → sumB (l ++ [b]) (f ++ [x]) = sumB l f + if b.s = 1 then x else 0
  | [], [], b, x, _ => by simp [sumB]
  | c :: l, y :: f, b, x, h => by
    simp only [List.cons_append, sumB]
    rw [sumB_snoc b x (by simpa using h)]; omega
theorem sumS_snoc : ∀ {l : List Bd} {f : List Int} (b : Bd) (x : Int), l.length = f.length → sumS (l ++ [b]) (f ++ [x]) = sumS l f + if b.s = 1 then 0 else x
  | [], [], b, x, _ => by simp [sumS]
  | c :: l, y :: f, b, x, h => by
    simp only [List.cons_append, sumS]
    rw [sumS_snoc b x (by simpa using h)]; omega
theorem sumBS_bound : ∀ {l : List Bd} {f : List Int}, (∀ x ∈ f, 0 ≤ x ∧ x ≤ 1000000000) → (0 ≤ sumB l f ∧ sumB l f ≤ 1000000000 * (f.length : Int)) ∧ (0 ≤ sumS l f ∧ sumS l f ≤ 1000000000 * (f.length : Int))
  | [], f, _ => by simp only [sumB, sumS]; omega
  | b :: l, [], _ => by simp [sumB, sumS]
  | b :: l, x :: f, h => by
    have := sumBS_bound (l := l) (f := f) fun y hy => h y (List.mem_cons_of_mem _ hy)
    have := h x List.mem_cons_self
    simp only [sumB, sumS, List.length_cons]
    split <;> omega

end Go.Proofs.YtepldjidkomclaaGreat.Ca
namespace Go.Proofs.YtepldjidkomclaaGreat.Ca
set_option linter.unusedSimpArgs false
set_option linter.unusedVariables false
open Go.RowKit
attribute [local go_sem] Oper.semAt_some
attribute [local go_sem ↓] Go.wp_at_zero Go.wp_at_succ
theorem half_bit (b : Nat) (k : Nat) : b / 2 ^ k = 2 * (b / 2 ^ (k + 1)) + b / 2 ^ k % 2 := by
  have : b / 2 ^ (k + 1) = b / 2 ^ k / 2 := by rw [Nat.pow_succ, Nat.div_div_eq_div_mul]
  rw [this]; omega

end Go.Proofs.YtepldjidkomclaaGreat.Ca
namespace Go.Proofs.YtepldjidkomclaaGreat.Ca
set_option linter.unusedSimpArgs false
set_option linter.unusedVariables false
open Go.RowKit
theorem filt_le {α : Type} {p q : α → Bool} : ∀ (l : List α), (∀ x ∈ l, p x = true → q x = true) → (l.filter p).length ≤ (l.filter q).length
  | [], _ => by simp
  | x :: l, h => by
    have ih := filt_le l fun y hy => h y (List.mem_cons_of_mem _ hy)
    have hx := h x List.mem_cons_self
    rw [List.filter_cons, List.filter_cons]
    cases hp : p x with
    | true => rw [hx hp]; simpa using ih
    | false => cases hq : q x <;> simp <;> omega
theorem filt_lt {α : Type} {p q : α → Bool} {a : α} (hp : p a = false) (hq : q a = true) : ∀ (l : List α), a ∈ l → (∀ x ∈ l, p x = true → q x = true) → (l.filter p).length < (l.filter q).length
  | [], h, _ => by simp at h
  | x :: l, ha, h => by
    have hs : ∀ y ∈ l, p y = true → q y = true := fun y hy => h y (List.mem_cons_of_mem _ hy)
    have hx := h x List.mem_cons_self
    rw [List.filter_cons, List.filter_cons]
    rcases List.mem_cons.1 ha with e | e
    · rw [← e, hp, hq]
      have := filt_le l hs
      simp; omega
    · have ih := filt_lt hp hq l e hs
      cases hpx : p x with
      | true => rw [hx hpx]; simpa using ih
      | false => cases hqx : q x <;> simp <;> omega
theorem filt_one {n b : Nat} (hb : b < n) : ((List.range n).filter fun j => decide (j = b)).length = 1 := by
  induction n with
  | zero => omega
  | succ n ih =>
    rw [List.range_succ, List.filter_append, List.length_append]
    by_cases e : b = n
    · subst e
      have : ((List.range b).filter fun j => decide (j = b)) = [] := List.filter_eq_nil_iff.2 fun j hj => by have := List.mem_range.1 hj; simp; omega
      rw [this]; simp
    · rw [ih (by omega)]; simp; omega
theorem filt_or {α : Type} {p q : α → Bool} : ∀ (l : List α), (∀ x ∈ l, ¬ (p x = true ∧ q x = true)) → (l.filter fun x => p x || q x).length = (l.filter p).length + (l.filter q).length
  | [], _ => by simp
  | x :: l, h => by
    have ih := filt_or l fun y hy => h y (List.mem_cons_of_mem _ hy)
    have hx := h x List.mem_cons_self
    rw [List.filter_cons, List.filter_cons, List.filter_cons]
    cases hp : p x <;> cases hq : q x <;> simp_all <;> omega
/-- j comes ahead of k. -/
def bef (r : Nat → Int) (j k : Nat) : Prop := r k < r j ∨ r j = r k ∧ j < k
instance (r : Nat → Int) (j k : Nat) : Decidable (bef r j k) := by unfold bef; infer_instance
theorem rankR_eq (r : Nat → Int) (n k : Nat) : rankR r n k = ((List.range n).filter fun j => decide (bef r j k)).length := rfl
theorem bef_total {r : Nat → Int} {j k : Nat} (h : j ≠ k) : bef r j k ∨ bef r k j := by unfold bef; omega
theorem bef_lt {r : Nat → Int} {n j k : Nat} (hj : j < n) (h : bef r j k) : rankR r n j < rankR r n k := by
  rw [rankR_eq, rankR_eq]
  refine filt_lt (a := j) (by simp [bef]) (by simpa using h) _ (List.mem_range.2 hj) fun x _ hx => ?_
  simp only [decide_eq_true_eq] at hx ⊢
  unfold bef at *; omega
theorem rank_lt_bef {r : Nat → Int} {n j k : Nat} (hk : k < n) (h : rankR r n j < rankR r n k) : bef r j k := by
  rcases (bef_total (r := r) (j := j) (k := k) fun e => by subst e; omega) with q | q
  · exact q
  · have := bef_lt hk q; omega
theorem rank_inj {r : Nat → Int} {n j k : Nat} (hj : j < n) (hk : k < n) (h : rankR r n j = rankR r n k) : j = k := by
  by_cases e : j = k
  · exact e
  · rcases bef_total (r := r) e with q | q
    · have := bef_lt hj q; omega
    · have := bef_lt hk q; omega
/-- The first of the greatest. -/
structure FirstMax (g : Nat → Int) (n b : Nat) : Prop where
  lt : b < n
  le : ∀ j, j < n → g j ≤ g b
  first : ∀ j, j < b → g j < g b
/-- The rests where c have been taken. -/
def restC (r : Nat → Int) (n c k : Nat) : Int := if rankR r n k < c then -1 else r k
def outC (q r : Nat → Int) (n c k : Nat) : Int := q k + if rankR r n k < c then 1 else 0
def taken (r : Nat → Int) (n c : Nat) : Nat := ((List.range n).filter fun j => decide (rankR r n j < c)).length
theorem taken_zero (r : Nat → Int) (n : Nat) : taken r n 0 = 0 := by
  unfold taken
  rw [List.filter_eq_nil_iff.2 (fun j _ => by simp)]; rfl
/-- The one that is taken next. -/
theorem take_next {r : Nat → Int} {n c b : Nat} (hr : ∀ k, k < n → 0 ≤ r k) (hc : c < n) (ht : taken r n c = c) (hb : FirstMax (restC r n c) n b) : rankR r n b = c ∧ taken r n (c + 1) = c + 1 := by
  have hex : ∃ u, u < n ∧ ¬ rankR r n u < c := Classical.byContradiction fun hn => by
    have : taken r n c = n := by
      unfold taken
      rw [List.filter_eq_self.2 (fun j hj => by
        simp only [decide_eq_true_eq]
        exact Classical.byContradiction fun q => hn ⟨j, List.mem_range.1 hj, q⟩)]
      simp
    omega
  obtain ⟨u, hu, hu2⟩ := hex
  have hbn : ¬ rankR r n b < c := fun q => by
    have := hb.le u hu
    unfold restC at this
    rw [if_neg hu2, if_pos q] at this
    have := hr u hu
    omega
  have hrb : rankR r n b = c := by
    rw [← ht, rankR_eq]
    unfold taken
    congr 1
    refine List.filter_congr fun j hj => ?_
    have hj := List.mem_range.1 hj
    rw [decide_eq_decide]
    constructor
    · intro hbe
      refine Classical.byContradiction fun q => ?_
      have h1 := hb.le j hj
      unfold restC at h1
      rw [if_neg q, if_neg hbn] at h1
      rcases hbe with h2 | ⟨h2, h3⟩
      · omega
      · have h4 := hb.first j h3
        unfold restC at h4
        rw [if_neg q, if_neg hbn] at h4
        omega
    · intro q
      exact rank_lt_bef (r := r) (n := n) hb.lt (by omega)
  refine ⟨hrb, ?_⟩
  have : taken r n (c + 1) = ((List.range n).filter fun j => decide (rankR r n j < c) || decide (j = b)).length := by
    unfold taken
    congr 1
    refine List.filter_congr fun j hj => ?_
    have hj := List.mem_range.1 hj
    have : (rankR r n j < c + 1) ↔ (rankR r n j < c ∨ j = b) := by
      constructor
      · intro q
        by_cases e : rankR r n j < c
        · exact .inl e
        · exact .inr (rank_inj (r := r) (n := n) hj hb.lt (by omega))
      · rintro (q | q)
        · omega
        · subst q; omega
    by_cases e : rankR r n j < c
    · simp [e]; omega
    · by_cases e2 : j = b
      · simp [e2, hrb]
      · have : ¬ rankR r n j < c + 1 := fun q => by rcases this.1 q with q | q <;> omega
        simp [e2, e, this]
  rw [this, filt_or _ (fun j hj ⟨h1, h2⟩ => by
    simp only [decide_eq_true_eq] at h1 h2
    subst h2; omega), filt_one hb.lt]
  show taken r n c + 1 = c + 1
  rw [ht]
theorem restC_next {r : Nat → Int} {n c b : Nat} (hb : b < n) (h : rankR r n b = c) (k : Nat) (hk : k < n) : restC r n (c + 1) k = if k = b then -1 else restC r n c k := by
  unfold restC
  by_cases e : k = b
  · subst e; rw [if_pos (by omega), if_pos rfl]
  · rw [if_neg e]
    by_cases q : rankR r n k < c
    · rw [if_pos q, if_pos (by omega)]
    · have : rankR r n k ≠ c := fun e2 => e (rank_inj (r := r) (n := n) hk hb (by omega))
      rw [if_neg q, if_neg (by omega)]
theorem outC_next {q r : Nat → Int} {n c b : Nat} (hb : b < n) (h : rankR r n b = c) (k : Nat) (hk : k < n) : outC q r n (c + 1) k = if k = b then outC q r n c b + 1 else outC q r n c k := by
  unfold outC
  by_cases e : k = b
  · subst e; rw [if_pos (by omega), if_pos rfl, if_neg (by omega)]; omega
  · rw [if_neg e]
    by_cases p : rankR r n k < c
    · rw [if_pos p, if_pos (by omega)]
    · have : rankR r n k ≠ c := fun e2 => e (rank_inj (r := r) (n := n) hk hb (by omega))
      rw [if_neg p, if_neg (by omega)]
/-- At the end stand the shares. -/
theorem share_end {t : Int} {l : List Int} {lf : Nat} (hS : sumI l ≠ 0) (hlf : t - sumI (l.map fun x => t * x / sumI l) = (lf : Int)) (k : Nat) (hk : k < l.length) :
    outC (fun k => t * l.getD k 0 / sumI l) (fun k => t * l.getD k 0 % sumI l) l.length lf k = shareF t l k := by
  unfold outC shareF
  rw [if_neg hS, hlf]
  congr 1
  by_cases e : rankR (fun k => t * l.getD k 0 % sumI l) l.length k < lf
  · rw [if_pos e, if_pos (by omega)]
  · rw [if_neg e, if_neg (by omega)]
end Go.Proofs.YtepldjidkomclaaGreat.Ca
namespace Go.Proofs.YtepldjidkomclaaGreat.Ca
set_option linter.unusedSimpArgs false
set_option linter.unusedVariables false
open Go.RowKit
theorem first_max (g : Nat → Int) : ∀ n, 0 < n → ∃ b, FirstMax g n b
  | 0, h => absurd h (Nat.lt_irrefl 0)
  | 1, _ => ⟨0, Nat.one_pos, fun j hj => by rw [show j = 0 by omega]; exact Int.le_refl _, fun j hj => absurd hj (Nat.not_lt_zero j)⟩
  | n + 2, _ => by
    obtain ⟨b, hb⟩ := first_max g (n + 1) (by omega)
    by_cases h : g b < g (n + 1)
    · exact ⟨n + 1, by omega, fun j hj => by
        by_cases e : j = n + 1
        · rw [e]; exact Int.le_refl _
        · have := hb.le j (by omega); omega, fun j hj => by have := hb.le j (by omega); omega⟩
    · exact ⟨b, by have := hb.lt; omega, fun j hj => by
        by_cases e : j = n + 1
        · rw [e]; omega
        · exact hb.le j (by omega), hb.first⟩
theorem taken_eq {r : Nat → Int} {n : Nat} (hr : ∀ k, k < n → 0 ≤ r k) : ∀ c, c ≤ n → taken r n c = c
  | 0, _ => taken_zero r n
  | c + 1, h => by
    have ih := taken_eq hr c (by omega)
    obtain ⟨b, hb⟩ := first_max (restC r n c) n (by omega)
    exact (take_next hr (by omega) ih hb).2
theorem count_sum (p : Nat → Bool) (n : Nat) : sumI ((List.range n).map fun k => if p k then (1 : Int) else 0) = (((List.range n).filter p).length : Int) := by
  induction n with
  | zero => simp [sumI]
  | succ n ih =>
    rw [List.range_succ, List.map_append, List.map_singleton, sumI_snoc, ih, List.filter_append, List.length_append]
    cases hp : p n <;> simp [hp]
theorem sumI_add {α : Type} (f g : α → Int) (l : List α) : sumI (l.map fun x => f x + g x) = sumI (l.map f) + sumI (l.map g) := by
  induction l with
  | nil => rfl
  | cons x l ih => simp only [List.map_cons, sumI, ih]; omega
theorem range_get (f : Int → Int) (l : List Int) : (List.range l.length).map (fun k => f (l.getD k 0)) = l.map f := by
  apply List.ext_getElem
  · simp
  · intro i h1 h2
    simp at h1
    simp [h1]
section
variable {t : Int} {l : List Int}
theorem left_nat (hS : 0 < sumI l) : ∃ lf : Nat, t - sumI (l.map fun x => t * x / sumI l) = lf ∧ lf ≤ l.length := by
  obtain ⟨h1, h2⟩ := left_bound (t := t) hS
  exact ⟨(t - sumI (l.map fun x => t * x / sumI l)).toNat, by omega, by omega⟩
/-- They add up to the total. -/
theorem splitL_sum (hS : 0 < sumI l) : sumI (splitL t l) = t := by
  obtain ⟨lf, h1, h2⟩ := left_nat (t := t) hS
  have e : splitL t l = (List.range l.length).map fun k => t * l.getD k 0 / sumI l + if decide (rankR (fun j => t * l.getD j 0 % sumI l) l.length k < lf) then (1 : Int) else 0 := by
    unfold splitL
    refine List.map_congr_left fun k hk => ?_
    unfold shareF
    rw [if_neg (by omega), h1]
    congr 1
    by_cases q : rankR (fun j => t * l.getD j 0 % sumI l) l.length k < lf
    · rw [if_pos (by omega), if_pos (by simpa using q)]
    · rw [if_neg (by omega), if_neg (by simpa using q)]
  rw [e, sumI_add, range_get (fun x => t * x / sumI l) l, count_sum]
  have ht := taken_eq (r := fun j => t * l.getD j 0 % sumI l) (n := l.length) (fun k _ => Int.emod_nonneg _ (by omega)) lf h2
  unfold taken at ht
  rw [ht]
  omega
theorem pos_sum {S : Int} (hS : 0 < S) (g : Nat → Int) : ∀ n, (∀ k, k < n → 0 ≤ g k ∧ g k < S) → sumI ((List.range n).map g) ≤ (S - 1) * (((List.range n).filter fun k => decide (0 < g k)).length : Int)
  | 0, _ => by simp [sumI]
  | n + 1, h => by
    have ih := pos_sum hS g n fun k hk => h k (by omega)
    have hn := h n (by omega)
    rw [List.range_succ, List.map_append, List.map_singleton, sumI_snoc, List.filter_append, List.length_append]
    by_cases q : 0 < g n
    · have e : ([n].filter fun k => decide (0 < g k)) = [n] := by simp [q]
      rw [e]
      have : (S - 1) * ((((List.range n).filter fun k => decide (0 < g k)).length + [n].length : Nat) : Int) = (S - 1) * (((List.range n).filter fun k => decide (0 < g k)).length : Int) + (S - 1) := by
        simp [Int.mul_add]
      rw [this]; omega
    · have e : ([n].filter fun k => decide (0 < g k)) = [] := by simp [q]
      rw [e]
      simp only [List.length_nil, Nat.add_zero]
      omega
/-- Only a rest above 0 is rounded up. -/
theorem rank_pos (hS : 0 < sumI l) {k : Nat} (hk : k < l.length) (h : (rankR (fun j => t * l.getD j 0 % sumI l) l.length k : Int) < t - sumI (l.map fun x => t * x / sumI l)) : 0 < t * l.getD k 0 % sumI l := by
  obtain ⟨S, hSe⟩ : ∃ S, S = sumI l := ⟨_, rfl⟩
  have hql := quota_left (t := t) hS l
  rw [← hSe] at h hql hS ⊢
  refine Classical.byContradiction fun hn => ?_
  have hz : t * l.getD k 0 % S = 0 := by have := Int.emod_nonneg (t * l.getD k 0) (show S ≠ 0 by omega); omega
  have h1 : ((List.range l.length).filter fun j => decide (0 < t * l.getD j 0 % S)).length ≤ rankR (fun j => t * l.getD j 0 % S) l.length k := by
    rw [rankR_eq]
    refine filt_le _ fun j hj hp => ?_
    simp only [decide_eq_true_eq] at hp ⊢
    left
    show t * l.getD k 0 % S < t * l.getD j 0 % S
    rw [hz]; exact hp
  have h2 := pos_sum hS (fun j => t * l.getD j 0 % S) l.length (fun k _ => ⟨Int.emod_nonneg _ (by omega), Int.emod_lt_of_pos _ hS⟩)
  rw [range_get (fun x => t * x % S) l] at h2
  obtain ⟨P, hP⟩ : ∃ P : Nat, P = ((List.range l.length).filter fun j => decide (0 < t * l.getD j 0 % S)).length := ⟨_, rfl⟩
  obtain ⟨q, hq⟩ : ∃ q, q = sumI (l.map fun x => t * x / S) := ⟨_, rfl⟩
  obtain ⟨rr, hr⟩ : ∃ rr, rr = sumI (l.map fun x => t * x % S) := ⟨_, rfl⟩
  rw [← hP] at h1 h2
  rw [← hr] at h2 hql
  rw [← hq] at h hql
  have h3 : S * (t - q) = rr := by rw [Int.mul_sub, Int.mul_comm S t]; omega
  have h4 : (P : Int) + 1 ≤ t - q := by omega
  have h5 : S * ((P : Int) + 1) ≤ S * (t - q) := Int.mul_le_mul_of_nonneg_left h4 (by omega)
  rw [Int.mul_add] at h5
  rw [Int.sub_mul] at h2
  omega
/-- Each is at most its weight. -/
theorem share_le (ht : 0 ≤ t ∧ t ≤ sumI l) (hx : ∀ x ∈ l, 0 ≤ x) (hS : 0 < sumI l) {k : Nat} (hk : k < l.length) : 0 ≤ shareF t l k ∧ shareF t l k ≤ l.getD k 0 := by
  have hp := rank_pos (t := t) hS hk
  have hx0 : 0 ≤ l.getD k 0 := by
    have : l.getD k 0 = l[k] := by simp [hk]
    rw [this]; exact hx _ (List.getElem_mem hk)
  unfold shareF
  rw [if_neg (by omega)]
  obtain ⟨S, hSe⟩ : ∃ S, S = sumI l := ⟨_, rfl⟩
  rw [← hSe] at hp hS ht ⊢
  obtain ⟨x, hxe⟩ : ∃ x, x = l.getD k 0 := ⟨_, rfl⟩
  rw [← hxe] at hp hx0 ⊢
  have g1 : 0 ≤ t * x / S := Int.ediv_nonneg (Int.mul_nonneg ht.1 hx0) (by omega)
  have g2 : t * x / S ≤ x := Int.ediv_le_of_le_mul hS (by rw [Int.mul_comm x S]; exact Int.mul_le_mul_of_nonneg_right ht.2 hx0)
  split
  · rename_i h
    have h1 := hp h
    have h2 := Int.mul_ediv_add_emod (t * x) S
    have h3 : t * x ≤ S * x := Int.mul_le_mul_of_nonneg_right ht.2 hx0
    refine ⟨by omega, ?_⟩
    rcases (show t * x / S = x ∨ t * x / S < x by omega) with e | e
    · rw [e] at h2; omega
    · omega
  · omega
end
end Go.Proofs.YtepldjidkomclaaGreat.Ca
namespace Go.Proofs.YtepldjidkomclaaGreat.Ca
set_option linter.unusedSimpArgs false
set_option linter.unusedVariables false
open Go.RowKit
theorem byTimeF_facts : ∀ (W : List Int) (t : Int), (∀ x ∈ W, 0 ≤ x) → 0 ≤ t → t ≤ sumI W → sumI (byTimeF t W) = t ∧ ∀ k, 0 ≤ (byTimeF t W).getD k 0 ∧ (k < W.length → (byTimeF t W).getD k 0 ≤ W.getD k 0)
  | [], t, _, h0, h1 => by
    simp only [sumI] at h1
    simp [byTimeF, sumI]; omega
  | x :: W, t, h, h0, h1 => by
    have hx := h x List.mem_cons_self
    simp only [sumI] at h1
    have hnn := sumI_nonneg (l := W) fun y hy => h y (List.mem_cons_of_mem _ hy)
    obtain ⟨i1, i2⟩ := byTimeF_facts W (t - min x t) (fun y hy => h y (List.mem_cons_of_mem _ hy)) (by omega) (by omega)
    simp only [byTimeF, sumI]
    refine ⟨by omega, fun k => ?_⟩
    cases k with
    | zero => simp; omega
    | succ k =>
      have := i2 k
      simpa using this
theorem dealt_facts {rule t : Int} {W : List Int} (h : ∀ x ∈ W, 0 ≤ x) (h0 : 0 ≤ t) (h1 : t ≤ sumI W) : sumI (dealt rule t W) = t ∧ ∀ k, 0 ≤ (dealt rule t W).getD k 0 ∧ (k < W.length → (dealt rule t W).getD k 0 ≤ W.getD k 0) := by
  unfold dealt
  split
  · by_cases hS : sumI W = 0
    · have ht : t = 0 := by omega
      subst ht
      have hz : ∀ n, sumI (List.replicate n (0 : Int)) = 0 := fun n => by
        induction n with
        | zero => rfl
        | succ n ih => rw [List.replicate_succ]; simp only [sumI, ih]; omega
      rw [splitL_zero hS]
      refine ⟨hz _, fun k => ?_⟩
      have e : (List.replicate W.length (0 : Int)).getD k 0 = 0 := by
        by_cases q : k < W.length
        · simp [q]
        · simp [Nat.le_of_not_lt q]
      rw [e]
      refine ⟨Int.le_refl _, fun hk => ?_⟩
      have : W.getD k 0 = W[k] := by simp [hk]
      rw [this]; exact h _ (List.getElem_mem hk)
    · have hp : 0 < sumI W := by have := sumI_nonneg h; omega
      refine ⟨splitL_sum hp, fun k => ?_⟩
      by_cases hk : k < W.length
      · have e : (splitL t W).getD k 0 = shareF t W k := by
          have hk2 : k < (splitL t W).length := by rw [splitL_len]; exact hk
          have : (splitL t W).getD k 0 = (splitL t W)[k] := by simp [hk2]
          rw [this, splitL_get]
        rw [e]
        have := share_le ⟨h0, h1⟩ h hp hk
        exact ⟨this.1, fun _ => this.2⟩
      · have e : (splitL t W).getD k 0 = 0 := by
          have : ¬ k < (splitL t W).length := by rw [splitL_len]; exact hk
          simp [Nat.le_of_not_lt this]
        rw [e]
        exact ⟨Int.le_refl _, fun q => absurd q hk⟩
  · exact byTimeF_facts W t h h0 h1
section
variable {l : List Bd} (hok : ∀ b ∈ l, b.ok) {sd x v rule : Int}
theorem grp_nodup (l : List Bd) (sd x P : Int) : (grp l sd x P).Nodup := ((ids_inc l sd x _).sublist List.filter_sublist).imp (fun h e => by omega)
/-- The fills of one price, in order. -/
theorem grp_fill (P : Int) : (grp l sd x P).map (fillF l sd x v rule) = dealt rule (gotG l sd x v P) (qs l (grp l sd x P)) := by
  apply List.ext_getElem
  · rw [List.length_map, dealt_len, qs_len]
  · intro k h1 h2
    rw [List.getElem_map]
    have hk : k < (grp l sd x P).length := by simpa using h1
    have hp : pI l (grp l sd x P)[k] = P := by simpa using (List.mem_filter.1 (List.getElem_mem hk)).2
    unfold fillF
    rw [hp, List.Nodup.idxOf_getElem (grp_nodup l sd x P) k hk]
    simp [h2]
include hok
theorem got_bound (P : Int) : 0 ≤ gotG l sd x v P ∧ gotG l sd x v P ≤ sumI (qs l (grp l sd x P)) := by
  have := sumI_nonneg (l := qs l (grp l sd x P)) fun y hy => (qs_nonneg hok _ y hy).1
  unfold gotG; omega
theorem grp_sum (P : Int) : sumI ((grp l sd x P).map (fillF l sd x v rule)) = gotG l sd x v P := by
  obtain ⟨h1, h2⟩ := got_bound hok (sd := sd) (x := x) (v := v) P
  rw [grp_fill]
  exact (dealt_facts (fun y hy => (qs_nonneg hok _ y hy).1) h1 h2).1
/-- A fill is from 0 to the quantity. -/
theorem fill_bound {i : Int} (hi : i ∈ ids l sd x) : 0 ≤ fillF l sd x v rule i ∧ fillF l sd x v rule i ≤ qI l i := by
  obtain ⟨h1, h2⟩ := got_bound hok (sd := sd) (x := x) (v := v) (pI l i)
  have hm : i ∈ grp l sd x (pI l i) := List.mem_filter.2 ⟨hi, by simp⟩
  have hk : (grp l sd x (pI l i)).idxOf i < (grp l sd x (pI l i)).length := List.idxOf_lt_length_iff.2 hm
  have := (dealt_facts (rule := rule) (fun y hy => (qs_nonneg hok _ y hy).1) h1 h2).2 ((grp l sd x (pI l i)).idxOf i)
  unfold fillF
  refine ⟨this.1, ?_⟩
  have h3 := this.2 (by rw [qs_len]; exact hk)
  have e : (qs l (grp l sd x (pI l i))).getD ((grp l sd x (pI l i)).idxOf i) 0 = qI l i := by
    simp [qs, hk]
  rw [e] at h3
  exact h3
end
/-- The prices that are served: from the best to a threshold. -/
def srv (sd : Int) (T : Option Int) (P : Int) : Bool := match T with
  | none => false
  | some t => !decide (bet sd t P)
def lev (l : List Bd) (sd x : Int) (T : Option Int) : List Int := (ids l sd x).filter fun i => srv sd T (pI l i)
/-- The best price that is not served. -/
structure NextP (l : List Bd) (sd x : Int) (T : Option Int) (P : Int) : Prop where
  ex : ∃ i ∈ ids l sd x, pI l i = P
  uns : srv sd T P = false
  best : ∀ i ∈ ids l sd x, srv sd T (pI l i) = false → ¬ bet sd (pI l i) P
theorem next_ex {l : List Bd} {sd x : Int} {T : Option Int} : ∀ (m : List Int), (∀ i ∈ m, i ∈ ids l sd x) → (∃ i ∈ m, srv sd T (pI l i) = false) → ∃ P, (∃ i ∈ m, pI l i = P) ∧ srv sd T P = false ∧ ∀ i ∈ m, srv sd T (pI l i) = false → ¬ bet sd (pI l i) P
  | [], _, ⟨i, hi, _⟩ => absurd hi (by simp)
  | j :: m, hm, hex => by
    by_cases hr : ∃ i ∈ m, srv sd T (pI l i) = false
    · obtain ⟨P, ⟨i, hi, e⟩, h2, h3⟩ := next_ex m (fun i hi => hm i (List.mem_cons_of_mem _ hi)) hr
      by_cases hj : srv sd T (pI l j) = false ∧ bet sd (pI l j) P
      · refine ⟨pI l j, ⟨j, List.mem_cons_self, rfl⟩, hj.1, fun k hk hs => ?_⟩
        rcases List.mem_cons.1 hk with rfl | hk
        · exact bet.irr
        · exact fun hb => h3 k hk hs (hb.trans hj.2)
      · refine ⟨P, ⟨i, List.mem_cons_of_mem _ hi, e⟩, h2, fun k hk hs => ?_⟩
        rcases List.mem_cons.1 hk with rfl | hk
        · exact fun hb => hj ⟨hs, hb⟩
        · exact h3 k hk hs
    · obtain ⟨i, hi, hs⟩ := hex
      rcases List.mem_cons.1 hi with rfl | hi
      · refine ⟨pI l i, ⟨i, List.mem_cons_self, rfl⟩, hs, fun k hk hs => ?_⟩
        rcases List.mem_cons.1 hk with rfl | hk
        · exact bet.irr
        · exact absurd ⟨k, hk, hs⟩ hr
      · exact absurd ⟨i, hi, hs⟩ hr
section
variable {l : List Bd} {sd x : Int} {T : Option Int} {P : Int}
theorem NextP.fore (h : NextP l sd x T P) : fore l sd x P = lev l sd x T := by
  unfold Go.Proofs.YtepldjidkomclaaGreat.Ca.fore lev
  refine List.filter_congr fun i hi => ?_
  cases hs : srv sd T (pI l i) with
  | true =>
    have : bet sd (pI l i) P := by
      cases T with
      | none => simp [srv] at hs
      | some t =>
        have h1 : ¬ bet sd t (pI l i) := by simpa [srv] using hs
        have h2 : bet sd t P := by simpa [srv] using h.uns
        exact bet.soon h1 h2
    simpa using this
  | false =>
    have := h.best i hi hs
    simpa using this
theorem NextP.split (h : NextP l sd x T P) {i : Int} (hi : i ∈ ids l sd x) : srv sd (some P) (pI l i) = (srv sd T (pI l i) || decide (pI l i = P)) ∧ ¬ (srv sd T (pI l i) = true ∧ pI l i = P) := by
  have hf : decide (bet sd (pI l i) P) = srv sd T (pI l i) := by
    have := h.fore
    cases hs : srv sd T (pI l i) with
    | true =>
      have hm : i ∈ Go.Proofs.YtepldjidkomclaaGreat.Ca.fore l sd x P := by rw [this]; exact List.mem_filter.2 ⟨hi, hs⟩
      simpa using (List.mem_filter.1 hm).2
    | false => simpa using h.best i hi hs
  refine ⟨?_, fun ⟨h1, h2⟩ => by rw [h2, h.uns] at h1; cases h1⟩
  rw [← hf]
  have : srv sd (some P) (pI l i) = !decide (bet sd P (pI l i)) := rfl
  rw [this]
  by_cases e : pI l i = P
  · rw [e]; simp [bet.irr]
  · by_cases b : bet sd (pI l i) P
    · simp [b, b.asym]
    · have := bet.tri b e
      simp [b, this, e]
theorem filt_split {α : Type} (g : α → Int) {p q r : α → Bool} : ∀ (m : List α), (∀ i ∈ m, r i = (p i || q i)) → (∀ i ∈ m, ¬ (p i = true ∧ q i = true)) → sumI ((m.filter r).map g) = sumI ((m.filter p).map g) + sumI ((m.filter q).map g)
  | [], _, _ => by simp [sumI]
  | i :: m, h1, h2 => by
    have ih := filt_split g m (fun j hj => h1 j (List.mem_cons_of_mem _ hj)) (fun j hj => h2 j (List.mem_cons_of_mem _ hj))
    have e1 := h1 i List.mem_cons_self
    have e2 := h2 i List.mem_cons_self
    rw [List.filter_cons, List.filter_cons, List.filter_cons, e1]
    cases hp : p i <;> cases hq : q i
    · simpa using ih
    · simp [sumI]; omega
    · simp [sumI]; omega
    · exact absurd ⟨hp, hq⟩ e2
theorem NextP.sum (h : NextP l sd x T P) (g : Int → Int) : sumI ((lev l sd x (some P)).map g) = sumI ((lev l sd x T).map g) + sumI ((grp l sd x P).map g) := by
  unfold lev grp
  exact filt_split g _ (fun i hi => (h.split hi).1) (fun i hi q => (h.split hi).2 ⟨q.1, by simpa using q.2⟩)
end
/-- What is dealt out down to a price. -/
theorem lev_sum {l : List Bd} (hok : ∀ b ∈ l, b.ok) {sd x v rule : Int} (hv : 0 ≤ v) {T : Option Int} {P : Int} (h : NextP l sd x T P) (hT : sumI ((lev l sd x T).map (fillF l sd x v rule)) = min v (sumI (qs l (lev l sd x T)))) : sumI ((lev l sd x (some P)).map (fillF l sd x v rule)) = min v (sumI (qs l (lev l sd x (some P)))) := by
  have h1 := h.sum (fillF l sd x v rule)
  have h2 := h.sum (qI l)
  have h3 := grp_sum hok (sd := sd) (x := x) (v := v) (rule := rule) P
  have h4 := sumI_nonneg (l := qs l (grp l sd x P)) fun y hy => (qs_nonneg hok _ y hy).1
  have h5 := sumI_nonneg (l := qs l (lev l sd x T)) fun y hy => (qs_nonneg hok _ y hy).1
  rw [h1, h3, hT]
  unfold gotG
  rw [h.fore]
  unfold qs at *
  rw [h2]
  omega
theorem all_sum {l : List Bd} (hok : ∀ b ∈ l, b.ok) {sd x v rule : Int} (hv : 0 ≤ v) : ∀ (n : Nat) (T : Option Int), ((ids l sd x).filter fun i => !srv sd T (pI l i)).length ≤ n → sumI ((lev l sd x T).map (fillF l sd x v rule)) = min v (sumI (qs l (lev l sd x T))) → sumI ((ids l sd x).map (fillF l sd x v rule)) = min v (sumI (qs l (ids l sd x)))
  | n, T, hn, hT => by
    by_cases hex : ∃ i ∈ ids l sd x, srv sd T (pI l i) = false
    · obtain ⟨P, p1, p2, p3⟩ := next_ex (ids l sd x) (fun i hi => hi) hex
      have hN : NextP l sd x T P := ⟨p1, p2, p3⟩
      have hlt : ((ids l sd x).filter fun i => !srv sd (some P) (pI l i)).length < ((ids l sd x).filter fun i => !srv sd T (pI l i)).length := by
        obtain ⟨i, hi, e⟩ := p1
        refine filt_lt (a := i) ?_ ?_ _ hi fun j hj hp => ?_
        · rw [(hN.split hi).1, e]; simp
        · rw [e, p2]; rfl
        · rw [(hN.split hj).1] at hp
          simp at hp ⊢
          exact hp.1
      cases n with
      | zero => omega
      | succ n => exact all_sum hok hv n (some P) (by omega) (lev_sum hok hv hN hT)
    · have e : lev l sd x T = ids l sd x := List.filter_eq_self.2 fun i hi => by
        cases hs : srv sd T (pI l i) with
        | true => rfl
        | false => exact absurd ⟨i, hi, hs⟩ hex
      rw [← e]; exact hT
/-- All the fills of a side. -/
theorem fills_sum {l : List Bd} (hok : ∀ b ∈ l, b.ok) {sd x v rule : Int} (hv : 0 ≤ v) : sumI ((ids l sd x).map (fillF l sd x v rule)) = min v (sumI (qs l (ids l sd x))) := by
  refine all_sum hok hv _ none (Nat.le_refl _) ?_
  have : lev l sd x none = [] := List.filter_eq_nil_iff.2 fun i _ => by simp [srv]
  rw [this]; simp [qs, sumI]; omega
theorem sum_eq_all {f g : Int → Int} : ∀ (m : List Int), (∀ i ∈ m, f i ≤ g i) → sumI (m.map f) = sumI (m.map g) → ∀ i ∈ m, f i = g i
  | [], _, _ => by simp
  | j :: m, h, e => by
    simp only [List.map_cons, sumI] at e
    have hle : ∀ (m : List Int), (∀ i ∈ m, f i ≤ g i) → sumI (m.map f) ≤ sumI (m.map g) := fun m hm => by
      induction m with
      | nil => exact Int.le_refl _
      | cons k m ih =>
        have := hm k List.mem_cons_self
        have := ih fun i hi => hm i (List.mem_cons_of_mem _ hi)
        simp only [List.map_cons, sumI]; omega
    have h1 := h j List.mem_cons_self
    have h2 := hle m fun i hi => h i (List.mem_cons_of_mem _ hi)
    intro i hi
    rcases List.mem_cons.1 hi with rfl | hi
    · omega
    · exact sum_eq_all m (fun i hi => h i (List.mem_cons_of_mem _ hi)) (by omega) i hi
/-- Where the volume is all there is, everybody is served in full. -/
theorem fills_full {l : List Bd} (hok : ∀ b ∈ l, b.ok) {sd x v rule : Int} (hv : 0 ≤ v) (h : sumI (qs l (ids l sd x)) ≤ v) {i : Int} (hi : i ∈ ids l sd x) : fillF l sd x v rule i = qI l i := by
  have := fills_sum hok (sd := sd) (x := x) (rule := rule) hv
  exact sum_eq_all (ids l sd x) (fun j hj => (fill_bound hok hj).2) (by rw [this]; unfold qs at h ⊢; omega) i hi
end Go.Proofs.YtepldjidkomclaaGreat.Ca
namespace Go.Proofs.YtepldjidkomclaaGreat.Ca
set_option linter.unusedSimpArgs false
set_option linter.unusedVariables false
open Go.RowKit
attribute [local go_sem] Oper.semAt_some
attribute [local go_sem ↓] Go.wp_at_zero Go.wp_at_succ
def encIv (z : Zn) : List Value := [.int .i64 z.f, .int .i64 z.t, .int .i64 z.vol, .int .i64 z.sur]
theorem encIv_len (z : Zn) : (encIv z).length = 4 := rfl
theorem encIv_one (z : Zn) : ∀ u ∈ encIv z, u.oneCell' = true := by
  intro u hu
  simp only [encIv, List.mem_cons, List.not_mem_nil, or_false] at hu
  rcases hu with rfl | rfl | rfl | rfl <;> rfl
/-- Where the interval that begins at a price ends. -/
def hiF (lo : Int) : List Bd → Int → Int
  | [], h => h
  | b :: l, h => hiF lo l (if lo ≤ cut b - 1 then min h (cut b - 1) else h)
theorem hiF_snoc (lo : Int) (l : List Bd) (b : Bd) : ∀ h, hiF lo (l ++ [b]) h = if lo ≤ cut b - 1 then min (hiF lo l h) (cut b - 1) else hiF lo l h := by
  induction l with
  | nil => intro h; rfl
  | cons c l ih => intro h; exact ih _
theorem hiF_spec (lo : Int) : ∀ (l : List Bd) (h : Int), (hiF lo l h = h ∨ ∃ b ∈ l, lo ≤ cut b - 1 ∧ hiF lo l h = cut b - 1) ∧ hiF lo l h ≤ h ∧ ∀ b ∈ l, lo ≤ cut b - 1 → hiF lo l h ≤ cut b - 1
  | [], h => ⟨.inl rfl, Int.le_refl _, by simp⟩
  | b :: l, h => by
    obtain ⟨h1, h2, h3⟩ := hiF_spec lo l (if lo ≤ cut b - 1 then min h (cut b - 1) else h)
    simp only [hiF]
    by_cases q : lo ≤ cut b - 1
    · rw [if_pos q] at h1 h2 h3 ⊢
      refine ⟨?_, by omega, fun c hc => ?_⟩
      · rcases h1 with e | ⟨c, hc, e1, e2⟩
        · rcases (show min h (cut b - 1) = h ∨ min h (cut b - 1) = cut b - 1 by omega) with z | z
          · exact .inl (by omega)
          · exact .inr ⟨b, List.mem_cons_self, q, by omega⟩
        · exact .inr ⟨c, List.mem_cons_of_mem _ hc, e1, e2⟩
      · rcases List.mem_cons.1 hc with rfl | hc
        · intro _; omega
        · exact h3 c hc
    · rw [if_neg q] at h1 h2 h3 ⊢
      refine ⟨?_, h2, fun c hc => ?_⟩
      · rcases h1 with e | ⟨c, hc, e1, e2⟩
        · exact .inl e
        · exact .inr ⟨c, List.mem_cons_of_mem _ hc, e1, e2⟩
      · rcases List.mem_cons.1 hc with rfl | hc
        · intro h; exact absurd h q
        · exact h3 c hc
theorem cut_range {b : Bd} (h : b.ok) : 1 ≤ cut b ∧ cut b ≤ 1000001 := by
  obtain ⟨h0, h1, h2, _⟩ := h
  unfold cut; split <;> omega
section
variable {l : List Bd} (hok : ∀ b ∈ l, b.ok)
include hok
theorem starts_range : ∀ x ∈ starts l, 1 ≤ x ∧ x ≤ 1000001 := fun x hx => by
  rcases ((starts_spec l).2 x).1 hx with rfl | ⟨b, hb, rfl⟩
  · omega
  · exact cut_range (hok b hb)
/-- The end of the i-th zone. -/
theorem hi_zone {i : Nat} (hi : i < (starts l).length) (h6 : (starts l).getD i 0 ≤ 1000000) : hiF ((starts l).getD i 0) l 1000000 = if i + 1 < (starts l).length then (starts l).getD (i + 1) 0 - 1 else 1000000 := by
  obtain ⟨s1, s2⟩ := starts_spec l
  obtain ⟨h1, h2, h3⟩ := hiF_spec ((starts l).getD i 0) l 1000000
  have hgi : (starts l).getD i 0 = (starts l)[i] := by simp [hi]
  by_cases hn : i + 1 < (starts l).length
  · rw [if_pos hn]
    have hgn : (starts l).getD (i + 1) 0 = (starts l)[i + 1] := by simp [hn]
    have hlt := List.pairwise_iff_getElem.1 s1 i (i + 1) hi hn (by omega)
    have hr := starts_range hok _ (List.getElem_mem hn)
    have hle : hiF ((starts l).getD i 0) l 1000000 ≤ (starts l)[i + 1] - 1 := by
      rcases (s2 _).1 (List.getElem_mem hn) with e | ⟨b, hb, e⟩
      · have := (starts_range hok _ (List.getElem_mem hi)).1; omega
      · have := h3 b hb (by omega); omega
    rw [hgn]
    rcases h1 with e | ⟨b, hb, e1, e2⟩
    · omega
    · have hm : cut b ∈ starts l := (s2 _).2 (.inr ⟨b, hb, rfl⟩)
      obtain ⟨j, hj, ej⟩ := List.getElem_of_mem hm
      have hij : i < j := by
        rcases Nat.lt_or_ge i j with q | q
        · exact q
        · rcases Nat.lt_or_ge j i with q2 | q2
          · have := List.pairwise_iff_getElem.1 s1 j i hj hi q2; omega
          · have : j = i := by omega
            subst this; omega
      rcases Nat.lt_or_ge (i + 1) j with q | q
      · have := List.pairwise_iff_getElem.1 s1 (i + 1) j hn hj q; omega
      · have : j = i + 1 := by omega
        subst this; omega
  · rw [if_neg hn]
    rcases h1 with e | ⟨b, hb, e1, e2⟩
    · exact e
    · have hm : cut b ∈ starts l := (s2 _).2 (.inr ⟨b, hb, rfl⟩)
      obtain ⟨j, hj, ej⟩ := List.getElem_of_mem hm
      rcases Nat.lt_or_ge j i with q2 | q2
      · have := List.pairwise_iff_getElem.1 s1 j i hj hi q2; omega
      · have : j = i := by omega
        subst this; omega
/-- Where the i-th interval begins. -/
def loF (l : List Bd) (i : Nat) : Int := if i < (starts l).length then (starts l).getD i 0 else 1000001
theorem lo_next {i : Nat} (hi : i < (starts l).length) (h6 : loF l i ≤ 1000000) : hiF (loF l i) l 1000000 + 1 = loF l (i + 1) ∧ zAt l (starts l) i = [⟨loF l i, hiF (loF l i) l 1000000, dem l (loF l i), sup l (loF l i)⟩] := by
  have e : loF l i = (starts l).getD i 0 := by unfold loF; rw [if_pos hi]
  rw [e] at h6 ⊢
  have hz := hi_zone hok hi h6
  constructor
  · rw [hz]; unfold loF
    split <;> omega
  · unfold zAt
    rw [if_pos h6, hz]
theorem lo_end {i : Nat} (hi : i ≤ (starts l).length) (h6 : ¬ loF l i ≤ 1000000) : zTo l (starts l) i = zonesL l := by
  unfold zonesL
  by_cases e : i = (starts l).length
  · rw [e]
  · have hil : i < (starts l).length := by omega
    have e1 : loF l i = (starts l)[i] := by unfold loF; rw [if_pos hil]; simp [hil]
    have hr := starts_range hok _ (List.getElem_mem hil)
    have hlast : i + 1 = (starts l).length := by
      refine Classical.byContradiction fun hn => ?_
      have h1 : i + 1 < (starts l).length := by omega
      have := List.pairwise_iff_getElem.1 (starts_spec l).1 i (i + 1) hil h1 (by omega)
      have := starts_range hok _ (List.getElem_mem h1)
      omega
    rw [← hlast, zTo_succ]
    have : zAt l (starts l) i = [] := by
      unfold zAt
      rw [if_neg]
      have : (starts l).getD i 0 = (starts l)[i] := by simp [hil]
      omega
    rw [this, List.append_nil]
theorem lo_range {i : Nat} : 1 ≤ loF l i ∧ loF l i ≤ 1000001 := by
  unfold loF
  split
  · rename_i h
    have : (starts l).getD i 0 = (starts l)[i] := by simp [h]
    rw [this]; exact starts_range hok _ (List.getElem_mem h)
  · omega
end
theorem lo_zero {l : List Bd} (hok : ∀ b ∈ l, b.ok) : loF l 0 = 1 := by
  obtain ⟨s1, s2⟩ := starts_spec l
  have hm : (1 : Int) ∈ starts l := (s2 1).2 (.inl rfl)
  obtain ⟨j, hj, e⟩ := List.getElem_of_mem hm
  have h0 : 0 < (starts l).length := by omega
  unfold loF
  rw [if_pos h0]
  have eg : (starts l).getD 0 0 = (starts l)[0] := by simp [h0]
  have hr := starts_range hok _ (List.getElem_mem h0)
  rw [eg]
  rcases Nat.eq_zero_or_pos j with q | q
  · subst q; exact e
  · have := List.pairwise_iff_getElem.1 s1 0 j h0 hj q
    omega

end Go.Proofs.YtepldjidkomclaaGreat.Ca
namespace Go.Proofs.YtepldjidkomclaaGreat.Ca
set_option linter.unusedSimpArgs false
set_option linter.unusedVariables false
open Go.RowKit
attribute [local go_sem] Oper.semAt_some
attribute [local go_sem ↓] Go.wp_at_zero Go.wp_at_succ

end Go.Proofs.YtepldjidkomclaaGreat.Ca
namespace Go.Proofs.YtepldjidkomclaaGreat.Ca
set_option linter.unusedSimpArgs false
set_option linter.unusedVariables false
open Go.RowKit
attribute [local go_sem] Oper.semAt_some
attribute [local go_sem ↓] Go.wp_at_zero Go.wp_at_succ
/-- The greatest volume, and not less than 0. -/
def mostV : List Zn → Int → Int
  | [], m => m
  | z :: l, m => mostV l (max m z.vol)
theorem mostV_snoc (l : List Zn) (z : Zn) : ∀ m, mostV (l ++ [z]) m = max (mostV l m) z.vol := by
  induction l with
  | nil => intro m; rfl
  | cons y l ih => intro m; exact ih _
theorem mostV_spec : ∀ (l : List Zn) (m : Int), m ≤ mostV l m ∧ (∀ z ∈ l, z.vol ≤ mostV l m) ∧ (mostV l m = m ∨ ∃ z ∈ l, mostV l m = z.vol)
  | [], m => ⟨Int.le_refl _, by simp, .inl rfl⟩
  | z :: l, m => by
    obtain ⟨h1, h2, h3⟩ := mostV_spec l (max m z.vol)
    simp only [mostV]
    refine ⟨by omega, fun y hy => ?_, ?_⟩
    · rcases List.mem_cons.1 hy with rfl | hy
      · omega
      · exact h2 y hy
    · rcases h3 with e | ⟨y, hy, e⟩
      · rcases (show max m z.vol = m ∨ max m z.vol = z.vol by omega) with q | q
        · exact .inl (by omega)
        · exact .inr ⟨z, List.mem_cons_self, by omega⟩
      · exact .inr ⟨y, List.mem_cons_of_mem _ hy, e⟩
def most (l : List Bd) : Int := mostV (zonesL l) 0
/-- What the reference's Best gives. -/
def rbestL (l : List Bd) : List Zn := if most l = 0 then [] else bestZ l
theorem minTo_le (F : Zn → Int) : ∀ (Z : List Zn) (a : Int), minTo F Z a ≤ a ∧ ∀ z ∈ Z, minTo F Z a ≤ F z
  | [], a => ⟨Int.le_refl _, by simp⟩
  | y :: Z, a => by
    obtain ⟨h1, h2⟩ := minTo_le F Z (min a (F y))
    have e : minTo F (y :: Z) a = minTo F Z (min a (F y)) := rfl
    rw [e]
    refine ⟨by omega, fun z hz => ?_⟩
    rcases List.mem_cons.1 hz with rfl | hz
    · omega
    · exact h2 z hz
theorem leastF_le (F : Zn → Int) {Z : List Zn} {z : Zn} (hz : z ∈ Z) : leastF F Z ≤ F z := (minTo_le F Z _).2 z hz
/-- The least of the negative volumes. -/
theorem least_most {Z : List Zn} (hne : Z ≠ []) (h : ∀ z ∈ Z, 0 ≤ z.vol) : leastF F1 Z = -mostV Z 0 := by
  obtain ⟨z, hz, e⟩ := leastF_mem F1 hne
  obtain ⟨h1, h2, h3⟩ := mostV_spec Z 0
  have hle : ∀ y ∈ Z, leastF F1 Z ≤ F1 y := fun y hy => leastF_le F1 hy
  have e : -z.vol = leastF F1 Z := e
  have hle : ∀ y ∈ Z, leastF F1 Z ≤ -y.vol := hle
  have hzv := h2 z hz
  have hz0 := h z hz
  rcases h3 with q | ⟨y, hy, q⟩
  · have : z.vol = 0 := by omega
    omega
  · have := hle y hy
    omega
theorem bestZ_vol {l : List Bd} (hl : l.length ≤ 4096) (hok : ∀ b ∈ l, b.ok) : bestZ l ≠ [] ∧ ((bestZ l).getD 0 zn0).vol = most l ∧ bestZ l = (zonesL l).filter fun z => decide (z.vol = most l) := by
  have hne := zonesL_ne hok
  have hv : ∀ z ∈ zonesL l, 0 ≤ z.vol := fun z hz => ((zonesL_ok hl hok).1 z hz).vol.1
  have hlm := least_most hne hv
  have hbn : bestZ l ≠ [] := keptF_ne F1 hne
  have he : bestZ l = (zonesL l).filter fun z => decide (z.vol = most l) := by
    unfold bestZ keptF most
    rw [hlm]
    refine List.filter_congr fun z _ => ?_
    rw [decide_eq_decide]
    unfold F1; omega
  refine ⟨hbn, ?_, he⟩
  have h0 : 0 < (bestZ l).length := List.length_pos_iff.2 hbn
  have e : (bestZ l).getD 0 zn0 = (bestZ l)[0] := by simp [h0]
  rw [e]
  have hm : (bestZ l)[0] ∈ bestZ l := List.getElem_mem h0
  generalize (bestZ l)[0] = y at hm
  rw [he] at hm
  simpa using (List.mem_filter.1 hm).2
theorem most_pos (l : List Bd) : 0 ≤ most l := (mostV_spec (zonesL l) 0).1
theorem rbest_filter {l : List Bd} (hl : l.length ≤ 4096) (hok : ∀ b ∈ l, b.ok) (h : most l ≠ 0) : rbestL l = (zonesL l).filter fun z => decide (z.vol = most l) := by
  unfold rbestL; rw [if_neg h]; exact (bestZ_vol hl hok).2.2

end Go.Proofs.YtepldjidkomclaaGreat.Ca
