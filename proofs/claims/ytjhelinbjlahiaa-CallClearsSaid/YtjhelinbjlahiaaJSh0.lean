/- The reference's muldiv. Shares by taking the greatest rest again and again, plain. The reference's Share: the walk. The reference's Split. Shares, plain: what they are together. -/
import Derived.Test.YtjhelinbjlahiaaJLh0
import Derived.Test.YtjhelinbjlahiaaJSv0
namespace Go.Proofs.Ytjhelinbjlahiaa
set_option linter.unusedSimpArgs false
set_option linter.unusedVariables false
open Go.RowKit
attribute [local go_sem] Oper.semAt_some
attribute [local go_sem ↓] Go.wp_at_zero Go.wp_at_succ
theorem half_bit (b : Nat) (k : Nat) : b / 2 ^ k = 2 * (b / 2 ^ (k + 1)) + b / 2 ^ k % 2 := by
  have : b / 2 ^ (k + 1) = b / 2 ^ k / 2 := by rw [Nat.pow_succ, Nat.div_div_eq_div_mul]
  rw [this]; omega

set_option maxRecDepth 100000 in
set_option maxHeartbeats 4000000 in
theorem muldiv_calls (a b d : Nat) (hd : 0 < d) (had : a ≤ d) (hd2 : d ≤ 5000000000000) (hb : b ≤ 1000000000) (w : World) :
    Calls Try.prog 61 #[.int .i64 a, .int .i64 b, .int .i64 d] w fun e w' => e = .returned (.tuple #[.int .i64 ((a * b / d : Nat) : Int), .int .i64 ((a * b % d : Nat) : Int)]) ∧ w' = w := by
  obtain ⟨R, hR⟩ : ∃ R : Ending → World → Prop, R = fun e w' => e = .returned (.tuple #[.int .i64 ((a * b / d : Nat) : Int), .int .i64 ((a * b % d : Nat) : Int)]) ∧ w' = w := ⟨_, rfl⟩
  rw [← hR]
  have FN := hid (show ∀ q r : Nat, q * d + r = a * b → r < d → R (.returned (.tuple #[.int .i64 q, .int .i64 r])) w from fun q r h1 h2 => by
    rw [hR]
    have e1 : a * b / d = q := by rw [← h1, Nat.mul_comm, Nat.mul_add_div hd, Nat.div_eq_of_lt h2]; rfl
    have e2 : a * b % d = r := by rw [← h1, Nat.mul_comm, Nat.mul_add_mod, Nat.mod_eq_of_lt h2]
    rw [e1, e2]; exact ⟨rfl, rfl⟩)
  clear hR
  go_enter Try.func61, Try.ntmps61
  go_upto_region 3 with fail
  go_loopg [8, 9, 10] 63 (fun k s8 s9 s10 wr => ∃ K q r : Nat, K = k ∧ K ≤ 63 ∧ s8 = .int .i64 q ∧ s9 = .int .i64 r ∧ s10 = .int .i64 ((K : Int) - 1) ∧ q * d + r = a * (b / 2 ^ K) ∧ r < d ∧ wr = w)
  case atStart => exact ⟨63, 0, 0, rfl, by omega, rfl, rfl, rfl, by rw [Nat.div_eq_of_lt (by omega)]; simp, hd, rfl⟩
  case round =>
    obtain ⟨K, q, r, hK, hK63, rfl, rfl, rfl, hqr, hrd, rfl⟩ := hrel
    have HK := hid hK
    have HQR := hid hqr
    clear hK hqr
    by_cases h0 : K = 0
    · subst h0
      have F := hid (FN.out q r (by have := HQR.out; rw [Nat.pow_zero, Nat.div_one] at this; exact this) hrd)
      go_wp2
      first | exact F.out | exact bodyPost_ret (by simp [results, Try.results61, go_sem]) rfl F.out
    · obtain ⟨j, rfl⟩ : ∃ j, K = j + 1 := ⟨K - 1, by omega⟩
      have ej : ((j + 1 : Nat) : Int) - 1 = (j : Int) := by omega
      rw [ej]
      have hq9 : q ≤ 1000000000 := by
        have h1 : q * d ≤ 1000000000 * d := by
          have h2 := HQR.out
          have h3 : a * (b / 2 ^ (j + 1)) ≤ d * b := Nat.mul_le_mul had (Nat.div_le_self _ _)
          have h4 : d * b ≤ d * 1000000000 := Nat.mul_le_mul_left _ hb
          rw [Nat.mul_comm 1000000000 d]; omega
        exact Nat.le_of_mul_le_mul_right h1 hd
      have e1 : IntKind.i64.wrap (2 * (q : Int)) = 2 * (q : Int) := IntWalk.i64_in _ (by omega)
      have e2 : IntKind.i64.wrap (2 * (r : Int)) = 2 * (r : Int) := IntWalk.i64_in _ (by omega)
      have e3 : IntKind.u64.wrap (j : Int) = (j : Int) := IntWalk.u64_in _ (by omega)
      obtain ⟨t, ht⟩ : ∃ t, t = b / 2 ^ j % 2 := ⟨_, rfl⟩
      have hb2 := half_bit b j
      rw [← ht] at hb2
      have ht2 : t < 2 := by rw [ht]; exact Nat.mod_lt _ (by omega)
      have e4 : ((b : Int) / 2 ^ j).tmod 2 = (t : Int) := by
        have h1 : ((b : Int) / 2 ^ j) = ((b / 2 ^ j : Nat) : Int) := by rw [Int.natCast_ediv, Int.natCast_pow]; rfl
        rw [h1, Int.tmod_eq_emod_of_nonneg (Int.natCast_nonneg _), ht, Int.natCast_emod]; rfl
      obtain ⟨M, hM⟩ : ∃ M, M = a * (b / 2 ^ j) := ⟨_, rfl⟩
      have hMe : 2 * (q * d) + (2 * r + t * a) = M := by
        have h2 := HQR.out
        have h3 : a * (2 * (b / 2 ^ (j + 1))) = 2 * (a * (b / 2 ^ (j + 1))) := Nat.mul_left_comm _ _ _
        have h4 : a * t = t * a := Nat.mul_comm _ _
        rw [hM, hb2, Nat.mul_add, h3, h4]
        omega
      have hM9 : M ≤ d * 1000000000 := by
        rw [hM]
        exact Nat.le_trans (Nat.mul_le_mul had (Nat.div_le_self _ _)) (Nat.mul_le_mul_left _ hb)
      have HM := hid hM
      have HME := hid hMe
      have HM9 := hid hM9
      clear hb2 ht hM hMe hM9
      go_upto_if 24 with fail
      go_cut [9] (fun s9 wx => s9 = .int .i64 ((2 * r + t * a : Nat) : Int) ∧ wx = wr)
      case first =>
        rcases (show t = 0 ∨ t = 1 by omega) with rfl | rfl
        · go_wp2
          go_meet
          exact ⟨by go_num, rfl⟩
        · have e5 : IntKind.i64.wrap (2 * (r : Int) + (a : Int)) = 2 * (r : Int) + (a : Int) := IntWalk.i64_in _ (by omega)
          go_wp2
          go_meet
          exact ⟨by go_num, rfl⟩
      case rest =>
        obtain ⟨rfl, rfl⟩ := hcut
        have hr3 : 2 * r + t * a ≤ 3 * d := by
          rcases (show t = 0 ∨ t = 1 by omega) with rfl | rfl <;> omega
        have ME := hid (show (2 * q) * d + (2 * r + t * a) = M by rw [Nat.mul_assoc]; exact HME.out)
        obtain ⟨r0, hr0⟩ : ∃ r0, r0 = 2 * r + t * a := ⟨_, rfl⟩
        rw [← hr0] at hr3 ME ⊢
        have e6 : 2 * (q : Int) = ((2 * q : Nat) : Int) := by omega
        obtain ⟨w9, rfl⟩ : ∃ w9 : World, w9 = wc := ⟨_, rfl⟩
        clear hr0 e1 e2 e4 HME
        go_upto_region 9 with fail
        go_loopg [8, 9] r0 (fun k s8 s9 wx => ∃ Q S : Nat, S ≤ k ∧ S ≤ 3 * d ∧ s8 = .int .i64 Q ∧ s9 = .int .i64 S ∧ Q * d + S = M ∧ wx = w9)
        case atStart => exact ⟨2 * q, r0, Nat.le_refl _, hr3, by rw [e6], rfl, ME.out, rfl⟩
        case round =>
          obtain ⟨Q, S, hSk, hS3, rfl, rfl, hQS, rfl⟩ := hrel
          have HQS := hid hQS
          have HSK := hid hSk
          have hQ9 : Q ≤ 1000000000 := by
            have h1 : Q * d ≤ 1000000000 * d := by have := HM9.out; rw [Nat.mul_comm 1000000000 d]; omega
            exact Nat.le_of_mul_le_mul_right h1 hd
          clear hQS hSk
          by_cases hge : d ≤ S
          · have g1 : (d : Int) ≤ (S : Int) := by omega
            have e7 : IntKind.i64.wrap ((S : Int) - (d : Int)) = ((S - d : Nat) : Int) := by rw [show (S : Int) - (d : Int) = ((S - d : Nat) : Int) by omega]; exact IntWalk.i64_in _ (by omega)
            have e8 : IntKind.i64.wrap ((Q : Int) + 1) = ((Q + 1 : Nat) : Int) := IntWalk.i64_in _ (by omega)
            have NX := hid (show (Q + 1) * d + (S - d) = M by have := HQS.out; rw [Nat.add_mul, Nat.one_mul]; omega)
            clear hge
            go_wp2
            go_roundg (S - d)
            · exact ⟨Q + 1, S - d, Nat.le_refl _, by omega, by go_num, by go_num, NX.out, rfl⟩
            · have := HSK.out; omega
          · have g1 : ¬ (d : Int) ≤ (S : Int) := by omega
            have e7 : IntKind.i64.wrap ((j : Int) - 1) = (j : Int) - 1 := IntWalk.i64_in _ (by omega)
            have NX := hid (show Q * d + S = a * (b / 2 ^ j) by rw [← HM.out]; exact HQS.out)
            have hSd : S < d := by omega
            clear hge
            go_wp2
            go_roundg j
            · exact ⟨j, Q, S, rfl, by omega, rfl, rfl, by go_num, NX.out, hSd, rfl⟩
            · have := HK.out; omega
end Go.Proofs.Ytjhelinbjlahiaa
namespace Go.Proofs.Ytjhelinbjlahiaa
set_option linter.unusedSimpArgs false
set_option linter.unusedVariables false
open Go.RowKit
theorem filt_le {α : Type} {p q : α → Bool} : ∀ (l : List α), (∀ x ∈ l, p x = true → q x = true) → (l.filter p).length ≤ (l.filter q).length
  | [], _ => by simp
  | x :: l, h => by
    have ih := filt_le l fun y hy => h y (List.mem_cons_of_mem _ hy)
    have hx := h x List.mem_cons_self
    rw [List.filter_cons, List.filter_cons]
    cases hp : p x with
    | true => rw [hx hp]; simpa using ih
    | false => cases hq : q x <;> simp <;> omega
theorem filt_lt {α : Type} {p q : α → Bool} {a : α} (hp : p a = false) (hq : q a = true) : ∀ (l : List α), a ∈ l → (∀ x ∈ l, p x = true → q x = true) → (l.filter p).length < (l.filter q).length
  | [], h, _ => by simp at h
  | x :: l, ha, h => by
    have hs : ∀ y ∈ l, p y = true → q y = true := fun y hy => h y (List.mem_cons_of_mem _ hy)
    have hx := h x List.mem_cons_self
    rw [List.filter_cons, List.filter_cons]
    rcases List.mem_cons.1 ha with e | e
    · rw [← e, hp, hq]
      have := filt_le l hs
      simp; omega
    · have ih := filt_lt hp hq l e hs
      cases hpx : p x with
      | true => rw [hx hpx]; simpa using ih
      | false => cases hqx : q x <;> simp <;> omega
theorem filt_one {n b : Nat} (hb : b < n) : ((List.range n).filter fun j => decide (j = b)).length = 1 := by
  induction n with
  | zero => omega
  | succ n ih =>
    rw [List.range_succ, List.filter_append, List.length_append]
    by_cases e : b = n
    · subst e
      have : ((List.range b).filter fun j => decide (j = b)) = [] := List.filter_eq_nil_iff.2 fun j hj => by have := List.mem_range.1 hj; simp; omega
      rw [this]; simp
    · rw [ih (by omega)]; simp; omega
theorem filt_or {α : Type} {p q : α → Bool} : ∀ (l : List α), (∀ x ∈ l, ¬ (p x = true ∧ q x = true)) → (l.filter fun x => p x || q x).length = (l.filter p).length + (l.filter q).length
  | [], _ => by simp
  | x :: l, h => by
    have ih := filt_or l fun y hy => h y (List.mem_cons_of_mem _ hy)
    have hx := h x List.mem_cons_self
    rw [List.filter_cons, List.filter_cons, List.filter_cons]
    cases hp : p x <;> cases hq : q x <;> simp_all <;> omega
/-- j comes ahead of k. -/
def bef (r : Nat → Int) (j k : Nat) : Prop := r k < r j ∨ r j = r k ∧ j < k
instance (r : Nat → Int) (j k : Nat) : Decidable (bef r j k) := by unfold bef; infer_instance
theorem rankR_eq (r : Nat → Int) (n k : Nat) : rankR r n k = ((List.range n).filter fun j => decide (bef r j k)).length := rfl
theorem bef_total {r : Nat → Int} {j k : Nat} (h : j ≠ k) : bef r j k ∨ bef r k j := by unfold bef; omega
theorem bef_lt {r : Nat → Int} {n j k : Nat} (hj : j < n) (h : bef r j k) : rankR r n j < rankR r n k := by
  rw [rankR_eq, rankR_eq]
  refine filt_lt (a := j) (by simp [bef]) (by simpa using h) _ (List.mem_range.2 hj) fun x _ hx => ?_
  simp only [decide_eq_true_eq] at hx ⊢
  unfold bef at *; omega
theorem rank_lt_bef {r : Nat → Int} {n j k : Nat} (hk : k < n) (h : rankR r n j < rankR r n k) : bef r j k := by
  rcases (bef_total (r := r) (j := j) (k := k) fun e => by subst e; omega) with q | q
  · exact q
  · have := bef_lt hk q; omega
theorem rank_inj {r : Nat → Int} {n j k : Nat} (hj : j < n) (hk : k < n) (h : rankR r n j = rankR r n k) : j = k := by
  by_cases e : j = k
  · exact e
  · rcases bef_total (r := r) e with q | q
    · have := bef_lt hj q; omega
    · have := bef_lt hk q; omega
/-- The first of the greatest. -/
structure FirstMax (g : Nat → Int) (n b : Nat) : Prop where
  lt : b < n
  le : ∀ j, j < n → g j ≤ g b
  first : ∀ j, j < b → g j < g b
/-- The rests where c have been taken. -/
def restC (r : Nat → Int) (n c k : Nat) : Int := if rankR r n k < c then -1 else r k
def outC (q r : Nat → Int) (n c k : Nat) : Int := q k + if rankR r n k < c then 1 else 0
def taken (r : Nat → Int) (n c : Nat) : Nat := ((List.range n).filter fun j => decide (rankR r n j < c)).length
theorem taken_zero (r : Nat → Int) (n : Nat) : taken r n 0 = 0 := by
  unfold taken
  rw [List.filter_eq_nil_iff.2 (fun j _ => by simp)]; rfl
/-- The one that is taken next. -/
theorem take_next {r : Nat → Int} {n c b : Nat} (hr : ∀ k, k < n → 0 ≤ r k) (hc : c < n) (ht : taken r n c = c) (hb : FirstMax (restC r n c) n b) : rankR r n b = c ∧ taken r n (c + 1) = c + 1 := by
  have hex : ∃ u, u < n ∧ ¬ rankR r n u < c := Classical.byContradiction fun hn => by
    have : taken r n c = n := by
      unfold taken
      rw [List.filter_eq_self.2 (fun j hj => by
        simp only [decide_eq_true_eq]
        exact Classical.byContradiction fun q => hn ⟨j, List.mem_range.1 hj, q⟩)]
      simp
    omega
  obtain ⟨u, hu, hu2⟩ := hex
  have hbn : ¬ rankR r n b < c := fun q => by
    have := hb.le u hu
    unfold restC at this
    rw [if_neg hu2, if_pos q] at this
    have := hr u hu
    omega
  have hrb : rankR r n b = c := by
    rw [← ht, rankR_eq]
    unfold taken
    congr 1
    refine List.filter_congr fun j hj => ?_
    have hj := List.mem_range.1 hj
    rw [decide_eq_decide]
    constructor
    · intro hbe
      refine Classical.byContradiction fun q => ?_
      have h1 := hb.le j hj
      unfold restC at h1
      rw [if_neg q, if_neg hbn] at h1
      rcases hbe with h2 | ⟨h2, h3⟩
      · omega
      · have h4 := hb.first j h3
        unfold restC at h4
        rw [if_neg q, if_neg hbn] at h4
        omega
    · intro q
      exact rank_lt_bef (r := r) (n := n) hb.lt (by omega)
  refine ⟨hrb, ?_⟩
  have : taken r n (c + 1) = ((List.range n).filter fun j => decide (rankR r n j < c) || decide (j = b)).length := by
    unfold taken
    congr 1
    refine List.filter_congr fun j hj => ?_
    have hj := List.mem_range.1 hj
    have : (rankR r n j < c + 1) ↔ (rankR r n j < c ∨ j = b) := by
      constructor
      · intro q
        by_cases e : rankR r n j < c
        · exact .inl e
        · exact .inr (rank_inj (r := r) (n := n) hj hb.lt (by omega))
      · rintro (q | q)
        · omega
        · subst q; omega
    by_cases e : rankR r n j < c
    · simp [e]; omega
    · by_cases e2 : j = b
      · simp [e2, hrb]
      · have : ¬ rankR r n j < c + 1 := fun q => by rcases this.1 q with q | q <;> omega
        simp [e2, e, this]
  rw [this, filt_or _ (fun j hj ⟨h1, h2⟩ => by
    simp only [decide_eq_true_eq] at h1 h2
    subst h2; omega), filt_one hb.lt]
  show taken r n c + 1 = c + 1
  rw [ht]
theorem restC_next {r : Nat → Int} {n c b : Nat} (hb : b < n) (h : rankR r n b = c) (k : Nat) (hk : k < n) : restC r n (c + 1) k = if k = b then -1 else restC r n c k := by
  unfold restC
  by_cases e : k = b
  · subst e; rw [if_pos (by omega), if_pos rfl]
  · rw [if_neg e]
    by_cases q : rankR r n k < c
    · rw [if_pos q, if_pos (by omega)]
    · have : rankR r n k ≠ c := fun e2 => e (rank_inj (r := r) (n := n) hk hb (by omega))
      rw [if_neg q, if_neg (by omega)]
theorem outC_next {q r : Nat → Int} {n c b : Nat} (hb : b < n) (h : rankR r n b = c) (k : Nat) (hk : k < n) : outC q r n (c + 1) k = if k = b then outC q r n c b + 1 else outC q r n c k := by
  unfold outC
  by_cases e : k = b
  · subst e; rw [if_pos (by omega), if_pos rfl, if_neg (by omega)]; omega
  · rw [if_neg e]
    by_cases p : rankR r n k < c
    · rw [if_pos p, if_pos (by omega)]
    · have : rankR r n k ≠ c := fun e2 => e (rank_inj (r := r) (n := n) hk hb (by omega))
      rw [if_neg p, if_neg (by omega)]
/-- At the end stand the shares. -/
theorem share_end {t : Int} {l : List Int} {lf : Nat} (hS : sumI l ≠ 0) (hlf : t - sumI (l.map fun x => t * x / sumI l) = (lf : Int)) (k : Nat) (hk : k < l.length) :
    outC (fun k => t * l.getD k 0 / sumI l) (fun k => t * l.getD k 0 % sumI l) l.length lf k = shareF t l k := by
  unfold outC shareF
  rw [if_neg hS, hlf]
  congr 1
  by_cases e : rankR (fun k => t * l.getD k 0 % sumI l) l.length k < lf
  · rw [if_pos e, if_pos (by omega)]
  · rw [if_neg e, if_neg (by omega)]
end Go.Proofs.Ytjhelinbjlahiaa
namespace Go.Proofs.Ytjhelinbjlahiaa
set_option linter.unusedSimpArgs false
set_option linter.unusedVariables false
open Go.RowKit
attribute [local go_sem] Oper.semAt_some
attribute [local go_sem ↓] Go.wp_at_zero Go.wp_at_succ
theorem muldiv_int {t x S : Int} (ht : 0 ≤ t ∧ t ≤ S) (hx : 0 ≤ x ∧ x ≤ 1000000000) (hS : 0 < S ∧ S ≤ 5000000000000) (w : World) :
    Calls Try.prog 61 #[.int .i64 t, .int .i64 x, .int .i64 S] w fun e w' => e = .returned (.tuple #[.int .i64 (t * x / S), .int .i64 (t * x % S)]) ∧ w' = w := by
  have h := muldiv_calls t.toNat x.toNat S.toNat (by omega) (by omega) (by omega) (by omega) w
  rw [Int.natCast_ediv, Int.natCast_emod, Int.natCast_mul, Int.toNat_of_nonneg (show 0 ≤ t by omega), Int.toNat_of_nonneg (show 0 ≤ x by omega), Int.toNat_of_nonneg (show 0 ≤ S by omega)] at h
  exact h
theorem RowL.congr' {w : World} {g n : Nat} {f f' : Nat → Int} (h : RowL w g n f) (e : ∀ i, i < n → f' i = f i) : RowL w g n f' := by
  obtain ⟨cs, hc, hs, hz⟩ := h
  exact ⟨cs, hc, hs, fun i hi => by rw [e i hi]; exact hz i hi⟩
/-- The rows of Share. -/
structure ShS (w0 : World) (gq gr n : Nat) (q r : Nat → Int) (w : World) : Prop where
  out : RowL w gq n q
  rst : RowL w gr n r
  below : Below w0.heap.size w0 w
  ne : gq ≠ gr
  low : w0.heap.size ≤ gq
  low2 : w0.heap.size ≤ gr
theorem ShS.drew {w0 : World} {gq gr n : Nat} {q r : Nat → Int} {w : World} (h : ShS w0 gq gr n q r w) : ShS w0 gq gr n q r w.drew := ⟨h.out, h.rst, h.below.drew, h.ne, h.low, h.low2⟩
theorem ShS.setQ {w0 : World} {gq gr n : Nat} {q r : Nat → Int} {w : World} (h : ShS w0 gq gr n q r w) (i : Nat) (v : Int) : ShS w0 gq gr n (upd q i v) r (w.setCell ⟨gq, i, none⟩ (.int .i64 v)) :=
  ⟨h.out.set i v, h.rst.kept (set_kept _ _ _ _) (Ne.symm h.ne), h.below.trans ((set_kept _ _ _ _).below h.below.size (fun k hk => by have := h.low; omega)), h.ne, h.low, h.low2⟩
theorem ShS.setR {w0 : World} {gq gr n : Nat} {q r : Nat → Int} {w : World} (h : ShS w0 gq gr n q r w) (i : Nat) (v : Int) : ShS w0 gq gr n q (upd r i v) (w.setCell ⟨gr, i, none⟩ (.int .i64 v)) :=
  ⟨h.out.kept (set_kept _ _ _ _) h.ne, h.rst.set i v, h.below.trans ((set_kept _ _ _ _).below h.below.size (fun k hk => by have := h.low2; omega)), h.ne, h.low, h.low2⟩
theorem ShS.congr {w0 : World} {gq gr n : Nat} {q r q' r' : Nat → Int} {w : World} (h : ShS w0 gq gr n q r w) (h1 : ∀ k, k < n → q' k = q k) (h2 : ∀ k, k < n → r' k = r k) : ShS w0 gq gr n q' r' w :=
  ⟨h.out.congr' h1, h.rst.congr' h2, h.below, h.ne, h.low, h.low2⟩

set_option maxRecDepth 100000 in
set_option maxHeartbeats 8000000 in
theorem share_calls {w : World} {v : Value} {l : List Int} (hv : ReadsE encI 1 w v l) (hl : l.length ≤ 4096) (hok : wOk l) {t : Int} (ht : 0 ≤ t ∧ t ≤ sumI l) :
    Calls Try.prog 44 #[.int .i64 t, v] w fun e w' => ∃ v', e = .returned v' ∧ RowI w.heap.size w' v' (splitL t l) ∧ Below w.heap.size w w' := by
  obtain ⟨hm, p, cap, bb, off, rfl, hp, hc⟩ := hv
  obtain ⟨n, hn⟩ : ∃ n, n = l.length := ⟨_, rfl⟩
  rw [← hn] at hp hm hl ⊢
  have HN := hid hn
  have HP := hid hp
  have HC := hid hc
  have HOK := hid hok
  have HT := hid ht
  obtain ⟨R, hR⟩ : ∃ R : Ending → World → Prop, R = fun e w' => ∃ v', e = .returned v' ∧ RowI w.heap.size w' v' (splitL t l) ∧ Below w.heap.size w w' := ⟨_, rfl⟩
  have FN := hid (show ∀ v' w', RowI w.heap.size w' v' (splitL t l) → Below w.heap.size w w' → R (.returned v') w' from fun v' w' h1 h2 => by rw [hR]; exact ⟨v', rfl, h1, h2⟩)
  rw [← hR]
  have hn0 : (0 : Int) ≤ (n : Int) := by omega
  clear hR hn hp hc hok ht
  go_enter Try.func44, Try.ntmps44
  go_upto_region 3 with fail
  go_loopg [5, 6] n (fun k s5 s6 wr => ∃ i : Nat, i + k = n ∧ s6 = .int .i64 i ∧ s5 = .int .i64 (sumI (l.take i)) ∧ wr = w)
  case atStart => exact ⟨0, by omega, rfl, rfl, rfl⟩
  case round =>
    obtain ⟨i, hik, rfl, rfl, rfl⟩ := hrel
    have HIK := hid hik
    clear hik
    by_cases hin : i < n
    · have hil : i < l.length := by rw [← HN.out]; exact hin
      obtain ⟨rfl, hbb⟩ := HP.out (by omega)
      have c0 := HC.out i hil 0 (by omega)
      simp [encI] at c0
      obtain ⟨x, hx⟩ : ∃ x, x = l[i] := ⟨_, rfl⟩
      rw [← hx] at c0
      have gi : (i : Int) < (n : Int) := by omega
      have gi0 : (0 : Int) ≤ (i : Int) := by omega
      have hxb := HOK.out x (by rw [hx]; exact List.getElem_mem _)
      have hsb : 0 ≤ sumI (l.take i) ∧ sumI (l.take i) ≤ 5000000000000 := by
        have := sumI_bound (l := l.take i) (fun y hy => HOK.out y (List.mem_of_mem_take hy))
        rw [List.length_take] at this
        omega
      have SN := hid (show sumI (l.take (i + 1)) = sumI (l.take i) + x by rw [take_snoc hil, sumI_snoc, ← hx])
      obtain ⟨a, ha⟩ : ∃ a, a = sumI (l.take i) := ⟨_, rfl⟩
      rw [← ha] at hsb SN ⊢
      have ew : IntKind.i64.wrap (a + x) = a + x := IntWalk.i64_in _ (by omega)
      clear hx ha
      go_wp2
      go_roundg (n - (i + 1))
      · exact ⟨i + 1, by omega, by go_num, by rw [SN.out], rfl⟩
      · have := HIK.out; omega
    · have hin' : i = n := by have := HIK.out; omega
      subst hin'
      have g1 : decide ((i : Int) < (i : Int)) = false := by simp
      have hlt : l.take i = l := by rw [HN.out, List.take_length]
      rw [hlt]
      have hmk := mk_i64 wr i (by omega)
      have hsb := sumI_bound (l := l) HOK.out
      have HT2 := HT.out
      have LB := hid (fun h => left_bound (t := t) (l := l) h)
      have SE := hid (fun (h : sumI l ≠ 0) (lf : Nat) hlf (k : Nat) (hk : k < l.length) => share_end (t := t) (lf := lf) h hlf k hk)
      have SZ := hid (fun h => splitL_zero (t := t) (l := l) h)
      obtain ⟨S, hS⟩ : ∃ S, S = sumI l := ⟨_, rfl⟩
      rw [← hS] at hsb HT2 LB SE SZ ⊢
      have hS6 : S ≤ 4096000000000 := by have := HN.out; omega
      clear hS hlt HT
      by_cases hS0 : S = 0
      · have e1 : (S == 0) = true := by simpa using hS0
        have F := hid (FN.out (.slice (some ⟨wr.heap.size, 0, none⟩) i i) (wr.alloc (.cells (madeCells #[.int .i64 0] i) 2)) (by
          rw [SZ.out hS0, ← HN.out]
          exact (RowL.made wr i).own (by simp) (fun k hk => by simp) (Nat.le_refl _) (by unfold maxLen; omega)) ((Below.refl _ _).alloc (Nat.le_refl _) _))
        clear hS0
        go_wp2
        first | exact F.out | (go_ret; exact F.out)
      · have e1 : (S == 0) = false := by simpa using hS0
        have hmk2 := mk_i64 (wr.alloc (.cells (madeCells #[.int .i64 0] i) 2)) i (by omega)
        have S0 := hid (show ShS wr wr.heap.size (wr.heap.size + 1) i (fun _ => 0) (fun _ => 0) ((wr.alloc (.cells (madeCells #[.int .i64 0] i) 2)).alloc (.cells (madeCells #[.int .i64 0] i) 2)) by
          have a1 := RowL.made wr i
          have a2 := RowL.made (wr.alloc (.cells (madeCells #[.int .i64 0] i) 2)) i
          rw [World.size_alloc] at a2
          exact ⟨a1.kept ((Kept.refl (fun _ => False) _).alloc _) id, a2, ((Below.refl _ _).alloc (Nat.le_refl _) _).alloc (by simp) _, by omega, Nat.le_refl _, by omega⟩)
        have HS0 := hid hS0
        clear hS0
        obtain ⟨w0, rfl⟩ : ∃ w0 : World, w0 = wr := ⟨_, rfl⟩
        obtain ⟨gq, hgq⟩ : ∃ gq, gq = w0.heap.size := ⟨_, rfl⟩
        have HGQ := hid hgq
        go_upto_region 12 with fail
        rw [← hgq] at S0 ⊢
        clear hgq hmk hmk2
        go_loopg [9, 10] i (fun k s9 s10 wr => ∃ (j : Nat) (q r : Nat → Int), j + k = i ∧ s10 = .int .i64 j ∧ s9 = .int .i64 (t - sumI ((l.take j).map fun x => t * x / S)) ∧ ShS w0 gq (gq + 1) i q r wr ∧ ∀ (k : Nat) (hk : k < l.length), k < j → q k = t * l[k] / S ∧ r k = t * l[k] % S)
        case atStart => exact ⟨0, _, _, by omega, rfl, by simp [sumI], S0.out, fun k _ h => absurd h (Nat.not_lt_zero k)⟩
        case round =>
          obtain ⟨j, q, r, hjk, rfl, rfl, ss, hqr⟩ := hrel
          have HJK := hid hjk
          have SS := hid ss
          have HQR := hid hqr
          clear hjk ss hqr S0
          by_cases hjn : j < i
          · have hjl : j < l.length := by rw [← HN.out]; exact hjn
            obtain ⟨rfl, hbb⟩ := HP.out (by omega)
            have c0 := (SS.out.below.cell (p := ⟨bb, off + j * 1 + 0, none⟩) hbb).trans (HC.out j hjl 0 (by omega))
            simp [encI] at c0
            obtain ⟨x, hx⟩ : ∃ x, x = l[j] := ⟨_, rfl⟩
            rw [← hx] at c0
            have hxb := HOK.out x (by rw [hx]; exact List.getElem_mem _)
            have gj : (j : Int) < (i : Int) := by omega
            have gj0 : (0 : Int) ≤ (j : Int) := by omega
            have hSp : 0 < S := by have := HS0.out; omega
            have SN := hid (show sumI ((l.take (j + 1)).map fun x => t * x / S) = sumI ((l.take j).map fun x => t * x / S) + t * x / S by rw [take_snoc hjl, List.map_append, List.map_singleton, sumI_snoc, ← hx])
            have MD := hid (fun wx => muldiv_int (t := t) (x := x) (S := S) (by omega) hxb (by omega) wx)
            have hqb := quota_b (t := t) (x := x) (S := S) (by omega) hxb hSp
            have hrb : 0 ≤ t * x % S ∧ t * x % S < S := ⟨Int.emod_nonneg _ (by omega), Int.emod_lt_of_pos _ hSp⟩
            have NX := hid (show ∀ wx, ShS w0 gq (gq + 1) i q r wx → ∃ q' r', ShS w0 gq (gq + 1) i q' r' ((wx.setCell ⟨gq, j, none⟩ (.int .i64 (t * x / S))).setCell ⟨gq + 1, j, none⟩ (.int .i64 (t * x % S))) ∧ ∀ (k : Nat) (hk : k < l.length), k < j + 1 → q' k = t * l[k] / S ∧ r' k = t * l[k] % S from fun wx h => by
              refine ⟨_, _, (h.setQ j (t * x / S)).setR j (t * x % S), fun k hk hkj => ?_⟩
              unfold upd
              by_cases e : k = j
              · subst e; rw [if_pos rfl, if_pos rfl, hx]; exact ⟨rfl, rfl⟩
              · rw [if_neg e, if_neg e]; exact HQR.out k hk (by omega))
            have m1 := SS.out.out.cell hjn
            have m2 := SS.out.rst.cell hjn
            have f1 := SS.out.out.froz j
            have f2 := SS.out.rst.froz j
            have l1 := SS.out.out.lt
            have l2 := SS.out.rst.lt
            have hsmb : 0 ≤ sumI ((l.take j).map fun x => t * x / S) ∧ sumI ((l.take j).map fun x => t * x / S) ≤ 5000000000000 := by
              have := sumI_bound (l := (l.take j).map fun x => t * x / S) (fun y hy => by
                obtain ⟨x', hx', rfl⟩ := List.mem_map.1 hy
                exact quota_b (by omega) (HOK.out x' (List.mem_of_mem_take hx')) hSp)
              rw [List.length_map, List.length_take] at this
              omega
            obtain ⟨sm, hsm⟩ : ∃ sm, sm = sumI ((l.take j).map fun x => t * x / S) := ⟨_, rfl⟩
            rw [← hsm] at SN hsmb ⊢
            obtain ⟨Q, hQ⟩ : ∃ Q, Q = t * x / S := ⟨_, rfl⟩
            obtain ⟨U, hU⟩ : ∃ U, U = t * x % S := ⟨_, rfl⟩
            rw [← hQ] at SN MD hqb NX
            rw [← hU] at MD hrb NX
            obtain ⟨q0, hq0⟩ : ∃ q0, q0 = q j := ⟨_, rfl⟩
            obtain ⟨r0, hr0⟩ : ∃ r0, r0 = r j := ⟨_, rfl⟩
            rw [← hq0] at m1
            rw [← hr0] at m2
            have ew : IntKind.i64.wrap (t - sm - Q) = t - sm - Q := IntWalk.i64_in _ (by omega)
            have gne : gq ≠ gq + 1 := by omega
            obtain ⟨q', r', nx1, nx2⟩ := NX.out wr SS.out
            have NX1 := hid nx1
            have NX2 := hid nx2
            clear hsm hQ hU hq0 hr0 hx NX nx1 nx2
            go_wp2_with fail
            refine (MD.out _).mono ?_
            rintro e w3 ⟨rfl, hw3⟩
            subst hw3
            go_wp2
            go_roundg (i - (j + 1))
            · exact ⟨j + 1, q', r', by omega, by go_num, by rw [SN.out]; congr 1; omega, NX1.out, NX2.out⟩
            · have := HJK.out; omega
          · have hj' : j = i := by have := HJK.out; omega
            subst hj'
            have g2 : ¬ (j : Int) < (j : Int) := by omega
            have hlt : l.take j = l := by rw [HN.out, List.take_length]
            rw [hlt]
            obtain ⟨lb1, lb2⟩ := LB.out (by have := HS0.out; omega)
            obtain ⟨lf, hlf⟩ : ∃ lf : Nat, t - sumI (l.map fun x => t * x / S) = lf := ⟨(t - sumI (l.map fun x => t * x / S)).toNat, by omega⟩
            rw [hlf] at lb2 ⊢
            have hlfj : lf ≤ j := by have := HN.out; omega
            have SX := hid (SE.out HS0.out lf hlf)
            have SX0 := SX
            rw [← HN.out] at SX
            clear SX0
            have gd : ∀ k, k < j → (fun k => t * l.getD k 0 / S) k = q k ∧ (fun k => t * l.getD k 0 % S) k = r k := fun k hk => by
              have hkl : k < l.length := by rw [← HN.out]; exact hk
              obtain ⟨h1, h2⟩ := HQR.out k hkl hk
              simp only
              rw [h1, h2]; simp [hkl]
            have hr0 : ∀ k, k < j → 0 ≤ (fun k => t * l.getD k 0 % S) k := fun k hk => Int.emod_nonneg _ (by have := HS0.out; omega)
            have hqb : ∀ k, k < j → 0 ≤ (fun k => t * l.getD k 0 / S) k ∧ (fun k => t * l.getD k 0 / S) k ≤ 1000000000 := fun k hk => by
              have hkl : k < l.length := by rw [← HN.out]; exact hk
              have e : l.getD k 0 = l[k] := by simp [hkl]
              simp only [e]
              exact quota_b (by omega) (HOK.out _ (List.getElem_mem hkl)) (by have := HS0.out; omega)
            have S2 := SS.out.congr (fun k hk => (gd k hk).1) (fun k hk => (gd k hk).2)
            obtain ⟨qq, hqq⟩ : ∃ qq : Nat → Int, qq = fun k => t * l.getD k 0 / S := ⟨_, rfl⟩
            obtain ⟨rr, hrr⟩ : ∃ rr : Nat → Int, rr = fun k => t * l.getD k 0 % S := ⟨_, rfl⟩
            rw [← hqq] at SX hqb S2
            rw [← hrr] at SX hr0 S2
            have T0 := hid (show ShS w0 gq (gq + 1) j (outC qq rr j 0) (restC rr j 0) wr from S2.congr (fun k _ => by unfold outC; simp) (fun k _ => by unfold restC; simp))
            have HR0 := hid hr0
            have HQB := hid hqb
            have hlf0 : (0 : Int) ≤ (lf : Int) := by omega
            clear hqq hrr hlf gd hr0 hqb S2 hlt SE LB
            go_upto_region 18 with fail
            go_loopg [9] lf (fun k s9 wx => ∃ c : Nat, c + k = lf ∧ s9 = .int .i64 ((lf - c : Nat) : Int) ∧ taken rr j c = c ∧ ShS w0 gq (gq + 1) j (outC qq rr j c) (restC rr j c) wx)
            case atStart => exact ⟨0, by omega, rfl, taken_zero _ _, T0.out⟩
            case round =>
              obtain ⟨c, hck, rfl, htk, ss⟩ := hrel
              have HCK := hid hck
              have HTK := hid htk
              have SC := hid ss
              clear hck htk ss T0 SS
              by_cases hcl : c < lf
              · obtain ⟨d, hd⟩ : ∃ d, d = lf - c := ⟨_, rfl⟩
                have hd0 : (0 : Int) < (d : Int) := by omega
                have hd1 : 0 < d := by omega
                have hj0 : 0 < j := by omega
                have HD := hid hd
                rw [← hd]
                clear hd
                go_upto_region 22 with fail
                go_loopg [13, 14] (j - 1) (fun k s13 s14 wx => ∃ b m : Nat, m + k = j ∧ s13 = .int .i64 b ∧ s14 = .int .i64 m ∧ b < m ∧ (∀ y, y < m → restC rr j c y ≤ restC rr j c b) ∧ (∀ y, y < b → restC rr j c y < restC rr j c b) ∧ ShS w0 gq (gq + 1) j (outC qq rr j c) (restC rr j c) wx)
                case atStart => exact ⟨0, 1, by omega, rfl, rfl, by omega, fun y hy => by rw [show y = 0 by omega]; exact Int.le_refl _, fun y hy => absurd hy (Nat.not_lt_zero y), SC.out⟩
                case round =>
                  obtain ⟨b, m, hmk, rfl, rfl, hbm, hle, hfi, ss⟩ := hrel
                  have HMK := hid hmk
                  have HLE := hid hle
                  have HFI := hid hfi
                  have SM := hid ss
                  clear hmk hle hfi ss SC
                  by_cases hmj : m < j
                  · have gm : (m : Int) < (j : Int) := by omega
                    have gm0 : (0 : Int) ≤ (m : Int) := by omega
                    have gb : (b : Int) < (j : Int) := by omega
                    have gb0 : (0 : Int) ≤ (b : Int) := by omega
                    have c1 := SM.out.rst.cell hmj
                    have c2 := SM.out.rst.cell (i := b) (by omega)
                    have l1 := SM.out.rst.lt
                    have LE1 := hid (show ∀ b', (∀ y, y < m → restC rr j c y ≤ restC rr j c b') → restC rr j c m ≤ restC rr j c b' → ∀ y, y < m + 1 → restC rr j c y ≤ restC rr j c b' from fun b' h1 h2 y hy => by
                      by_cases e : y = m
                      · rw [e]; exact h2
                      · exact h1 y (by omega))
                    obtain ⟨x, hx⟩ : ∃ x, x = restC rr j c m := ⟨_, rfl⟩
                    obtain ⟨z, hz⟩ : ∃ z, z = restC rr j c b := ⟨_, rfl⟩
                    rw [← hx] at c1
                    rw [← hz] at c2
                    have HX := hid hx
                    have HZ := hid hz
                    clear hx hz
                    by_cases hgt : z < x
                    · have N1 := hid (LE1.out m (fun y hy => by have := HLE.out y hy; rw [← HZ.out] at this; rw [← HX.out]; omega) (Int.le_refl _))
                      have N2 := hid (show ∀ y, y < m → restC rr j c y < restC rr j c m from fun y hy => by have := HLE.out y hy; rw [← HZ.out] at this; rw [← HX.out]; omega)
                      go_upto_region 24 with fail
                      go_region
                      all_goals go_wp2
                      all_goals (
                        go_roundg (j - (m + 1))
                        · exact ⟨m, m + 1, by omega, rfl, by go_num, by omega, N1.out, N2.out, SM.out.drew⟩
                        · have := HMK.out; omega)
                    · have N1 := hid (LE1.out b HLE.out (by rw [← HX.out, ← HZ.out]; omega))
                      go_upto_region 24 with fail
                      go_region
                      all_goals go_wp2
                      all_goals (
                        go_roundg (j - (m + 1))
                        · exact ⟨b, m + 1, by omega, rfl, by go_num, by omega, N1.out, HFI.out, SM.out.drew⟩
                        · have := HMK.out; omega)
                  · have hmj2 : m = j := by have := HMK.out; omega
                    subst hmj2
                    have g5 : ¬ (m : Int) < (m : Int) := by omega
                    have gb : (b : Int) < (m : Int) := by omega
                    have gb0 : (0 : Int) ≤ (b : Int) := by omega
                    obtain ⟨hrk, htn⟩ := take_next HR0.out (show c < m by omega) HTK.out ⟨hbm, HLE.out, HFI.out⟩
                    have S9 := (SM.out.setQ b (outC qq rr m c b + 1)).setR b (-1)
                    have S10 := hid (S9.congr (q' := outC qq rr m (c + 1)) (r' := restC rr m (c + 1)) (fun k hk => by unfold upd; exact outC_next hbm hrk k hk) (fun k hk => by unfold upd; exact restC_next hbm hrk k hk))
                    have HTN := hid htn
                    have c1 := SM.out.out.cell hbm
                    have c2 := SM.out.rst.cell hbm
                    have f1 := SM.out.out.froz b
                    have f2 := SM.out.rst.froz b
                    have l1 := SM.out.out.lt
                    have l2 := SM.out.rst.lt
                    have gne : gq ≠ gq + 1 := by omega
                    have hob : -5 ≤ outC qq rr m c b ∧ outC qq rr m c b ≤ 2000000000 := by
                      have := HQB.out b hbm
                      unfold outC; split <;> omega
                    obtain ⟨o, ho⟩ : ∃ o, o = outC qq rr m c b := ⟨_, rfl⟩
                    obtain ⟨z, hz⟩ : ∃ z, z = restC rr m c b := ⟨_, rfl⟩
                    rw [← ho] at c1 hob S10
                    rw [← hz] at c2
                    have ew : IntKind.i64.wrap (o + 1) = o + 1 := IntWalk.i64_in _ (by omega)
                    have ed : IntKind.i64.wrap ((d : Int) - 1) = ((lf - (c + 1) : Nat) : Int) := by
                      rw [show (d : Int) - 1 = ((lf - (c + 1) : Nat) : Int) by have := HD.out; omega]; exact IntWalk.i64_in _ (by have := HN.out; omega)
                    obtain ⟨d2, hd2⟩ : ∃ d2, d2 = lf - (c + 1) := ⟨_, rfl⟩
                    rw [← hd2] at ed
                    have HD2 := hid hd2
                    clear ho hz S9 hrk htn hd2
                    go_wp2
                    go_roundg (lf - (c + 1))
                    · exact ⟨c + 1, by omega, by rw [HD2.out], HTN.out, S10.out⟩
                    · have := HCK.out; omega
              · have hcl2 : c = lf := by have := HCK.out; omega
                have hz0 : lf - c = 0 := by omega
                rw [hz0]
                have g5 : ¬ (0 : Int) < ((0 : Nat) : Int) := by omega
                have F := hid (FN.out (.slice (some ⟨gq, 0, none⟩) j j) wr (by
                  refine SC.out.out.own (by rw [splitL_len]; exact HN.out.symm) (fun k hk => ?_) SC.out.low (by unfold maxLen; omega)
                  rw [splitL_len] at hk
                  rw [splitL_get, hcl2]
                  exact SX.out k (by rw [HN.out]; exact hk)) SC.out.below)
                clear hcl hcl2 hz0
                go_wp2
                first | exact F.out | (go_ret; exact F.out)
end Go.Proofs.Ytjhelinbjlahiaa
namespace Go.Proofs.Ytjhelinbjlahiaa
set_option linter.unusedSimpArgs false
set_option linter.unusedVariables false
open Go.RowKit
attribute [local go_sem] Oper.semAt_some
attribute [local go_sem ↓] Go.wp_at_zero Go.wp_at_succ

set_option maxRecDepth 100000 in
set_option maxHeartbeats 4000000 in
theorem rsplit_calls {w : World} {v : Value} {l : List Int} (hv : ReadsE encI 1 w v l) (t : Int) :
    Calls Try.prog 28 #[.int .i64 t, v] w fun e w' => SplP w.heap.size (splF t l) e w' ∧ Below w.heap.size w w' := by
  obtain ⟨R, hR⟩ : ∃ R : Ending → World → Prop, R = fun e w' => SplP w.heap.size (splF t l) e w' ∧ Below w.heap.size w w' := ⟨_, rfl⟩
  rw [← hR]
  have FM := hid (show ∀ (r : List Int × Int) (vf : Value) w', splF t l = r → RowI w.heap.size w' vf r.1 → Below w.heap.size w w' → R (.returned (.tuple #[vf, .int .i64 r.2])) w' from fun r vf w' h1 h2 h3 => by rw [hR, h1]; exact ⟨⟨vf, rfl, h2⟩, h3⟩)
  clear hR
  have HV := hid hv
  obtain ⟨hm, p, cap, bb, off, rfl, hp, hc⟩ := hv
  unfold splF at FM
  obtain ⟨n, hn⟩ : ∃ n, n = l.length := ⟨_, rfl⟩
  rw [← hn] at hp hm FM HV ⊢
  have HN := hid hn
  have HP := hid hp
  have HC := hid hc
  have hn0 : (0 : Int) ≤ (n : Int) := by omega
  by_cases hbig : 4096 < n
  · rw [if_pos hbig] at FM
    have g1 : (4096 : Int) < (n : Int) := by omega
    have FN := hid (FM.out _ (.slice none 0 0) w rfl (OwnE.nil _ _) (Below.refl _ _))
    clear hn hp hc hbig FM
    go_enter Try.func28, Try.ntmps28
    go_wp2
    first | exact FN.out | exact bodyPost_ret (by simp [results, Try.results28, go_sem]) rfl FN.out
  · rw [if_neg hbig] at FM
    have g1 : ¬ (4096 : Int) < (n : Int) := by omega
    have BAD := hid (show ∀ i (hi : i < l.length), ¬ (0 ≤ l[i] ∧ l[i] ≤ 1000000000) → R (.returned (.tuple #[.slice none 0 0, .int .i64 1])) w from fun i hi h => by
      exact FM.out _ _ w (if_neg fun q => h (q _ (List.getElem_mem hi))) (OwnE.nil _ _) (Below.refl _ _))
    have GOOD := hid (show wOk l → ∀ (r : List Int × Int) (vf : Value) w', (if 0 ≤ t ∧ t ≤ sumI l then (splitL t l, 0) else ([], 1)) = r → RowI w.heap.size w' vf r.1 → Below w.heap.size w w' → R (.returned (.tuple #[vf, .int .i64 r.2])) w' from fun q r vf w' h1 h2 h3 => FM.out r vf w' (by rw [if_pos q]; exact h1) h2 h3)
    clear hn hp hc hbig FM
    go_enter Try.func28, Try.ntmps28
    go_upto_region 5 with fail
    go_loopg [6, 7] n (fun k s6 s7 wr => ∃ i : Nat, i + k = n ∧ s7 = .int .i64 i ∧ s6 = .int .i64 (sumI (l.take i)) ∧ wOk (l.take i) ∧ wr = w)
    case atStart => exact ⟨0, by omega, rfl, rfl, by intro x hx; simp at hx, rfl⟩
    case round =>
      obtain ⟨i, hik, rfl, rfl, hok, rfl⟩ := hrel
      have HIK := hid hik
      have HOK := hid hok
      have hsb := sumI_bound hok
      rw [List.length_take] at hsb
      clear hik hok
      by_cases hin : i < n
      · have hil : i < l.length := by rw [← HN.out]; exact hin
        obtain ⟨rfl, hbb⟩ := HP.out (by omega)
        have c0 := HC.out i hil 0 (by omega)
        simp [encI] at c0
        obtain ⟨x, hx⟩ : ∃ x, x = l[i] := ⟨_, rfl⟩
        rw [← hx] at c0
        have gi : (i : Int) < (n : Int) := by omega
        have gi0 : (0 : Int) ≤ (i : Int) := by omega
        have BX := hid (BAD.out i hil)
        rw [← hx] at BX
        have SN := hid (show sumI (l.take (i + 1)) = sumI (l.take i) + x by rw [take_snoc hil, sumI_snoc, ← hx])
        have ON := hid (show 0 ≤ x ∧ x ≤ 1000000000 → wOk (l.take (i + 1)) from fun h y hy => by
          rw [take_snoc hil, ← hx] at hy
          rcases List.mem_append.1 hy with q | q
          · exact HOK.out y q
          · rw [List.mem_singleton.1 q]; exact h)
        obtain ⟨a, ha⟩ : ∃ a, a = sumI (l.take i) := ⟨_, rfl⟩
        rw [← ha] at SN hsb ⊢
        clear hx ha
        by_cases h1 : x < 0
        · have FN := hid (BX.out (by omega))
          clear BX ON
          go_wp2
          first | exact FN.out | exact bodyPost_ret (by simp [results, Try.results28, go_sem]) rfl FN.out
        · by_cases h2 : 1000000000 < x
          · have FN := hid (BX.out (by omega))
            clear BX ON
            go_wp2
            first | exact FN.out | exact bodyPost_ret (by simp [results, Try.results28, go_sem]) rfl FN.out
          · have ew : IntKind.i64.wrap (a + x) = a + x := IntWalk.i64_in _ (by omega)
            have O2 := hid (ON.out (by omega))
            clear BX ON
            go_wp2
            go_roundg (n - (i + 1))
            · exact ⟨i + 1, by omega, by go_num, by rw [SN.out], O2.out, rfl⟩
            · have := HIK.out; omega
      · have hin' : i = n := by have := HIK.out; omega
        subst hin'
        have g2 : decide ((i : Int) < (i : Int)) = false := by simp
        have hlt : l.take i = l := by rw [HN.out, List.take_length]
        have hok := HOK.out
        rw [hlt] at hok hsb ⊢
        have GD := hid (GOOD.out hok)
        have SP := hid (fun h => share_calls HV.out (by rw [← HN.out]; omega) hok (t := t) h)
        obtain ⟨S, hS⟩ : ∃ S, S = sumI l := ⟨_, rfl⟩
        rw [← hS] at GD SP hsb ⊢
        clear hlt hS hok
        by_cases ht : 0 ≤ t ∧ t ≤ S
        · rw [if_pos ht] at GD
          have S2 := hid (SP.out ht)
          have t1 : ¬ t < 0 := by omega
          have t2 : ¬ S < t := by omega
          clear ht SP
          go_wp2_with fail
          refine S2.out.mono ?_
          rintro e w5 ⟨v5, rfl, hr5, hb5⟩
          have FN := hid (GD.out _ v5 w5 rfl hr5 hb5)
          clear hr5 hb5
          go_wp2
          first | exact FN.out | exact bodyPost_ret (by simp [results, Try.results28, go_sem]) rfl FN.out
        · rw [if_neg ht] at GD
          have FN := hid (GD.out _ (.slice none 0 0) wr rfl (OwnE.nil _ _) (Below.refl _ _))
          clear SP
          by_cases t1 : t < 0
          · clear ht
            go_wp2
            first | exact FN.out | exact bodyPost_ret (by simp [results, Try.results28, go_sem]) rfl FN.out
          · have t2 : S < t := by omega
            clear ht
            go_wp2
            first | exact FN.out | exact bodyPost_ret (by simp [results, Try.results28, go_sem]) rfl FN.out
end Go.Proofs.Ytjhelinbjlahiaa
namespace Go.Proofs.Ytjhelinbjlahiaa
set_option linter.unusedSimpArgs false
set_option linter.unusedVariables false
open Go.RowKit
theorem first_max (g : Nat → Int) : ∀ n, 0 < n → ∃ b, FirstMax g n b
  | 0, h => absurd h (Nat.lt_irrefl 0)
  | 1, _ => ⟨0, Nat.one_pos, fun j hj => by rw [show j = 0 by omega]; exact Int.le_refl _, fun j hj => absurd hj (Nat.not_lt_zero j)⟩
  | n + 2, _ => by
    obtain ⟨b, hb⟩ := first_max g (n + 1) (by omega)
    by_cases h : g b < g (n + 1)
    · exact ⟨n + 1, by omega, fun j hj => by
        by_cases e : j = n + 1
        · rw [e]; exact Int.le_refl _
        · have := hb.le j (by omega); omega, fun j hj => by have := hb.le j (by omega); omega⟩
    · exact ⟨b, by have := hb.lt; omega, fun j hj => by
        by_cases e : j = n + 1
        · rw [e]; omega
        · exact hb.le j (by omega), hb.first⟩
theorem taken_eq {r : Nat → Int} {n : Nat} (hr : ∀ k, k < n → 0 ≤ r k) : ∀ c, c ≤ n → taken r n c = c
  | 0, _ => taken_zero r n
  | c + 1, h => by
    have ih := taken_eq hr c (by omega)
    obtain ⟨b, hb⟩ := first_max (restC r n c) n (by omega)
    exact (take_next hr (by omega) ih hb).2
theorem count_sum (p : Nat → Bool) (n : Nat) : sumI ((List.range n).map fun k => if p k then (1 : Int) else 0) = (((List.range n).filter p).length : Int) := by
  induction n with
  | zero => simp [sumI]
  | succ n ih =>
    rw [List.range_succ, List.map_append, List.map_singleton, sumI_snoc, ih, List.filter_append, List.length_append]
    cases hp : p n <;> simp [hp]
theorem sumI_add {α : Type} (f g : α → Int) (l : List α) : sumI (l.map fun x => f x + g x) = sumI (l.map f) + sumI (l.map g) := by
  induction l with
  | nil => rfl
  | cons x l ih => simp only [List.map_cons, sumI, ih]; omega
theorem range_get (f : Int → Int) (l : List Int) : (List.range l.length).map (fun k => f (l.getD k 0)) = l.map f := by
  apply List.ext_getElem
  · simp
  · intro i h1 h2
    simp at h1
    simp [h1]
section
variable {t : Int} {l : List Int}
theorem left_nat (hS : 0 < sumI l) : ∃ lf : Nat, t - sumI (l.map fun x => t * x / sumI l) = lf ∧ lf ≤ l.length := by
  obtain ⟨h1, h2⟩ := left_bound (t := t) hS
  exact ⟨(t - sumI (l.map fun x => t * x / sumI l)).toNat, by omega, by omega⟩
/-- They add up to the total. -/
theorem splitL_sum (hS : 0 < sumI l) : sumI (splitL t l) = t := by
  obtain ⟨lf, h1, h2⟩ := left_nat (t := t) hS
  have e : splitL t l = (List.range l.length).map fun k => t * l.getD k 0 / sumI l + if decide (rankR (fun j => t * l.getD j 0 % sumI l) l.length k < lf) then (1 : Int) else 0 := by
    unfold splitL
    refine List.map_congr_left fun k hk => ?_
    unfold shareF
    rw [if_neg (by omega), h1]
    congr 1
    by_cases q : rankR (fun j => t * l.getD j 0 % sumI l) l.length k < lf
    · rw [if_pos (by omega), if_pos (by simpa using q)]
    · rw [if_neg (by omega), if_neg (by simpa using q)]
  rw [e, sumI_add, range_get (fun x => t * x / sumI l) l, count_sum]
  have ht := taken_eq (r := fun j => t * l.getD j 0 % sumI l) (n := l.length) (fun k _ => Int.emod_nonneg _ (by omega)) lf h2
  unfold taken at ht
  rw [ht]
  omega
theorem pos_sum {S : Int} (hS : 0 < S) (g : Nat → Int) : ∀ n, (∀ k, k < n → 0 ≤ g k ∧ g k < S) → sumI ((List.range n).map g) ≤ (S - 1) * (((List.range n).filter fun k => decide (0 < g k)).length : Int)
  | 0, _ => by simp [sumI]
  | n + 1, h => by
    have ih := pos_sum hS g n fun k hk => h k (by omega)
    have hn := h n (by omega)
    rw [List.range_succ, List.map_append, List.map_singleton, sumI_snoc, List.filter_append, List.length_append]
    by_cases q : 0 < g n
    · have e : ([n].filter fun k => decide (0 < g k)) = [n] := by simp [q]
      rw [e]
      have : (S - 1) * ((((List.range n).filter fun k => decide (0 < g k)).length + [n].length : Nat) : Int) = (S - 1) * (((List.range n).filter fun k => decide (0 < g k)).length : Int) + (S - 1) := by
        simp [Int.mul_add]
      rw [this]; omega
    · have e : ([n].filter fun k => decide (0 < g k)) = [] := by simp [q]
      rw [e]
      simp only [List.length_nil, Nat.add_zero]
      omega
/-- Only a rest above 0 is rounded up. -/
theorem rank_pos (hS : 0 < sumI l) {k : Nat} (hk : k < l.length) (h : (rankR (fun j => t * l.getD j 0 % sumI l) l.length k : Int) < t - sumI (l.map fun x => t * x / sumI l)) : 0 < t * l.getD k 0 % sumI l := by
  obtain ⟨S, hSe⟩ : ∃ S, S = sumI l := ⟨_, rfl⟩
  have hql := quota_left (t := t) hS l
  rw [← hSe] at h hql hS ⊢
  refine Classical.byContradiction fun hn => ?_
  have hz : t * l.getD k 0 % S = 0 := by have := Int.emod_nonneg (t * l.getD k 0) (show S ≠ 0 by omega); omega
  have h1 : ((List.range l.length).filter fun j => decide (0 < t * l.getD j 0 % S)).length ≤ rankR (fun j => t * l.getD j 0 % S) l.length k := by
    rw [rankR_eq]
    refine filt_le _ fun j hj hp => ?_
    simp only [decide_eq_true_eq] at hp ⊢
    left
    show t * l.getD k 0 % S < t * l.getD j 0 % S
    rw [hz]; exact hp
  have h2 := pos_sum hS (fun j => t * l.getD j 0 % S) l.length (fun k _ => ⟨Int.emod_nonneg _ (by omega), Int.emod_lt_of_pos _ hS⟩)
  rw [range_get (fun x => t * x % S) l] at h2
  obtain ⟨P, hP⟩ : ∃ P : Nat, P = ((List.range l.length).filter fun j => decide (0 < t * l.getD j 0 % S)).length := ⟨_, rfl⟩
  obtain ⟨q, hq⟩ : ∃ q, q = sumI (l.map fun x => t * x / S) := ⟨_, rfl⟩
  obtain ⟨rr, hr⟩ : ∃ rr, rr = sumI (l.map fun x => t * x % S) := ⟨_, rfl⟩
  rw [← hP] at h1 h2
  rw [← hr] at h2 hql
  rw [← hq] at h hql
  have h3 : S * (t - q) = rr := by rw [Int.mul_sub, Int.mul_comm S t]; omega
  have h4 : (P : Int) + 1 ≤ t - q := by omega
  have h5 : S * ((P : Int) + 1) ≤ S * (t - q) := Int.mul_le_mul_of_nonneg_left h4 (by omega)
  rw [Int.mul_add] at h5
  rw [Int.sub_mul] at h2
  omega
/-- Each is at most its weight. -/
theorem share_le (ht : 0 ≤ t ∧ t ≤ sumI l) (hx : ∀ x ∈ l, 0 ≤ x) (hS : 0 < sumI l) {k : Nat} (hk : k < l.length) : 0 ≤ shareF t l k ∧ shareF t l k ≤ l.getD k 0 := by
  have hp := rank_pos (t := t) hS hk
  have hx0 : 0 ≤ l.getD k 0 := by
    have : l.getD k 0 = l[k] := by simp [hk]
    rw [this]; exact hx _ (List.getElem_mem hk)
  unfold shareF
  rw [if_neg (by omega)]
  obtain ⟨S, hSe⟩ : ∃ S, S = sumI l := ⟨_, rfl⟩
  rw [← hSe] at hp hS ht ⊢
  obtain ⟨x, hxe⟩ : ∃ x, x = l.getD k 0 := ⟨_, rfl⟩
  rw [← hxe] at hp hx0 ⊢
  have g1 : 0 ≤ t * x / S := Int.ediv_nonneg (Int.mul_nonneg ht.1 hx0) (by omega)
  have g2 : t * x / S ≤ x := Int.ediv_le_of_le_mul hS (by rw [Int.mul_comm x S]; exact Int.mul_le_mul_of_nonneg_right ht.2 hx0)
  split
  · rename_i h
    have h1 := hp h
    have h2 := Int.mul_ediv_add_emod (t * x) S
    have h3 : t * x ≤ S * x := Int.mul_le_mul_of_nonneg_right ht.2 hx0
    refine ⟨by omega, ?_⟩
    rcases (show t * x / S = x ∨ t * x / S < x by omega) with e | e
    · rw [e] at h2; omega
    · omega
  · omega
end
end Go.Proofs.Ytjhelinbjlahiaa
