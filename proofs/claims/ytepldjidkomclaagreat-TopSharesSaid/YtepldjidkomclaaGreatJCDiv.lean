/- math/bits.Div64. -/
import Derived.Test.YtepldjidkomclaaGreatJCTol
import Derived.Test.YtepldjidkomclaaGreatJCShelf
import Derived.Test.YtepldjidkomclaaGreatJCDiv0
namespace Go.Proofs.YtepldjidkomclaaGreat.Ca
set_option linter.unusedSimpArgs false
set_option linter.unusedVariables false
open Go.RowKit
theorem div64_end (N Y y T s : Nat) (q1 q0 u d1 d0 : Int) (hN : (N * 2 ^ s : Nat) = (u * 4294967296 + d1) * 4294967296 + d0) (hY : Y = y * 2 ^ s) (hy : 0 < y) (h1 : q1 = (u * 4294967296 + d1) / (Y : Int)) (hd0 : 0 ≤ d0) (hd : d0 < 4294967296)
    (h0 : q0 = (((u * 4294967296 + d1) - q1 * Y) * 4294967296 + d0) / (Y : Int)) (hu : 0 ≤ u) (hd1 : 0 ≤ d1) :
    q1 * 4294967296 + q0 = ((N / y : Nat) : Int) ∧ ((((u * 4294967296 + d1) - q1 * Y) * 4294967296 + d0) - q0 * Y) / 2 ^ s = ((N % y : Nat) : Int) := by
  have hp : 0 < 2 ^ s := Nat.two_pow_pos s
  have hYp : 0 < Y := by rw [hY]; exact Nat.mul_pos hy hp
  have m1 := Int.emod_add_mul_ediv (u * 4294967296 + d1) (Y : Int)
  have m0 := Int.emod_add_mul_ediv (((u * 4294967296 + d1) - q1 * Y) * 4294967296 + d0) (Y : Int)
  rw [← h1] at m1
  rw [← h0] at m0
  have n0 := Int.emod_nonneg (((u * 4294967296 + d1) - q1 * Y) * 4294967296 + d0) (by omega : (Y : Int) ≠ 0)
  have n1 := Int.emod_lt_of_pos (((u * 4294967296 + d1) - q1 * Y) * 4294967296 + d0) (by omega : (0 : Int) < (Y : Int))
  obtain ⟨R, hR⟩ : ∃ R, R = (((u * 4294967296 + d1) - q1 * Y) * 4294967296 + d0) % (Y : Int) := ⟨_, rfl⟩
  rw [← hR] at m0 n0 n1
  have c0 : (Y : Int) * q0 = q0 * Y := Int.mul_comm _ _
  -- N * 2^s = (q1 * B + q0) * Y + R
  have hN2 : ((N * 2 ^ s : Nat) : Int) = (q1 * 4294967296 + q0) * Y + R := by
    have hm : (q1 * 4294967296 + q0) * (Y : Int) = q1 * Y * 4294967296 + q0 * Y := by rw [Int.add_mul, Int.mul_right_comm]
    have c1 : (Y : Int) * q1 = q1 * Y := Int.mul_comm _ _
    rw [hN, hm]
    omega
  have hq : (q1 * 4294967296 + q0) = ((N * 2 ^ s / Y : Nat) : Int) := by
    obtain ⟨q, hq⟩ : ∃ q, q = q1 * 4294967296 + q0 := ⟨_, rfl⟩
    rw [← hq] at hN2 ⊢
    rw [Int.natCast_ediv, hN2, Int.add_comm, Int.add_mul_ediv_right _ _ (by omega), Int.ediv_eq_zero_of_lt n0 n1, Int.zero_add]
  have hr : R = ((N * 2 ^ s % Y : Nat) : Int) := by
    rw [Int.natCast_emod, hN2, Int.add_comm, Int.add_mul_emod_self_right]; exact (Int.emod_eq_of_lt n0 n1).symm
  refine ⟨by rw [hq, hY, Nat.mul_div_mul_right _ _ hp], ?_⟩
  have e : (((u * 4294967296 + d1) - q1 * Y) * 4294967296 + d0) - q0 * Y = R := by omega
  rw [e, hr, hY, Nat.mul_mod_mul_right, Int.natCast_mul, Int.natCast_pow]
  have hp2 : (0 : Int) < 2 ^ s := Int.pow_pos (by decide)
  exact Int.mul_ediv_cancel _ (Int.ne_of_gt hp2)
set_option maxRecDepth 100000 in
set_option maxHeartbeats 16000000 in
theorem div64_calls (hi lo y : Nat) (hy : hi < y) (hlo : lo < 18446744073709551616) (hyu : y < 18446744073709551616) (w : World) :
    Calls Tryz.prog 75 #[.int .u64 hi, .int .u64 lo, .int .u64 y] w fun e w' => e = .returned (.tuple #[.int .u64 ((hi * 18446744073709551616 + lo) / y : Nat), .int .u64 ((hi * 18446744073709551616 + lo) % y : Nat)]) ∧ ∃ k, w' = w.drewN k := by
  have y1 : 0 < y := by omega
  have b1 : ((y : Int) == 0) = false := by simp; omega
  have b2 : (y : Int) ≠ 0 := by omega
  have b3 : decide ((y : Int) ≤ (hi : Int)) = false := by simp; omega
  by_cases hz : hi = 0
  · subst hz
    have e1 := hid (show (0 * 18446744073709551616 + lo) / y = lo / y by rw [Nat.zero_mul, Nat.zero_add])
    have e2 := hid (show (0 * 18446744073709551616 + lo) % y = lo % y by rw [Nat.zero_mul, Nat.zero_add])
    have c1 : (lo : Int) / (y : Int) = ((lo / y : Nat) : Int) := (Int.natCast_ediv lo y).symm
    have c2 : (lo : Int) % (y : Int) = ((lo % y : Nat) : Int) := (Int.natCast_emod lo y).symm
    have t1 : (lo : Int).tdiv (y : Int) = ((lo / y : Nat) : Int) := by rw [Int.tdiv_eq_ediv_of_nonneg (by omega)]; exact c1
    have t2 : (lo : Int).tmod (y : Int) = ((lo % y : Nat) : Int) := by rw [Int.tmod_eq_emod_of_nonneg (by omega)]; exact c2
    have l1 : lo / y ≤ lo := Nat.div_le_self _ _
    have l2 : lo % y < y := Nat.mod_lt _ y1
    obtain ⟨a, ha⟩ : ∃ a, a = lo / y := ⟨_, rfl⟩
    obtain ⟨b, hb⟩ : ∃ b, b = lo % y := ⟨_, rfl⟩
    rw [← ha] at c1 t1 l1 e1
    rw [← hb] at c2 t2 l2 e2
    have k1 : IntKind.u64.wrap (a : Int) = (a : Int) := IntWalk.u64_in _ (by omega)
    have k2 : IntKind.u64.wrap (b : Int) = (b : Int) := IntWalk.u64_in _ (by omega)
    have z1 : decide ((y : Int) ≤ 0) = false := by simp; omega
    rw [e1.out, e2.out]
    clear l1 l2 ha hb
    go_enter Tryz.func75, Tryz.ntmps75
    go_wp2
    go_quiet (fail)
    go_wp2
    refine bodyPost_ret (v := .tuple #[.int .u64 (a : Int), .int .u64 (b : Int)]) (by simp [results, Tryz.results75, go_sem]) rfl ⟨rfl, _, rfl⟩
  · have b4 : ((hi : Int) == 0) = false := by simp; omega
    obtain ⟨n1, n2, n3, n4⟩ := norm_y y y1 hyu
    obtain ⟨s, hs⟩ : ∃ s, s = 64 - Lib.bitLen y := ⟨_, rfl⟩
    rw [← hs] at n2 n3 n4
    obtain ⟨Y, hY⟩ : ∃ Y, Y = y * 2 ^ s := ⟨_, rfl⟩
    rw [← hY] at n3 n4
    have hps : 0 < 2 ^ s := Nat.two_pow_pos s
    have hhi : hi * 2 ^ s < Y := by rw [hY]; exact Nat.mul_lt_mul_of_pos_right hy hps
    obtain ⟨u1, u2, u3⟩ := norm_u hi lo s n2 hlo (by omega)
    obtain ⟨X, hX⟩ : ∃ X, X = (hi * 18446744073709551616 + lo) * 2 ^ s := ⟨_, rfl⟩
    rw [← hX] at u1 u2
    have hXY : X < Y * 18446744073709551616 := by
      rw [hX, hY, Nat.mul_right_comm]
      exact Nat.mul_lt_mul_of_pos_right (by omega) hps
    obtain ⟨u, hu⟩ : ∃ u, u = X / 18446744073709551616 := ⟨_, rfl⟩
    obtain ⟨l, hl⟩ : ∃ l, l = X % 18446744073709551616 := ⟨_, rfl⟩
    have huY : u < Y := by rw [hu]; exact (Nat.div_lt_iff_lt_mul (by decide)).2 hXY
    have hl64 : l < 18446744073709551616 := by rw [hl]; exact Nat.mod_lt _ (by decide)
    have hXu : X = u * 18446744073709551616 + l := by rw [hu, hl, Nat.mul_comm]; exact (Nat.div_add_mod _ _).symm
    rw [← hu] at u1
    rw [← hl] at u2
    have f1 : IntKind.u64.wrap (64 - ((Lib.bitLen y : Nat) : Int)) = (s : Int) := by rw [IntWalk.u64_in _ (by omega)]; omega
    have f2 : min s 64 = s := by omega
    have f3 : IntKind.u64.wrap ((y : Int) * 2 ^ s) = (Y : Int) := by
      have : ((y : Int) * 2 ^ s) = (Y : Int) := by rw [hY]; simp
      rw [this]; exact IntWalk.u64_in _ (by omega)
    obtain ⟨m, hm⟩ : ∃ m, m = 64 - s := ⟨_, rfl⟩
    rw [← hm] at u1 u3
    obtain ⟨H2, hH2⟩ : ∃ H2, H2 = hi * 2 ^ s := ⟨_, rfl⟩
    obtain ⟨L2, hL2⟩ : ∃ L2, L2 = lo / 2 ^ m := ⟨_, rfl⟩
    rw [← hH2, ← hL2] at u1
    rw [← hL2] at u3
    rw [← hH2] at hhi
    have f4 : IntKind.u64.wrap (64 - (s : Int)) = (m : Int) := by rw [IntWalk.u64_in _ (by omega)]; omega
    have f5 : min m 64 = m := by omega
    have f6 : IntKind.u64.wrap ((hi : Int) * 2 ^ s) = (H2 : Int) := by
      have : ((hi : Int) * 2 ^ s) = (H2 : Int) := by rw [hH2]; simp
      rw [this]; exact IntWalk.u64_in _ (by omega)
    have f7 : (lo : Int) / 2 ^ m = (L2 : Int) := by rw [hL2]; simp
    have f8 : bits BinOp.or IntKind.u64 (H2 : Int) (L2 : Int) = (u : Int) := by rw [u64_or_nat _ _ (by omega) u3, u1]
    have f9 : IntKind.u64.wrap ((lo : Int) * 2 ^ s) = (l : Int) := by
      have : ((lo : Int) * 2 ^ s) = ((lo * 2 ^ s : Nat) : Int) := by simp
      rw [this, IntKind.wrap_u64, ← u2]; omega
    have a1 : bits BinOp.and IntKind.u64 (Y : Int) 4294967295 = (Y : Int) % 4294967296 := and_low32 _ (by omega) (by omega)
    have a2 : bits BinOp.and IntKind.u64 (l : Int) 4294967295 = (l : Int) % 4294967296 := and_low32 _ (by omega) (by omega)
    obtain ⟨A, hA⟩ : ∃ A, A = (Y : Int) / 4294967296 := ⟨_, rfl⟩
    obtain ⟨C, hC⟩ : ∃ C, C = (Y : Int) % 4294967296 := ⟨_, rfl⟩
    obtain ⟨d1, hd1⟩ : ∃ d1, d1 = (l : Int) / 4294967296 := ⟨_, rfl⟩
    obtain ⟨d0, hd0⟩ : ∃ d0, d0 = (l : Int) % 4294967296 := ⟨_, rfl⟩
    have D1 : Digit A C Y u d1 := ⟨by omega, by omega, by omega, by omega, by omega, by omega, by omega, by omega, by omega⟩
    have XL := hid (show ((hi * 18446744073709551616 + lo) * 2 ^ s : Nat) = ((u : Int) * 4294967296 + d1) * 4294967296 + d0 by rw [← hX]; omega)
    have YL := hid hY
    rw [← hC] at a1
    rw [← hd0] at a2
    have g1 : (Y : Int) / 4294967296 = A := hA.symm
    have g2 : (l : Int) / 4294967296 = d1 := hd1.symm
    have ax : A ≠ 0 := by have := D1.a0; omega
    have as0 : (A == 0) = false := by rw [beq_eq_false_iff_ne]; exact ax
    obtain ⟨s0, s1, s2, s3, s4, s5, s6, s7⟩ := D1.start
    have qb := D1.quo_bounds
    have d0b : 0 ≤ d0 ∧ d0 < 4294967296 := by omega
    obtain ⟨Q, hQ⟩ : ∃ Q, Q = ((u : Int) * 4294967296 + d1) / (Y : Int) := ⟨_, rfl⟩
    obtain ⟨g, hg⟩ : ∃ g, g = (u : Int) / A := ⟨_, rfl⟩
    rw [← hQ] at s1 qb
    rw [← hg] at s0 s1 s2 s3 s4 s5 s6 s7
    have t1 : (u : Int).tdiv A = g := by rw [Int.tdiv_eq_ediv_of_nonneg (by omega)]; exact hg.symm
    have t1' : (u : Int) / A = g := hg.symm
    have k1 : IntKind.u64.wrap g = g := IntWalk.u64_in _ (by omega)
    have k2 : IntKind.u64.wrap (g * A) = g * A := IntWalk.u64_in _ (by omega)
    have k3 : IntKind.u64.wrap ((u : Int) - g * A) = u - g * A := IntWalk.u64_in _ (by omega)
    have HD := hid D1
    have HQ := hid hQ
    have HS := hid (And.intro s0 (And.intro s1 (And.intro s2 (And.intro s3 (And.intro s4 s5)))))
    have yb : (Y : Int) ≤ 18446744073709551615 := by omega
    have d1b : 0 ≤ d1 ∧ d1 < 4294967296 := ⟨D1.d0, D1.d1⟩
    have ab := And.intro D1.a0 D1.a1
    clear hm hH2 hL2 hs hY hX hu hl hA hC hd1 hd0 D1 hQ hg hXY hXu u1 u2 u3 n1 n3 n4 hhi huY hl64 s0 s1 s2 s3 s4 s5 s6 s7
    have qnn := qb.1
    have qlt := qb.2
    obtain ⟨d1p, d1q⟩ := d1b
    obtain ⟨d0p, d0q⟩ := d0b
    obtain ⟨abp, abq⟩ := ab
    clear qb
    obtain ⟨V, hV⟩ : ∃ V, V = (u : Int) * 4294967296 + d1 - Q * Y := ⟨_, rfl⟩
    have D2 : Digit A C Y V d0 := by
      have := Int.emod_add_mul_ediv ((u : Int) * 4294967296 + d1) (Y : Int)
      have h0 := Int.emod_nonneg ((u : Int) * 4294967296 + d1) (show (Y : Int) ≠ 0 by omega)
      have h1 := Int.emod_lt_of_pos ((u : Int) * 4294967296 + d1) (show (0 : Int) < (Y : Int) by omega)
      rw [← HQ.out] at this
      have c : (Y : Int) * Q = Q * Y := Int.mul_comm _ _
      exact ⟨HD.out.y, HD.out.c0, HD.out.c1, HD.out.a0, HD.out.a1, by omega, by omega, d0p, d0q⟩
    obtain ⟨p0, p1, p2, p3, p4, p5, p6, p7⟩ := D2.start
    have qb2 := D2.quo_bounds
    obtain ⟨Q0, hQ0⟩ : ∃ Q0, Q0 = (V * 4294967296 + d0) / (Y : Int) := ⟨_, rfl⟩
    obtain ⟨g', hg'⟩ : ∃ g', g' = V / A := ⟨_, rfl⟩
    rw [← hQ0] at p1 qb2
    rw [← hg'] at p0 p1 p2 p3 p4 p5 p6 p7
    have V0 : 0 ≤ V := D2.u0
    have V1 : V < Y := D2.u1
    have R2 : 0 ≤ V * 4294967296 + d0 - Q0 * Y ∧ V * 4294967296 + d0 - Q0 * Y < Y := by
      have := Int.emod_add_mul_ediv (V * 4294967296 + d0) (Y : Int)
      have h0 := Int.emod_nonneg (V * 4294967296 + d0) (show (Y : Int) ≠ 0 by omega)
      have h1 := Int.emod_lt_of_pos (V * 4294967296 + d0) (show (0 : Int) < (Y : Int) by omega)
      rw [← hQ0] at this
      have c : (Y : Int) * Q0 = Q0 * Y := Int.mul_comm _ _
      omega
    have t2 : V.tdiv A = g' := by rw [Int.tdiv_eq_ediv_of_nonneg V0]; exact hg'.symm
    have t2' : V / A = g' := hg'.symm
    have j1 : IntKind.u64.wrap g' = g' := IntWalk.u64_in _ (by omega)
    have j2 : IntKind.u64.wrap (g' * A) = g' * A := IntWalk.u64_in _ (by omega)
    have j3 : IntKind.u64.wrap (V - g' * A) = V - g' * A := IntWalk.u64_in _ (by omega)
    have m1 : IntKind.u64.wrap (IntKind.u64.wrap (IntKind.u64.wrap ((u : Int) * 4294967296) + d1) - IntKind.u64.wrap (Q * (Y : Int))) = V := by
      simp only [IntKind.wrap_u64]; omega
    have m2 : IntKind.u64.wrap (IntKind.u64.wrap (IntKind.u64.wrap (V * 4294967296) + d0) - IntKind.u64.wrap (Q0 * (Y : Int))) = V * 4294967296 + d0 - Q0 * Y := by
      simp only [IntKind.wrap_u64]; omega
    have m3 : IntKind.u64.wrap (Q * 4294967296) = Q * 4294967296 := IntWalk.u64_in _ (by omega)
    have m4 : IntKind.u64.wrap (Q * 4294967296 + Q0) = Q * 4294967296 + Q0 := IntWalk.u64_in _ (by omega)
    have HD2 := hid D2
    have HV := hid hV
    have HQ0 := hid hQ0
    have HS2 := hid (And.intro p0 (And.intro p1 (And.intro p2 (And.intro p3 (And.intro p4 p5)))))
    have q0nn := qb2.1
    have q0lt := qb2.2
    clear hV D2 p0 p1 p2 p3 p4 p5 p6 p7 hQ0 hg' qb2 R2
    go_enter Tryz.func75, Tryz.ntmps75
    go_wp2_with fail
    refine (Tryz.bits_LeadingZeros64 (y : Int) _ (by omega) (by omega)).mono ?_
    rintro e w1 ⟨rfl, rfl⟩
    go_wp2
    go_loop [15, 16] (fun a b => ∃ q r : Int, a = .int .u64 q ∧ b = .int .u64 r ∧ q * A + r = u ∧ Q ≤ q ∧ q ≤ 4294967297 ∧ 0 ≤ r ∧ r < 4294967296) (fun a _ => (intOf a).toNat)
    case atStart => exact ⟨_, _, rfl, rfl, HS.out.1, HS.out.2.1, HS.out.2.2.1, HS.out.2.2.2.2.1, by have := HS.out.2.2.2.2.2; omega⟩
    case round =>
      obtain ⟨q, r, rfl, rfl, e1, e2, e3, e4, e5⟩ := hrel
      have E1 := hid e1
      clear e1
      by_cases h1 : 4294967296 ≤ q
      · have x1 : decide ((4294967296 : Int) ≤ q) = true := by simpa using h1
        have ov := HD.out.over E1.out (by rw [← HQ.out]; exact e2) (.inl h1)
        rw [← HQ.out] at ov
        have w1 : IntKind.u64.wrap (q - 1) = q - 1 := IntWalk.u64_in _ (by omega)
        have w2 : IntKind.u64.wrap (r + A) = r + A := IntWalk.u64_in _ (by omega)
        have E3 : Hid ((q - 1) * A + (r + A) = u) := hid (by rw [Int.sub_mul, Int.one_mul]; have := E1.out; omega)
        by_cases h3 : 4294967296 ≤ r + A
        · have x3 : decide ((4294967296 : Int) ≤ r + A) = true := by simpa using h3
          have br := HD.out.broke E3.out (by rw [← HQ.out]; exact ov) (by omega) (by omega) h3
          rw [← HQ.out] at br
          have w1' : IntKind.u64.wrap (q - 1) = Q := by rw [w1]; exact br
          clear w1 br ov E3
          go_wp2
          go_loop [18, 16] (fun a b => ∃ q r : Int, a = .int .u64 q ∧ b = .int .u64 r ∧ q * A + r = V ∧ Q0 ≤ q ∧ q ≤ 4294967297 ∧ 0 ≤ r ∧ r < 4294967296) (fun a _ => (intOf a).toNat)
          case atStart => exact ⟨_, _, rfl, rfl, HS2.out.1, HS2.out.2.1, HS2.out.2.2.1, HS2.out.2.2.2.2.1, by have := HS2.out.2.2.2.2.2; omega⟩
          case round =>
            obtain ⟨q, r, rfl, rfl, e1, e2, e3, e4, e5⟩ := hrel
            have E1 := hid e1
            clear e1
            by_cases h1 : 4294967296 ≤ q
            · have x1 : decide ((4294967296 : Int) ≤ q) = true := by simpa using h1
              have ov := HD2.out.over E1.out (by rw [← HQ0.out]; exact e2) (.inl h1)
              rw [← HQ0.out] at ov
              have w1 : IntKind.u64.wrap (q - 1) = q - 1 := IntWalk.u64_in _ (by omega)
              have w2 : IntKind.u64.wrap (r + A) = r + A := IntWalk.u64_in _ (by omega)
              have E3 : Hid ((q - 1) * A + (r + A) = V) := hid (by rw [Int.sub_mul, Int.one_mul]; have := E1.out; omega)
              by_cases h3 : 4294967296 ≤ r + A
              · have x3 : decide ((4294967296 : Int) ≤ r + A) = true := by simpa using h3
                have br := HD2.out.broke E3.out (by rw [← HQ0.out]; exact ov) (by omega) (by omega) h3
                rw [← HQ0.out] at br
                have w1' : IntKind.u64.wrap (q - 1) = Q0 := by rw [w1]; exact br
                clear w1 br ov E3
                go_wp2
                refine bodyPost_ret (v := .tuple #[.int .u64 (Q * 4294967296 + Q0), .int .u64 ((V * 4294967296 + d0 - Q0 * Y) / 2 ^ s)]) (by simp [results, Tryz.results75, go_sem]) rfl ⟨?_, 0, rfl⟩
                have hend := div64_end _ Y y 0 s Q Q0 u d1 d0 XL.out YL.out y1 HQ.out d0p d0q (by rw [← HV.out]; exact HQ0.out) (by omega) d1p
                rw [← HV.out] at hend
                rw [hend.1, hend.2]; simp
              · have x3 : decide ((4294967296 : Int) ≤ r + A) = false := by simpa using h3
                go_wp2
                go_round
                case rel => exact ⟨q - 1, r + A, rfl, rfl, E3.out, ov, by omega, by omega, by omega⟩
                case measure => simp [intOf]; omega
            · have x1 : decide ((4294967296 : Int) ≤ q) = false := by simpa using h1
              have qc0 : 0 ≤ q * C := Int.mul_nonneg (by omega) HD2.out.c0
              have qc1 : q * C ≤ 4294967295 * 4294967295 := Int.mul_le_mul (by omega) (by have := HD2.out.c1; omega) HD2.out.c0 (by omega)
              have v1 : IntKind.u64.wrap (q * C) = q * C := IntWalk.u64_in _ (by omega)
              have v2 : IntKind.u64.wrap (4294967296 * r) = 4294967296 * r := IntWalk.u64_in _ (by omega)
              have v3 : IntKind.u64.wrap (4294967296 * r + d0) = 4294967296 * r + d0 := IntWalk.u64_in _ (by omega)
              by_cases h2 : 4294967296 * r + d0 < q * C
              · have x2 : decide (4294967296 * r + d0 < q * C) = true := by simpa using h2
                have ov := HD2.out.over E1.out (by rw [← HQ0.out]; exact e2) (.inr h2)
                rw [← HQ0.out] at ov
                clear qc0 qc1
                have w1 : IntKind.u64.wrap (q - 1) = q - 1 := IntWalk.u64_in _ (by omega)
                have w2 : IntKind.u64.wrap (r + A) = r + A := IntWalk.u64_in _ (by omega)
                have E3 : Hid ((q - 1) * A + (r + A) = V) := hid (by rw [Int.sub_mul, Int.one_mul]; have := E1.out; omega)
                by_cases h3 : 4294967296 ≤ r + A
                · have x3 : decide ((4294967296 : Int) ≤ r + A) = true := by simpa using h3
                  have br := HD2.out.broke E3.out (by rw [← HQ0.out]; exact ov) (by omega) (by omega) h3
                  rw [← HQ0.out] at br
                  have w1' : IntKind.u64.wrap (q - 1) = Q0 := by rw [w1]; exact br
                  clear w1 br ov E3
                  go_wp2
                  refine bodyPost_ret (v := .tuple #[.int .u64 (Q * 4294967296 + Q0), .int .u64 ((V * 4294967296 + d0 - Q0 * Y) / 2 ^ s)]) (by simp [results, Tryz.results75, go_sem]) rfl ⟨?_, 0, rfl⟩
                  have hend := div64_end _ Y y 0 s Q Q0 u d1 d0 XL.out YL.out y1 HQ.out d0p d0q (by rw [← HV.out]; exact HQ0.out) (by omega) d1p
                  rw [← HV.out] at hend
                  rw [hend.1, hend.2]; simp
                · have x3 : decide ((4294967296 : Int) ≤ r + A) = false := by simpa using h3
                  go_wp2
                  go_round
                  case rel => exact ⟨q - 1, r + A, rfl, rfl, E3.out, ov, by omega, by omega, by omega⟩
                  case measure => simp [intOf]; omega
              · have x2 : decide (4294967296 * r + d0 < q * C) = false := by simpa using h2
                have hit := HD2.out.hit E1.out (by rw [← HQ0.out]; exact e2) (by omega)
                rw [← HQ0.out] at hit
                have HIT := hid hit
                clear qc0 qc1 e2 hit
                rw [HIT.out] at v1 x1 x2 h1 h2 e3 ⊢
                go_wp2
                refine bodyPost_ret (v := .tuple #[.int .u64 (Q * 4294967296 + Q0), .int .u64 ((V * 4294967296 + d0 - Q0 * Y) / 2 ^ s)]) (by simp [results, Tryz.results75, go_sem]) rfl ⟨?_, 0, rfl⟩
                have hend := div64_end _ Y y 0 s Q Q0 u d1 d0 XL.out YL.out y1 HQ.out d0p d0q (by rw [← HV.out]; exact HQ0.out) (by omega) d1p
                rw [← HV.out] at hend
                rw [hend.1, hend.2]; simp
        · have x3 : decide ((4294967296 : Int) ≤ r + A) = false := by simpa using h3
          go_wp2
          go_round
          case rel => exact ⟨q - 1, r + A, rfl, rfl, E3.out, ov, by omega, by omega, by omega⟩
          case measure => simp [intOf]; omega
      · have x1 : decide ((4294967296 : Int) ≤ q) = false := by simpa using h1
        have qc0 : 0 ≤ q * C := Int.mul_nonneg (by omega) HD.out.c0
        have qc1 : q * C ≤ 4294967295 * 4294967295 := Int.mul_le_mul (by omega) (by have := HD.out.c1; omega) HD.out.c0 (by omega)
        have v1 : IntKind.u64.wrap (q * C) = q * C := IntWalk.u64_in _ (by omega)
        have v2 : IntKind.u64.wrap (4294967296 * r) = 4294967296 * r := IntWalk.u64_in _ (by omega)
        have v3 : IntKind.u64.wrap (4294967296 * r + d1) = 4294967296 * r + d1 := IntWalk.u64_in _ (by omega)
        by_cases h2 : 4294967296 * r + d1 < q * C
        · have x2 : decide (4294967296 * r + d1 < q * C) = true := by simpa using h2
          have ov := HD.out.over E1.out (by rw [← HQ.out]; exact e2) (.inr h2)
          rw [← HQ.out] at ov
          clear qc0 qc1
          have w1 : IntKind.u64.wrap (q - 1) = q - 1 := IntWalk.u64_in _ (by omega)
          have w2 : IntKind.u64.wrap (r + A) = r + A := IntWalk.u64_in _ (by omega)
          have E3 : Hid ((q - 1) * A + (r + A) = u) := hid (by rw [Int.sub_mul, Int.one_mul]; have := E1.out; omega)
          by_cases h3 : 4294967296 ≤ r + A
          · have x3 : decide ((4294967296 : Int) ≤ r + A) = true := by simpa using h3
            have br := HD.out.broke E3.out (by rw [← HQ.out]; exact ov) (by omega) (by omega) h3
            rw [← HQ.out] at br
            have w1' : IntKind.u64.wrap (q - 1) = Q := by rw [w1]; exact br
            clear w1 br ov E3
            go_wp2
            go_loop [18, 16] (fun a b => ∃ q r : Int, a = .int .u64 q ∧ b = .int .u64 r ∧ q * A + r = V ∧ Q0 ≤ q ∧ q ≤ 4294967297 ∧ 0 ≤ r ∧ r < 4294967296) (fun a _ => (intOf a).toNat)
            case atStart => exact ⟨_, _, rfl, rfl, HS2.out.1, HS2.out.2.1, HS2.out.2.2.1, HS2.out.2.2.2.2.1, by have := HS2.out.2.2.2.2.2; omega⟩
            case round =>
              obtain ⟨q, r, rfl, rfl, e1, e2, e3, e4, e5⟩ := hrel
              have E1 := hid e1
              clear e1
              by_cases h1 : 4294967296 ≤ q
              · have x1 : decide ((4294967296 : Int) ≤ q) = true := by simpa using h1
                have ov := HD2.out.over E1.out (by rw [← HQ0.out]; exact e2) (.inl h1)
                rw [← HQ0.out] at ov
                have w1 : IntKind.u64.wrap (q - 1) = q - 1 := IntWalk.u64_in _ (by omega)
                have w2 : IntKind.u64.wrap (r + A) = r + A := IntWalk.u64_in _ (by omega)
                have E3 : Hid ((q - 1) * A + (r + A) = V) := hid (by rw [Int.sub_mul, Int.one_mul]; have := E1.out; omega)
                by_cases h3 : 4294967296 ≤ r + A
                · have x3 : decide ((4294967296 : Int) ≤ r + A) = true := by simpa using h3
                  have br := HD2.out.broke E3.out (by rw [← HQ0.out]; exact ov) (by omega) (by omega) h3
                  rw [← HQ0.out] at br
                  have w1' : IntKind.u64.wrap (q - 1) = Q0 := by rw [w1]; exact br
                  clear w1 br ov E3
                  go_wp2
                  refine bodyPost_ret (v := .tuple #[.int .u64 (Q * 4294967296 + Q0), .int .u64 ((V * 4294967296 + d0 - Q0 * Y) / 2 ^ s)]) (by simp [results, Tryz.results75, go_sem]) rfl ⟨?_, 0, rfl⟩
                  have hend := div64_end _ Y y 0 s Q Q0 u d1 d0 XL.out YL.out y1 HQ.out d0p d0q (by rw [← HV.out]; exact HQ0.out) (by omega) d1p
                  rw [← HV.out] at hend
                  rw [hend.1, hend.2]; simp
                · have x3 : decide ((4294967296 : Int) ≤ r + A) = false := by simpa using h3
                  go_wp2
                  go_round
                  case rel => exact ⟨q - 1, r + A, rfl, rfl, E3.out, ov, by omega, by omega, by omega⟩
                  case measure => simp [intOf]; omega
              · have x1 : decide ((4294967296 : Int) ≤ q) = false := by simpa using h1
                have qc0 : 0 ≤ q * C := Int.mul_nonneg (by omega) HD2.out.c0
                have qc1 : q * C ≤ 4294967295 * 4294967295 := Int.mul_le_mul (by omega) (by have := HD2.out.c1; omega) HD2.out.c0 (by omega)
                have v1 : IntKind.u64.wrap (q * C) = q * C := IntWalk.u64_in _ (by omega)
                have v2 : IntKind.u64.wrap (4294967296 * r) = 4294967296 * r := IntWalk.u64_in _ (by omega)
                have v3 : IntKind.u64.wrap (4294967296 * r + d0) = 4294967296 * r + d0 := IntWalk.u64_in _ (by omega)
                by_cases h2 : 4294967296 * r + d0 < q * C
                · have x2 : decide (4294967296 * r + d0 < q * C) = true := by simpa using h2
                  have ov := HD2.out.over E1.out (by rw [← HQ0.out]; exact e2) (.inr h2)
                  rw [← HQ0.out] at ov
                  clear qc0 qc1
                  have w1 : IntKind.u64.wrap (q - 1) = q - 1 := IntWalk.u64_in _ (by omega)
                  have w2 : IntKind.u64.wrap (r + A) = r + A := IntWalk.u64_in _ (by omega)
                  have E3 : Hid ((q - 1) * A + (r + A) = V) := hid (by rw [Int.sub_mul, Int.one_mul]; have := E1.out; omega)
                  by_cases h3 : 4294967296 ≤ r + A
                  · have x3 : decide ((4294967296 : Int) ≤ r + A) = true := by simpa using h3
                    have br := HD2.out.broke E3.out (by rw [← HQ0.out]; exact ov) (by omega) (by omega) h3
                    rw [← HQ0.out] at br
                    have w1' : IntKind.u64.wrap (q - 1) = Q0 := by rw [w1]; exact br
                    clear w1 br ov E3
                    go_wp2
                    refine bodyPost_ret (v := .tuple #[.int .u64 (Q * 4294967296 + Q0), .int .u64 ((V * 4294967296 + d0 - Q0 * Y) / 2 ^ s)]) (by simp [results, Tryz.results75, go_sem]) rfl ⟨?_, 0, rfl⟩
                    have hend := div64_end _ Y y 0 s Q Q0 u d1 d0 XL.out YL.out y1 HQ.out d0p d0q (by rw [← HV.out]; exact HQ0.out) (by omega) d1p
                    rw [← HV.out] at hend
                    rw [hend.1, hend.2]; simp
                  · have x3 : decide ((4294967296 : Int) ≤ r + A) = false := by simpa using h3
                    go_wp2
                    go_round
                    case rel => exact ⟨q - 1, r + A, rfl, rfl, E3.out, ov, by omega, by omega, by omega⟩
                    case measure => simp [intOf]; omega
                · have x2 : decide (4294967296 * r + d0 < q * C) = false := by simpa using h2
                  have hit := HD2.out.hit E1.out (by rw [← HQ0.out]; exact e2) (by omega)
                  rw [← HQ0.out] at hit
                  have HIT := hid hit
                  clear qc0 qc1 e2 hit
                  rw [HIT.out] at v1 x1 x2 h1 h2 e3 ⊢
                  go_wp2
                  refine bodyPost_ret (v := .tuple #[.int .u64 (Q * 4294967296 + Q0), .int .u64 ((V * 4294967296 + d0 - Q0 * Y) / 2 ^ s)]) (by simp [results, Tryz.results75, go_sem]) rfl ⟨?_, 0, rfl⟩
                  have hend := div64_end _ Y y 0 s Q Q0 u d1 d0 XL.out YL.out y1 HQ.out d0p d0q (by rw [← HV.out]; exact HQ0.out) (by omega) d1p
                  rw [← HV.out] at hend
                  rw [hend.1, hend.2]; simp
          · have x3 : decide ((4294967296 : Int) ≤ r + A) = false := by simpa using h3
            go_wp2
            go_round
            case rel => exact ⟨q - 1, r + A, rfl, rfl, E3.out, ov, by omega, by omega, by omega⟩
            case measure => simp [intOf]; omega
        · have x2 : decide (4294967296 * r + d1 < q * C) = false := by simpa using h2
          have hit := HD.out.hit E1.out (by rw [← HQ.out]; exact e2) (by omega)
          rw [← HQ.out] at hit
          have HIT := hid hit
          clear qc0 qc1 e2 hit
          rw [HIT.out] at v1 x1 x2 h1 h2 e3 ⊢
          go_wp2
          go_loop [18, 16] (fun a b => ∃ q r : Int, a = .int .u64 q ∧ b = .int .u64 r ∧ q * A + r = V ∧ Q0 ≤ q ∧ q ≤ 4294967297 ∧ 0 ≤ r ∧ r < 4294967296) (fun a _ => (intOf a).toNat)
          case atStart => exact ⟨_, _, rfl, rfl, HS2.out.1, HS2.out.2.1, HS2.out.2.2.1, HS2.out.2.2.2.2.1, by have := HS2.out.2.2.2.2.2; omega⟩
          case round =>
            obtain ⟨q, r, rfl, rfl, e1, e2, e3, e4, e5⟩ := hrel
            have E1 := hid e1
            clear e1
            by_cases h1 : 4294967296 ≤ q
            · have x1 : decide ((4294967296 : Int) ≤ q) = true := by simpa using h1
              have ov := HD2.out.over E1.out (by rw [← HQ0.out]; exact e2) (.inl h1)
              rw [← HQ0.out] at ov
              have w1 : IntKind.u64.wrap (q - 1) = q - 1 := IntWalk.u64_in _ (by omega)
              have w2 : IntKind.u64.wrap (r + A) = r + A := IntWalk.u64_in _ (by omega)
              have E3 : Hid ((q - 1) * A + (r + A) = V) := hid (by rw [Int.sub_mul, Int.one_mul]; have := E1.out; omega)
              by_cases h3 : 4294967296 ≤ r + A
              · have x3 : decide ((4294967296 : Int) ≤ r + A) = true := by simpa using h3
                have br := HD2.out.broke E3.out (by rw [← HQ0.out]; exact ov) (by omega) (by omega) h3
                rw [← HQ0.out] at br
                have w1' : IntKind.u64.wrap (q - 1) = Q0 := by rw [w1]; exact br
                clear w1 br ov E3
                go_wp2
                refine bodyPost_ret (v := .tuple #[.int .u64 (Q * 4294967296 + Q0), .int .u64 ((V * 4294967296 + d0 - Q0 * Y) / 2 ^ s)]) (by simp [results, Tryz.results75, go_sem]) rfl ⟨?_, 0, rfl⟩
                have hend := div64_end _ Y y 0 s Q Q0 u d1 d0 XL.out YL.out y1 HQ.out d0p d0q (by rw [← HV.out]; exact HQ0.out) (by omega) d1p
                rw [← HV.out] at hend
                rw [hend.1, hend.2]; simp
              · have x3 : decide ((4294967296 : Int) ≤ r + A) = false := by simpa using h3
                go_wp2
                go_round
                case rel => exact ⟨q - 1, r + A, rfl, rfl, E3.out, ov, by omega, by omega, by omega⟩
                case measure => simp [intOf]; omega
            · have x1 : decide ((4294967296 : Int) ≤ q) = false := by simpa using h1
              have qc0 : 0 ≤ q * C := Int.mul_nonneg (by omega) HD2.out.c0
              have qc1 : q * C ≤ 4294967295 * 4294967295 := Int.mul_le_mul (by omega) (by have := HD2.out.c1; omega) HD2.out.c0 (by omega)
              have v1 : IntKind.u64.wrap (q * C) = q * C := IntWalk.u64_in _ (by omega)
              have v2 : IntKind.u64.wrap (4294967296 * r) = 4294967296 * r := IntWalk.u64_in _ (by omega)
              have v3 : IntKind.u64.wrap (4294967296 * r + d0) = 4294967296 * r + d0 := IntWalk.u64_in _ (by omega)
              by_cases h2 : 4294967296 * r + d0 < q * C
              · have x2 : decide (4294967296 * r + d0 < q * C) = true := by simpa using h2
                have ov := HD2.out.over E1.out (by rw [← HQ0.out]; exact e2) (.inr h2)
                rw [← HQ0.out] at ov
                clear qc0 qc1
                have w1 : IntKind.u64.wrap (q - 1) = q - 1 := IntWalk.u64_in _ (by omega)
                have w2 : IntKind.u64.wrap (r + A) = r + A := IntWalk.u64_in _ (by omega)
                have E3 : Hid ((q - 1) * A + (r + A) = V) := hid (by rw [Int.sub_mul, Int.one_mul]; have := E1.out; omega)
                by_cases h3 : 4294967296 ≤ r + A
                · have x3 : decide ((4294967296 : Int) ≤ r + A) = true := by simpa using h3
                  have br := HD2.out.broke E3.out (by rw [← HQ0.out]; exact ov) (by omega) (by omega) h3
                  rw [← HQ0.out] at br
                  have w1' : IntKind.u64.wrap (q - 1) = Q0 := by rw [w1]; exact br
                  clear w1 br ov E3
                  go_wp2
                  refine bodyPost_ret (v := .tuple #[.int .u64 (Q * 4294967296 + Q0), .int .u64 ((V * 4294967296 + d0 - Q0 * Y) / 2 ^ s)]) (by simp [results, Tryz.results75, go_sem]) rfl ⟨?_, 0, rfl⟩
                  have hend := div64_end _ Y y 0 s Q Q0 u d1 d0 XL.out YL.out y1 HQ.out d0p d0q (by rw [← HV.out]; exact HQ0.out) (by omega) d1p
                  rw [← HV.out] at hend
                  rw [hend.1, hend.2]; simp
                · have x3 : decide ((4294967296 : Int) ≤ r + A) = false := by simpa using h3
                  go_wp2
                  go_round
                  case rel => exact ⟨q - 1, r + A, rfl, rfl, E3.out, ov, by omega, by omega, by omega⟩
                  case measure => simp [intOf]; omega
              · have x2 : decide (4294967296 * r + d0 < q * C) = false := by simpa using h2
                have hit := HD2.out.hit E1.out (by rw [← HQ0.out]; exact e2) (by omega)
                rw [← HQ0.out] at hit
                have HIT := hid hit
                clear qc0 qc1 e2 hit
                rw [HIT.out] at v1 x1 x2 h1 h2 e3 ⊢
                go_wp2
                refine bodyPost_ret (v := .tuple #[.int .u64 (Q * 4294967296 + Q0), .int .u64 ((V * 4294967296 + d0 - Q0 * Y) / 2 ^ s)]) (by simp [results, Tryz.results75, go_sem]) rfl ⟨?_, 0, rfl⟩
                have hend := div64_end _ Y y 0 s Q Q0 u d1 d0 XL.out YL.out y1 HQ.out d0p d0q (by rw [← HV.out]; exact HQ0.out) (by omega) d1p
                rw [← HV.out] at hend
                rw [hend.1, hend.2]; simp
end Go.Proofs.YtepldjidkomclaaGreat.Ca
