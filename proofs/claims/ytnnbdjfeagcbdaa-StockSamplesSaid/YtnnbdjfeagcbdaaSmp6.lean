/- The law StockSamples: its walk. -/
import Derived.Test.YtnnbdjfeagcbdaaSmp5
import Derived.Test.YtnnbdjfeagcbdaaAwake
namespace Go.Proofs.Ytnnbdjfeagcbdaa
set_option linter.unusedSimpArgs false
set_option linter.unusedVariables false
open Go.RowKit
attribute [local go_sem] Oper.semAt_some

theorem drawn_facts {seed : Nat} {a b r : Int} {out : List Nat} (h : (okS a b ∧ r = 0 ∧ Drawn seed a.toNat b.toNat out) ∨ (¬ okS a b ∧ r = 1 ∧ out = [])) : out.Nodup ∧ (∀ o ∈ out, (o : Int) < a) ∧ out.length ≤ 1000000 := by
  rcases h with ⟨hok, _, x, f, hd⟩ | ⟨_, _, rfl⟩
  · unfold okS at hok
    obtain ⟨_, _, h3, h4⟩ := hd.inv (by omega)
    exact ⟨h3, fun o ho => by have := (h4 o ho).1; omega, by rw [hd.length]; omega⟩
  · exact ⟨List.nodup_nil, by simp, by simp⟩
theorem drawn_both {seed : Nat} {a b r r' : Int} {out out' : List Nat} (h : (okS a b ∧ r = 0 ∧ Drawn seed a.toNat b.toNat out) ∨ (¬ okS a b ∧ r = 1 ∧ out = [])) (h' : (okS a b ∧ r' = 0 ∧ Drawn seed a.toNat b.toNat out') ∨ (¬ okS a b ∧ r' = 1 ∧ out' = [])) : r' = r ∧ out' = out := by
  rcases h with ⟨h1, rfl, hd⟩ | ⟨h1, rfl, rfl⟩ <;> rcases h' with ⟨h2, rfl, hd'⟩ | ⟨h2, rfl, rfl⟩
  · exact ⟨rfl, drawn_same hd' hd⟩
  · exact absurd h1 h2
  · exact absurd h2 h1
  · exact ⟨rfl, rfl⟩

theorem reads_take {w : World} {g n cap : Nat} {l : List Nat} (h : ReadsE encI 1 w (.slice (some ⟨g, 0, none⟩) n cap) l) (k : Nat) (hk : k ≤ n) (hl : l.length = n) : ReadsE encI 1 w (.slice (some ⟨g, 0, none⟩) k cap) (l.take k) := by
  obtain ⟨hm, p, cap', b, off, hv, hp, hc⟩ := h
  have e : (l.take k).length = k := by rw [List.length_take]; omega
  injection hv with h1 h2 h3
  subst h1; subst h3
  refine ⟨by omega, _, _, b, off, by rw [e], fun h0 => hp (by omega), fun i hi j hj => ?_⟩
  rw [List.getElem_take]
  exact hc i (by omega) j hj

set_option maxRecDepth 100000 in
set_option maxHeartbeats 8000000 in
theorem samples_calls (seed : Nat) (hs : seed < 18446744073709551616) (a0 b0 : Int) (ha0 : -9223372036854775808 ≤ a0 ∧ a0 ≤ 9223372036854775807) (hb0 : -9223372036854775808 ≤ b0 ∧ b0 ≤ 9223372036854775807) (w : World) :
    Calls Try.prog 3 #[.int .u64 seed, .int .i64 a0, .int .i64 b0] w fun e w' => e = .returned (.bool true) ∧ Below w.heap.size w w' := by
  go_enter Try.func3, Try.ntmps3
  go_wp2
  go_loopw [1, 2, 7] (fun p q c wr => ∃ (i : Nat) (a b : Int), i ≤ 2 ∧ c = .int .i64 i ∧ p = .int .i64 a ∧ q = .int .i64 b ∧ -9223372036854775808 ≤ a ∧ a ≤ 9223372036854775807 ∧ -9223372036854775808 ≤ b ∧ b ≤ 9223372036854775807 ∧ (1 ≤ i → 0 ≤ b ∧ b ≤ a ∧ a < 40) ∧ Below w.heap.size w wr) (fun _ _ c _ => 2 - (intOf c).toNat)
  case atStart => exact ⟨0, a0, b0, by omega, rfl, rfl, rfl, ha0.1, ha0.2, hb0.1, hb0.2, fun h => by omega, Below.refl _ _⟩
  case round =>
    obtain ⟨i, a, b, hi, rfl, rfl, rfl, ha1, ha2, hb1, hb2, hab, hbl⟩ := hrel
    have HB := hid hbl
    have HAB := hid hab
    clear hbl hab
    by_cases hi2 : i < 2
    · have ub0 : 0 ≤ IntKind.u64.wrap a ∧ IntKind.u64.wrap a ≤ 18446744073709551615 := by rw [IntKind.wrap_u64]; omega
      have uc0 : 0 ≤ IntKind.u64.wrap b ∧ IntKind.u64.wrap b ≤ 18446744073709551615 := by rw [IntKind.wrap_u64]; omega
      obtain ⟨ua, hua⟩ : ∃ ua, IntKind.u64.wrap a = ua := ⟨_, rfl⟩
      obtain ⟨ub, hub⟩ : ∃ ub, IntKind.u64.wrap b = ub := ⟨_, rfl⟩
      rw [hua] at ub0
      rw [hub] at uc0
      obtain ⟨n1, hn1⟩ : ∃ n1, ua % 40 = n1 := ⟨_, rfl⟩
      have n1b : 0 ≤ n1 ∧ n1 < 40 := by omega
      have t1 : ua.tmod 40 = n1 := by rw [Int.tmod_eq_emod_of_nonneg ub0.1]; exact hn1
      obtain ⟨k1, hk1⟩ : ∃ k1, ub % (n1 + 1) = k1 := ⟨_, rfl⟩
      have k1b : 0 ≤ k1 ∧ k1 < n1 + 1 := by rw [← hk1]; exact ⟨Int.emod_nonneg _ (by omega), Int.emod_lt_of_pos _ (by omega)⟩
      have t2 : ub.tmod (n1 + 1) = k1 := by rw [Int.tmod_eq_emod_of_nonneg uc0.1]; exact hk1
      have w1 : IntKind.u64.wrap n1 = n1 := IntWalk.u64_in _ (by omega)
      have w2 : IntKind.i64.wrap n1 = n1 := IntWalk.i64_in _ (by omega)
      have w3 : IntKind.i64.wrap (n1 + 1) = n1 + 1 := IntWalk.i64_in _ (by omega)
      have w4 : IntKind.u64.wrap (n1 + 1) = n1 + 1 := IntWalk.u64_in _ (by omega)
      have w5 : (n1 + 1 == 0) = false := by simp; omega
      have w6 : n1 + 1 ≠ 0 := by omega
      have w7 : IntKind.u64.wrap k1 = k1 := IntWalk.u64_in _ (by omega)
      have w8 : IntKind.i64.wrap k1 = k1 := IntWalk.i64_in _ (by omega)
      have h64 : IntKind.i64.wrap ((i : Int) + 1) = (i : Int) + 1 := IntWalk.i64_in _ (by omega)
      obtain ⟨n1p, n1q⟩ := n1b
      obtain ⟨k1p, k1q⟩ := k1b
      obtain ⟨ub1, ub2⟩ := ub0
      obtain ⟨uc1, uc2⟩ := uc0
      by_cases hskip : 200 < b ∧ b ≤ a ∧ a ≤ 1000000
      · obtain ⟨s1, s2, s3⟩ := hskip
        go_wp2
        go_roundw
        case rel => exact ⟨i + 1, n1, k1, by omega, by go_num, by first | rfl | go_num, by first | rfl | go_num, by omega, by omega, by omega, by omega, fun _ => by omega, HB.out⟩
        case measure => simp [intOf]; omega
      · obtain ⟨g1, hg1⟩ : ∃ g1 : Bool, decide (b ≤ 200) = g1 := ⟨_, rfl⟩
        have hgo : (b ≤ 200) ∨ (200 < b ∧ a < b) ∨ (200 < b ∧ b ≤ a ∧ 1000000 < a) := by omega
        clear hskip hg1 g1
        rcases hgo with h1 | ⟨h1, h2⟩ | ⟨h1, h2, h3⟩
        · go_wp2_with fail
          refine (sample_any seed a b hs wr).mono ?_
          rintro e w1 ⟨v, r, out, rfl, hd, ho, hb3⟩
          have HD := hid hd
          have HO := hid ho
          have B1 := hid (HB.out.trans (hb3.mono HB.out.size))
          clear hd ho hb3
          go_wp2_with fail
          refine (rsample_any seed a b hs w1).mono ?_
          rintro e w2 ⟨u, r', out', rfl, hd', ho', hb4⟩
          obtain ⟨er, eo⟩ := drawn_both HD.out hd'
          subst er
          subst eo
          obtain ⟨nd, lt, lm⟩ := drawn_facts HD.out
          have RV := hid ((HO.out.below hb4).reads encI_len (by omega))
          have RU := hid (ho'.reads encI_len (by omega))
          have B2 := hid (B1.out.trans (hb4.mono B1.out.size))
          have ND := hid nd
          have LT := hid lt
          have e0 : (r' != r') = false := by simp
          clear hd' ho' hb4 nd lt
          go_wp2_with fail
          refine (ints_same out' v u w2 RV.out RU.out).mono ?_
          rintro e w3 ⟨rfl, hb5⟩
          have RW := hid (RV.out.below hb5)
          have B3 := hid (B2.out.trans (hb5.mono B2.out.size))
          clear hb5
          obtain ⟨_, p, cap, bb, off, rfl, hp, hc⟩ := RW.out
          obtain ⟨m, hm⟩ : ∃ m, m = out'.length := ⟨_, rfl⟩
          rw [← hm] at hp lm ⊢
          have HP := hid hp
          have HC := hid hc
          have HM := hid hm
          clear hp hc hm
          go_wp2
          go_loopw [12, 13] (fun x _ wx => ∃ x' : Nat, x' ≤ m ∧ x = .int .i64 x' ∧ Below w3.heap.size w3 wx) (fun x _ _ => m - (intOf x).toNat)
          case atStart => exact ⟨0, Nat.zero_le _, rfl, Below.refl _ _⟩
          case round =>
            obtain ⟨x, hx, rfl, hbx⟩ := hrel
            have HBX := hid hbx
            clear hbx
            have hx64 : IntKind.i64.wrap ((x : Int) + 1) = (x : Int) + 1 := IntWalk.i64_in _ (by omega)
            by_cases hxm : x < m
            · obtain ⟨rfl, hbl3⟩ := HP.out (by omega)
              have hxl : x < out'.length := by rw [← HM.out]; exact hxm
              obtain ⟨ox, hox⟩ : ∃ ox, ox = out'[x] := ⟨_, rfl⟩
              have oxlt : (ox : Int) < a := LT.out ox (by rw [hox]; exact List.getElem_mem hxl)
              have cx : w3.cell? ⟨bb, off + x, none⟩ = some (.int .i64 (ox : Int)) := by
                have := HC.out x hxl 0 (by omega)
                rw [← hox] at this
                simpa [encI] using this
              have HOX := hid hox
              have CX := hid cx
              clear hox cx
              go_wp2
              go_loopw [13] (fun y wy => ∃ y' : Nat, y' ≤ x ∧ y = .int .i64 y' ∧ Below w3.heap.size w3 wy) (fun y _ => x - (intOf y).toNat)
              case atStart => exact ⟨0, Nat.zero_le _, rfl, HBX.out⟩
              case round =>
                obtain ⟨y, hy, rfl, hby⟩ := hrel
                have HBY := hid hby
                by_cases hyx : y < x
                · have hyl : y < out'.length := by omega
                  obtain ⟨oy, hoy⟩ : ∃ oy, oy = out'[y] := ⟨_, rfl⟩
                  have cy : w3.cell? ⟨bb, off + y, none⟩ = some (.int .i64 (oy : Int)) := by
                    have := HC.out y hyl 0 (by omega)
                    rw [← hoy] at this
                    simpa [encI] using this
                  have c0 := (hby.cell (p := ⟨bb, off + x, none⟩) hbl3).trans CX.out
                  have c1 := (hby.cell (p := ⟨bb, off + y, none⟩) hbl3).trans cy
                  have hne : ox ≠ oy := by
                    rw [HOX.out, hoy]
                    intro e
                    have := (List.getElem_inj ND.out).1 e
                    omega
                  have q0 : ((ox : Int) == (oy : Int)) = false := by simp; omega
                  have q1 : decide ((ox : Int) < 0) = false := by rw [decide_eq_false_iff_not]; omega
                  have q2 : decide (a ≤ (ox : Int)) = false := by rw [decide_eq_false_iff_not]; omega
                  have i1 : (0 : Int) ≤ (x : Int) := by omega
                  have i2 : (x : Int) < (m : Int) := by omega
                  have i3 : (0 : Int) ≤ (y : Int) := by omega
                  have i4 : (y : Int) < (m : Int) := by omega
                  have hy64 : IntKind.i64.wrap ((y : Int) + 1) = (y : Int) + 1 := IntWalk.i64_in _ (by omega)
                  clear hoy cy hby hne
                  go_wp2
                  go_quiet (fail)
                  go_wp2
                  go_roundw
                  case rel => exact ⟨y + 1, by omega, by go_num, by have := HBY.out; exact drewN_below this _⟩
                  case measure => simp [intOf]; omega
                · have : y = x := by omega
                  subst this
                  clear hby
                  go_wp2
                  go_roundw
                  case rel => exact ⟨y + 1, by omega, by go_num, HBY.out⟩
                  case measure => simp [intOf]; omega
            · have : x = m := by omega
              subst this
              go_wp2
              go_roundw
              case rel => exact ⟨i + 1, n1, k1, by omega, by go_num, by first | rfl | go_num, by first | rfl | go_num, by omega, by omega, by omega, by omega, fun _ => by omega, (B3.out.trans (HBX.out.mono B3.out.size))⟩
              case measure => simp [intOf]; omega
        · go_wp2_with fail
          refine (sample_any seed a b hs wr).mono ?_
          rintro e w1 ⟨v, r, out, rfl, hd, ho, hb3⟩
          have HD := hid hd
          have HO := hid ho
          have B1 := hid (HB.out.trans (hb3.mono HB.out.size))
          clear hd ho hb3
          go_wp2_with fail
          refine (rsample_any seed a b hs w1).mono ?_
          rintro e w2 ⟨u, r', out', rfl, hd', ho', hb4⟩
          obtain ⟨er, eo⟩ := drawn_both HD.out hd'
          subst er
          subst eo
          obtain ⟨nd, lt, lm⟩ := drawn_facts HD.out
          have RV := hid ((HO.out.below hb4).reads encI_len (by omega))
          have RU := hid (ho'.reads encI_len (by omega))
          have B2 := hid (B1.out.trans (hb4.mono B1.out.size))
          have ND := hid nd
          have LT := hid lt
          have e0 : (r' != r') = false := by simp
          clear hd' ho' hb4 nd lt
          go_wp2_with fail
          refine (ints_same out' v u w2 RV.out RU.out).mono ?_
          rintro e w3 ⟨rfl, hb5⟩
          have RW := hid (RV.out.below hb5)
          have B3 := hid (B2.out.trans (hb5.mono B2.out.size))
          clear hb5
          obtain ⟨_, p, cap, bb, off, rfl, hp, hc⟩ := RW.out
          obtain ⟨m, hm⟩ : ∃ m, m = out'.length := ⟨_, rfl⟩
          rw [← hm] at hp lm ⊢
          have HP := hid hp
          have HC := hid hc
          have HM := hid hm
          clear hp hc hm
          go_wp2
          go_loopw [12, 13] (fun x _ wx => ∃ x' : Nat, x' ≤ m ∧ x = .int .i64 x' ∧ Below w3.heap.size w3 wx) (fun x _ _ => m - (intOf x).toNat)
          case atStart => exact ⟨0, Nat.zero_le _, rfl, Below.refl _ _⟩
          case round =>
            obtain ⟨x, hx, rfl, hbx⟩ := hrel
            have HBX := hid hbx
            clear hbx
            have hx64 : IntKind.i64.wrap ((x : Int) + 1) = (x : Int) + 1 := IntWalk.i64_in _ (by omega)
            by_cases hxm : x < m
            · obtain ⟨rfl, hbl3⟩ := HP.out (by omega)
              have hxl : x < out'.length := by rw [← HM.out]; exact hxm
              obtain ⟨ox, hox⟩ : ∃ ox, ox = out'[x] := ⟨_, rfl⟩
              have oxlt : (ox : Int) < a := LT.out ox (by rw [hox]; exact List.getElem_mem hxl)
              have cx : w3.cell? ⟨bb, off + x, none⟩ = some (.int .i64 (ox : Int)) := by
                have := HC.out x hxl 0 (by omega)
                rw [← hox] at this
                simpa [encI] using this
              have HOX := hid hox
              have CX := hid cx
              clear hox cx
              go_wp2
              go_loopw [13] (fun y wy => ∃ y' : Nat, y' ≤ x ∧ y = .int .i64 y' ∧ Below w3.heap.size w3 wy) (fun y _ => x - (intOf y).toNat)
              case atStart => exact ⟨0, Nat.zero_le _, rfl, HBX.out⟩
              case round =>
                obtain ⟨y, hy, rfl, hby⟩ := hrel
                have HBY := hid hby
                by_cases hyx : y < x
                · have hyl : y < out'.length := by omega
                  obtain ⟨oy, hoy⟩ : ∃ oy, oy = out'[y] := ⟨_, rfl⟩
                  have cy : w3.cell? ⟨bb, off + y, none⟩ = some (.int .i64 (oy : Int)) := by
                    have := HC.out y hyl 0 (by omega)
                    rw [← hoy] at this
                    simpa [encI] using this
                  have c0 := (hby.cell (p := ⟨bb, off + x, none⟩) hbl3).trans CX.out
                  have c1 := (hby.cell (p := ⟨bb, off + y, none⟩) hbl3).trans cy
                  have hne : ox ≠ oy := by
                    rw [HOX.out, hoy]
                    intro e
                    have := (List.getElem_inj ND.out).1 e
                    omega
                  have q0 : ((ox : Int) == (oy : Int)) = false := by simp; omega
                  have q1 : decide ((ox : Int) < 0) = false := by rw [decide_eq_false_iff_not]; omega
                  have q2 : decide (a ≤ (ox : Int)) = false := by rw [decide_eq_false_iff_not]; omega
                  have i1 : (0 : Int) ≤ (x : Int) := by omega
                  have i2 : (x : Int) < (m : Int) := by omega
                  have i3 : (0 : Int) ≤ (y : Int) := by omega
                  have i4 : (y : Int) < (m : Int) := by omega
                  have hy64 : IntKind.i64.wrap ((y : Int) + 1) = (y : Int) + 1 := IntWalk.i64_in _ (by omega)
                  clear hoy cy hby hne
                  go_wp2
                  go_quiet (fail)
                  go_wp2
                  go_roundw
                  case rel => exact ⟨y + 1, by omega, by go_num, by have := HBY.out; exact drewN_below this _⟩
                  case measure => simp [intOf]; omega
                · have : y = x := by omega
                  subst this
                  clear hby
                  go_wp2
                  go_roundw
                  case rel => exact ⟨y + 1, by omega, by go_num, HBY.out⟩
                  case measure => simp [intOf]; omega
            · have : x = m := by omega
              subst this
              go_wp2
              go_roundw
              case rel => exact ⟨i + 1, n1, k1, by omega, by go_num, by first | rfl | go_num, by first | rfl | go_num, by omega, by omega, by omega, by omega, fun _ => by omega, (B3.out.trans (HBX.out.mono B3.out.size))⟩
              case measure => simp [intOf]; omega
        · go_wp2_with fail
          refine (sample_any seed a b hs wr).mono ?_
          rintro e w1 ⟨v, r, out, rfl, hd, ho, hb3⟩
          have HD := hid hd
          have HO := hid ho
          have B1 := hid (HB.out.trans (hb3.mono HB.out.size))
          clear hd ho hb3
          go_wp2_with fail
          refine (rsample_any seed a b hs w1).mono ?_
          rintro e w2 ⟨u, r', out', rfl, hd', ho', hb4⟩
          obtain ⟨er, eo⟩ := drawn_both HD.out hd'
          subst er
          subst eo
          obtain ⟨nd, lt, lm⟩ := drawn_facts HD.out
          have RV := hid ((HO.out.below hb4).reads encI_len (by omega))
          have RU := hid (ho'.reads encI_len (by omega))
          have B2 := hid (B1.out.trans (hb4.mono B1.out.size))
          have ND := hid nd
          have LT := hid lt
          have e0 : (r' != r') = false := by simp
          clear hd' ho' hb4 nd lt
          go_wp2_with fail
          refine (ints_same out' v u w2 RV.out RU.out).mono ?_
          rintro e w3 ⟨rfl, hb5⟩
          have RW := hid (RV.out.below hb5)
          have B3 := hid (B2.out.trans (hb5.mono B2.out.size))
          clear hb5
          obtain ⟨_, p, cap, bb, off, rfl, hp, hc⟩ := RW.out
          obtain ⟨m, hm⟩ : ∃ m, m = out'.length := ⟨_, rfl⟩
          rw [← hm] at hp lm ⊢
          have HP := hid hp
          have HC := hid hc
          have HM := hid hm
          clear hp hc hm
          go_wp2
          go_loopw [12, 13] (fun x _ wx => ∃ x' : Nat, x' ≤ m ∧ x = .int .i64 x' ∧ Below w3.heap.size w3 wx) (fun x _ _ => m - (intOf x).toNat)
          case atStart => exact ⟨0, Nat.zero_le _, rfl, Below.refl _ _⟩
          case round =>
            obtain ⟨x, hx, rfl, hbx⟩ := hrel
            have HBX := hid hbx
            clear hbx
            have hx64 : IntKind.i64.wrap ((x : Int) + 1) = (x : Int) + 1 := IntWalk.i64_in _ (by omega)
            by_cases hxm : x < m
            · obtain ⟨rfl, hbl3⟩ := HP.out (by omega)
              have hxl : x < out'.length := by rw [← HM.out]; exact hxm
              obtain ⟨ox, hox⟩ : ∃ ox, ox = out'[x] := ⟨_, rfl⟩
              have oxlt : (ox : Int) < a := LT.out ox (by rw [hox]; exact List.getElem_mem hxl)
              have cx : w3.cell? ⟨bb, off + x, none⟩ = some (.int .i64 (ox : Int)) := by
                have := HC.out x hxl 0 (by omega)
                rw [← hox] at this
                simpa [encI] using this
              have HOX := hid hox
              have CX := hid cx
              clear hox cx
              go_wp2
              go_loopw [13] (fun y wy => ∃ y' : Nat, y' ≤ x ∧ y = .int .i64 y' ∧ Below w3.heap.size w3 wy) (fun y _ => x - (intOf y).toNat)
              case atStart => exact ⟨0, Nat.zero_le _, rfl, HBX.out⟩
              case round =>
                obtain ⟨y, hy, rfl, hby⟩ := hrel
                have HBY := hid hby
                by_cases hyx : y < x
                · have hyl : y < out'.length := by omega
                  obtain ⟨oy, hoy⟩ : ∃ oy, oy = out'[y] := ⟨_, rfl⟩
                  have cy : w3.cell? ⟨bb, off + y, none⟩ = some (.int .i64 (oy : Int)) := by
                    have := HC.out y hyl 0 (by omega)
                    rw [← hoy] at this
                    simpa [encI] using this
                  have c0 := (hby.cell (p := ⟨bb, off + x, none⟩) hbl3).trans CX.out
                  have c1 := (hby.cell (p := ⟨bb, off + y, none⟩) hbl3).trans cy
                  have hne : ox ≠ oy := by
                    rw [HOX.out, hoy]
                    intro e
                    have := (List.getElem_inj ND.out).1 e
                    omega
                  have q0 : ((ox : Int) == (oy : Int)) = false := by simp; omega
                  have q1 : decide ((ox : Int) < 0) = false := by rw [decide_eq_false_iff_not]; omega
                  have q2 : decide (a ≤ (ox : Int)) = false := by rw [decide_eq_false_iff_not]; omega
                  have i1 : (0 : Int) ≤ (x : Int) := by omega
                  have i2 : (x : Int) < (m : Int) := by omega
                  have i3 : (0 : Int) ≤ (y : Int) := by omega
                  have i4 : (y : Int) < (m : Int) := by omega
                  have hy64 : IntKind.i64.wrap ((y : Int) + 1) = (y : Int) + 1 := IntWalk.i64_in _ (by omega)
                  clear hoy cy hby hne
                  go_wp2
                  go_quiet (fail)
                  go_wp2
                  go_roundw
                  case rel => exact ⟨y + 1, by omega, by go_num, by have := HBY.out; exact drewN_below this _⟩
                  case measure => simp [intOf]; omega
                · have : y = x := by omega
                  subst this
                  clear hby
                  go_wp2
                  go_roundw
                  case rel => exact ⟨y + 1, by omega, by go_num, HBY.out⟩
                  case measure => simp [intOf]; omega
            · have : x = m := by omega
              subst this
              go_wp2
              go_roundw
              case rel => exact ⟨i + 1, n1, k1, by omega, by go_num, by first | rfl | go_num, by first | rfl | go_num, by omega, by omega, by omega, by omega, fun _ => by omega, (B3.out.trans (HBX.out.mono B3.out.size))⟩
              case measure => simp [intOf]; omega
    · have : i = 2 := by omega
      subst this
      obtain ⟨f1, f2, f3⟩ := HAB.out (by omega)
      obtain ⟨n, rfl⟩ : ∃ n : Nat, a = n := ⟨a.toNat, by omega⟩
      obtain ⟨k, rfl⟩ : ∃ k : Nat, b = k := ⟨b.toNat, by omega⟩
      have ok1 : okS (n : Int) (n : Int) := by unfold okS; omega
      have ok2 : okS (n : Int) (k : Int) := by unfold okS; omega
      go_wp2_with fail
      refine (sample_any seed n n hs wr).mono ?_
      rintro e w1 ⟨v, r, out, rfl, hd, ho, hb3⟩
      obtain ⟨rfl, hdr⟩ : r = 0 ∧ Drawn seed n n out := by
        rcases hd with ⟨_, h1, h2⟩ | ⟨h1, _⟩
        · exact ⟨h1, by simpa using h2⟩
        · exact absurd ok1 h1
      have B1 := hid (HB.out.trans (hb3.mono HB.out.size))
      have OV := hid ho
      have DR := hid hdr
      clear hd ho hb3 hdr
      go_wp2_with fail
      refine (sample_any seed n k hs w1).mono ?_
      rintro e w2 ⟨u, r, out2, rfl, hd, ho, hb4⟩
      obtain ⟨rfl, hdr⟩ : r = 0 ∧ Drawn seed n k out2 := by
        rcases hd with ⟨_, h1, h2⟩ | ⟨h1, _⟩
        · exact ⟨h1, by simpa using h2⟩
        · exact absurd ok2 h1
      have B2 := hid (B1.out.trans (hb4.mono B1.out.size))
      have O2 := hid (OV.out.below hb4)
      have RU := hid (ho.reads encI_len (by obtain ⟨_, _, h⟩ := hdr; rw [h.length]; omega))
      have ET := hid (show out2 = out.take k by
        obtain ⟨x, f, h⟩ := DR.out
        exact drawn_same hdr (h.first k (by omega)))
      have EL : out.length = n := by obtain ⟨x, f, h⟩ := DR.out; exact h.length
      have ELH := hid EL
      clear hd ho hb4 hdr ok1 ok2
      rcases O2.out.2 with ⟨hv, hn0⟩ | ⟨g, cap, cur, hv, _, hg, hnc, _⟩
      · subst hv
        have : n = 0 := by omega
        subst this
        have : k = 0 := by omega
        subst this
        have RN := hid (show ReadsE encI 1 w2 u [] by have := RU.out; rw [ET.out] at this; simpa using this)
        clear EL hn0
        go_wp2_with fail
        refine (ints_same [] u _ w2 RN.out (ReadsE.nil _ _ _)).mono ?_
        rintro e w3 ⟨rfl, hb5⟩
        have B3 := hid (B2.out.trans (hb5.mono B2.out.size))
        clear hb5
        go_wp2_with fail
        refine (awake_calls w3).mono ?_
        rintro e w4 ⟨rfl, hb6⟩
        have B4 := hid (B3.out.trans (hb6.mono B3.out.size))
        clear hb6
        go_wp2
        go_ret
        exact ⟨rfl, B4.out⟩
      · rw [EL] at hv hnc
        subst hv
        have RN := hid (show ReadsE encI 1 w2 u (out.take k) by have := RU.out; rwa [ET.out] at this)
        have RV := hid (show ReadsE encI 1 w2 (.slice (some ⟨g, 0, none⟩) k cap) (out.take k) from reads_take (n := n) (by have := (OwnE.reads encI_len O2.out (by rw [EL]; omega)); exact this) k (by omega) ELH.out)
        have s1 : (0 : Int) ≤ (k : Int) := by omega
        have s2 : (k : Int) ≤ (cap : Int) := by omega
        clear EL hg
        go_wp2_with fail
        refine (ints_same (out.take k) u _ w2 RN.out RV.out).mono ?_
        rintro e w3 ⟨rfl, hb5⟩
        have B3 := hid (B2.out.trans (hb5.mono B2.out.size))
        clear hb5
        go_wp2_with fail
        refine (awake_calls w3).mono ?_
        rintro e w4 ⟨rfl, hb6⟩
        have B4 := hid (B3.out.trans (hb6.mono B3.out.size))
        clear hb6
        go_wp2
        go_ret
        exact ⟨rfl, B4.out⟩
end Go.Proofs.Ytnnbdjfeagcbdaa
