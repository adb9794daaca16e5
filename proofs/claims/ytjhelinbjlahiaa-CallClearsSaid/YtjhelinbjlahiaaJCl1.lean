/- call.in, takesPart, sums, Check. call.Check. -/
import Derived.Test.YtjhelinbjlahiaaJMem
namespace Go.Proofs.Ytjhelinbjlahiaa
set_option linter.unusedSimpArgs false
set_option linter.unusedVariables false
open Go.RowKit
attribute [local go_sem] Oper.semAt_some
attribute [local go_sem ↓] Go.wp_at_zero Go.wp_at_succ

def inC (x lo hi : Int) : Bool := decide (lo ≤ x ∧ x ≤ hi)
theorem in_calls (x lo hi : Int) (w : World) : Calls Try.prog 40 #[.int .i64 x, .int .i64 lo, .int .i64 hi] w fun e w' => e = .returned (.bool (inC x lo hi)) ∧ w' = w := by
  unfold inC
  by_cases h1 : lo ≤ x
  · by_cases h2 : x ≤ hi
    · go_enter Try.func40, Try.ntmps40
      go_wp2
      go_ret
      exact ⟨by simp; omega, rfl⟩
    · go_enter Try.func40, Try.ntmps40
      go_wp2
      go_ret
      exact ⟨by simp; omega, rfl⟩
  · go_enter Try.func40, Try.ntmps40
    go_wp2
    go_ret
    exact ⟨by simp; omega, rfl⟩
theorem takes_calls (b : Bd) (x : Int) (w : World) : Calls Try.prog 66 #[.agg #[.int .i64 b.s, .int .i64 b.p, .int .i64 b.q], .int .i64 x] w fun e w' => e = .returned (.bool (b.takes x)) ∧ Below w.heap.size w w' := by
  unfold Bd.takes
  by_cases h1 : b.s = 1
  · have e1 : (b.s == 1) = true := by simpa using h1
    rw [if_pos h1]
    clear h1
    go_enter Try.func66, Try.ntmps66
    go_wp2
    go_ret
    exact ⟨by simp, Below.alloc (Below.refl _ _) (Nat.le_refl _) _⟩
  · have e1 : (b.s == 1) = false := by simpa using h1
    rw [if_neg h1]
    clear h1
    go_enter Try.func66, Try.ntmps66
    go_wp2
    go_ret
    exact ⟨by simp, Below.alloc (Below.refl _ _) (Nat.le_refl _) _⟩

theorem box_after {w w2 : World} {vs : Array Value} {ty : TypeId} (h : Below (w.alloc (.cells vs ty)).heap.size (w.alloc (.cells vs ty)) w2) : Cells w2 w.heap.size vs ty := (Cells.new w vs ty).below h (by rw [World.size_alloc]; omega)
set_option maxRecDepth 100000 in
set_option maxHeartbeats 4000000 in
theorem sums_calls {w : World} {v : Value} {l : List Bd} (hv : ReadsE encBd 3 w v l) (hl : l.length ≤ 4096) (hok : ∀ b ∈ l, b.ok) (x : Int) :
    Calls Try.prog 47 #[v, .int .i64 x] w fun e w' => e = .returned (.tuple #[.int .i64 (dem l x), .int .i64 (sup l x)]) ∧ Below w.heap.size w w' := by
  obtain ⟨hm, p, cap, bb, off, rfl, hp, hc⟩ := hv
  obtain ⟨n, hn⟩ : ∃ n, n = l.length := ⟨_, rfl⟩
  rw [← hn] at hp hm hl ⊢
  have HN := hid hn
  have HP := hid hp
  have HC := hid hc
  have HOK := hid hok
  obtain ⟨R, hR⟩ : ∃ R : Ending → World → Prop, R = fun e w' => e = .returned (.tuple #[.int .i64 (dem l x), .int .i64 (sup l x)]) ∧ Below w.heap.size w w' := ⟨_, rfl⟩
  have HR := hid hR
  rw [← hR]
  clear hR hn hp hc hok
  go_enter Try.func47, Try.ntmps47
  go_wp2
  go_loopg [10, 4, 5] n (fun k s10 s4 s5 wr => ∃ i : Nat, i + k = n ∧ s10 = .int .i64 i ∧ s4 = .int .i64 (dem (l.take i) x) ∧ s5 = .int .i64 (sup (l.take i) x) ∧ Below w.heap.size w wr)
  case atStart => exact ⟨0, by omega, rfl, rfl, rfl, Below.refl _ _⟩
  case round =>
    obtain ⟨i, hik, rfl, rfl, rfl, hb⟩ := hrel
    have HIK := hid hik
    have HB := hid hb
    clear hik hb
    by_cases hin : i < n
    · have hil : i < l.length := by rw [← HN.out]; exact hin
      obtain ⟨rfl, hbb⟩ := HP.out (by omega)
      have c0 := (HB.out.cell (p := ⟨bb, off + i * 3 + 0, none⟩) hbb).trans (HC.out i hil 0 (by omega))
      have c1 := (HB.out.cell (p := ⟨bb, off + i * 3 + 1, none⟩) hbb).trans (HC.out i hil 1 (by omega))
      have c2 := (HB.out.cell (p := ⟨bb, off + i * 3 + 2, none⟩) hbb).trans (HC.out i hil 2 (by omega))
      simp [encBd] at c0 c1 c2
      have gi : (i : Int) < (n : Int) := by omega
      have gi4 : (0 : Int) ≤ (i : Int) := by omega
      obtain ⟨b, hx⟩ : ∃ b, b = l[i] := ⟨_, rfl⟩
      rw [← hx] at c0 c1 c2
      have okb := HOK.out b (by rw [hx]; exact List.getElem_mem _)
      have ht : l.take (i + 1) = l.take i ++ [b] := by rw [hx]; exact take_snoc hil
      have hdm := sumQ_bound (buyT x) (l := l.take i) (fun y hy => HOK.out y (List.mem_of_mem_take hy))
      have hsm := sumQ_bound (selT x) (l := l.take i) (fun y hy => HOK.out y (List.mem_of_mem_take hy))
      rw [List.length_take] at hdm hsm
      have hmin : min i l.length ≤ 4096 := by omega
      have DE := hid (show dem (l.take (i + 1)) x = dem (l.take i) x + if buyT x b then b.q else 0 by rw [ht]; exact sumQ_snoc _ _ _)
      have SU := hid (show sup (l.take (i + 1)) x = sup (l.take i) x + if selT x b then b.q else 0 by rw [ht]; exact sumQ_snoc _ _ _)
      obtain ⟨d, hd⟩ : ∃ d, d = dem (l.take i) x := ⟨_, rfl⟩
      obtain ⟨s, hs⟩ : ∃ s, s = sup (l.take i) x := ⟨_, rfl⟩
      have hdm' : 0 ≤ d ∧ d ≤ 4096000000000 := by rw [hd]; unfold dem; omega
      have hsm' : 0 ≤ s ∧ s ≤ 4096000000000 := by rw [hs]; unfold sup; omega
      rw [← hd] at DE ⊢
      rw [← hs] at SU ⊢
      obtain ⟨ok1, ok2, ok3, ok4, ok5⟩ := okb
      have ed : IntKind.i64.wrap (d + b.q) = d + b.q := IntWalk.i64_in _ (by omega)
      have es : IntKind.i64.wrap (s + b.q) = s + b.q := IntWalk.i64_in _ (by omega)
      clear hx ht hdm hsm hd hs ok1
      have NX := hid (show ∀ wr' w2, Below wr.heap.size wr wr' → Below wr'.heap.size wr' w2 → Below w.heap.size w w2 from fun wr' w2 h1 h2 => HB.out.trans ((h1.mono HB.out.size).trans (h2.mono (Nat.le_trans HB.out.size h1.size))))
      go_wp2_with fail
      refine (takes_calls b x _).mono ?_
      rintro e w2 ⟨rfl, hb2⟩
      have cb := box_after hb2
      have hl := cb.lt
      have k0 := cb.cell 0
      have k2 := cb.cell 2
      simp at k0 k2
      have B2 := hid (show Below w.heap.size w w2 from HB.out.trans (((Below.refl wr.heap.size wr).alloc (Nat.le_refl _) _).mono HB.out.size |>.trans (hb2.mono (by rw [World.size_alloc]; have := HB.out.size; omega))))
      clear hb2 cb
      cases ht : b.takes x with
      | false =>
        have DE2 := hid (show dem (l.take (i + 1)) x = d by
          rw [DE.out]
          have : buyT x b = false := by
            unfold Bd.takes at ht
            unfold buyT
            split at ht <;> simp_all
          rw [this]; simp)
        have SU2 := hid (show sup (l.take (i + 1)) x = s by
          rw [SU.out]
          have : selT x b = false := by
            unfold Bd.takes at ht
            unfold selT
            split at ht <;> simp_all
          rw [this]; simp)
        clear ht
        go_wp2
        go_roundg (n - (i + 1))
        · exact ⟨i + 1, by omega, by go_num, by rw [DE2.out], by rw [SU2.out], B2.out⟩
        · have := HIK.out; omega
      | true =>
        by_cases hs1 : b.s = 1
        · have e1 : (b.s == 1) = true := by simpa using hs1
          have DE2 := hid (show dem (l.take (i + 1)) x = d + b.q by
            rw [DE.out]
            have : buyT x b = true := by
              unfold Bd.takes at ht
              unfold buyT
              split at ht <;> simp_all
            rw [this]; simp)
          have SU2 := hid (show sup (l.take (i + 1)) x = s by
            rw [SU.out]
            have : selT x b = false := by unfold selT; simp [hs1]
            rw [this]; simp)
          clear ht hs1
          go_wp2
          go_roundg (n - (i + 1))
          · exact ⟨i + 1, by omega, by go_num, by rw [DE2.out], by rw [SU2.out], B2.out⟩
          · have := HIK.out; omega
        · have e1 : (b.s == 1) = false := by simpa using hs1
          have DE2 := hid (show dem (l.take (i + 1)) x = d by
            rw [DE.out]
            have : buyT x b = false := by unfold buyT; simp [hs1]
            rw [this]; simp)
          have SU2 := hid (show sup (l.take (i + 1)) x = s + b.q by
            rw [SU.out]
            have : selT x b = true := by
              unfold Bd.takes at ht
              unfold selT
              split at ht <;> simp_all
            rw [this]; simp)
          clear ht hs1
          go_wp2
          go_roundg (n - (i + 1))
          · exact ⟨i + 1, by omega, by go_num, by rw [DE2.out], by rw [SU2.out], B2.out⟩
          · have := HIK.out; omega
    · have hin' : i = n := by have := HIK.out; omega
      subst hin'
      have g1 : decide ((i : Int) < (i : Int)) = false := by simp
      have FIN := hid (show R (.returned (.tuple #[.int .i64 (dem (l.take i) x), .int .i64 (sup (l.take i) x)])) wr by rw [HR.out, HN.out, List.take_length]; exact ⟨rfl, HB.out⟩)
      go_wp2
      first | exact FIN.out | (go_ret; exact FIN.out)

end Go.Proofs.Ytjhelinbjlahiaa
namespace Go.Proofs.Ytjhelinbjlahiaa
set_option linter.unusedSimpArgs false
set_option linter.unusedVariables false
open Go.RowKit
attribute [local go_sem] Oper.semAt_some
attribute [local go_sem ↓] Go.wp_at_zero Go.wp_at_succ

set_option maxRecDepth 100000 in
set_option maxHeartbeats 4000000 in
theorem check_calls {w : World} {v : Value} {l : List Bd} (hv : ReadsE encBd 3 w v l) :
    Calls Try.prog 38 #[v] w fun e w' => e = .returned (.int .i64 (chk l)) ∧ Below w.heap.size w w' := by
  obtain ⟨hm, p, cap, bb, off, rfl, hp, hc⟩ := hv
  obtain ⟨n, hn⟩ : ∃ n, n = l.length := ⟨_, rfl⟩
  unfold chk
  rw [← hn] at hp hm ⊢
  have HN := hid hn
  have HP := hid hp
  have HC := hid hc
  obtain ⟨R, hR⟩ : ∃ R : Ending → World → Prop, R = fun e w' => e = .returned (.int .i64 (if 4096 < n then 2 else if ∀ b ∈ l, b.ok then 0 else 1)) ∧ Below w.heap.size w w' := ⟨_, rfl⟩
  have HR := hid hR
  rw [← hR]
  clear hR hn hp hc
  by_cases hbig : 4096 < n
  · have g1 : (4096 : Int) < (n : Int) := by omega
    have FIN := hid (show R (.returned (.int .i64 2)) w by rw [HR.out, if_pos hbig]; exact ⟨rfl, Below.refl _ _⟩)
    go_enter Try.func38, Try.ntmps38
    go_wp2
    first | exact FIN.out | (go_ret; exact FIN.out)
  · have g1 : ¬ (4096 : Int) < (n : Int) := by omega
    have BAD := hid (show ∀ w' (i : Nat) (h : i < l.length), ¬ l[i].ok → Below w.heap.size w w' → R (.returned (.int .i64 1)) w' from fun w' i h h1 h2 => by
      rw [HR.out, if_neg hbig, if_neg (fun hh => h1 (hh _ (List.getElem_mem _)))]
      exact ⟨rfl, h2⟩)
    go_enter Try.func38, Try.ntmps38
    go_wp2
    go_loopg [10] n (fun k s10 wr => ∃ i : Nat, i + k = n ∧ s10 = .int .i64 i ∧ (∀ b ∈ l.take i, b.ok) ∧ Below w.heap.size w wr)
    case atStart => exact ⟨0, by omega, rfl, by simp, Below.refl _ _⟩
    case round =>
      obtain ⟨i, hik, rfl, hoks, hb⟩ := hrel
      have HIK := hid hik
      have HB := hid hb
      have HOKS := hid hoks
      clear hik hb hoks
      by_cases hin : i < n
      · have hil : i < l.length := by rw [← HN.out]; exact hin
        obtain ⟨rfl, hbb⟩ := HP.out (by omega)
        have c0 := (HB.out.cell (p := ⟨bb, off + i * 3 + 0, none⟩) hbb).trans (HC.out i hil 0 (by omega))
        have c1 := (HB.out.cell (p := ⟨bb, off + i * 3 + 1, none⟩) hbb).trans (HC.out i hil 1 (by omega))
        have c2 := (HB.out.cell (p := ⟨bb, off + i * 3 + 2, none⟩) hbb).trans (HC.out i hil 2 (by omega))
        simp [encBd] at c0 c1 c2
        have gi : (i : Int) < (n : Int) := by omega
        have gi4 : (0 : Int) ≤ (i : Int) := by omega
        have BAD2 := hid (BAD.out)
        obtain ⟨b, hx⟩ : ∃ b, b = l[i] := ⟨_, rfl⟩
        have BX := hid (fun w' (h1 : ¬ b.ok) h2 => BAD.out w' i hil (by rw [← hx]; exact h1) h2)
        rw [← hx] at c0 c1 c2
        have ht : l.take (i + 1) = l.take i ++ [b] := by rw [hx]; exact take_snoc hil
        have NX := hid (fun (hb : b.ok) => show ∀ y ∈ l.take (i + 1), y.ok by
          rw [ht]
          intro y hy
          rcases List.mem_append.1 hy with h1 | h1
          · exact HOKS.out y h1
          · rw [List.mem_singleton.1 h1]; exact hb)
        clear hx ht BAD2
        have BB := hid (show Below w.heap.size w (wr.alloc (.cells #[.int .i64 b.s, .int .i64 b.p, .int .i64 b.q] 77)) from HB.out.trans (((Below.refl wr.heap.size wr).alloc (Nat.le_refl _) _).mono HB.out.size))
        by_cases hs : b.s = 1 ∨ b.s = 2
        · by_cases h2 : 1 ≤ b.p ∧ b.p ≤ 1000000
          · have i2 : inC b.p 1 1000000 = true := by unfold inC; simpa using h2
            by_cases h3 : 1 ≤ b.q ∧ b.q ≤ 1000000000
            · have i3 : inC b.q 1 1000000000 = true := by unfold inC; simpa using h3
              have N2 := hid (NX.out ⟨hs, h2.1, h2.2, h3.1, h3.2⟩)
              clear h2 h3
              rcases hs with hs | hs
              · have e1 : (b.s != 1) = false := by simp [hs]
                clear hs
                go_wp2_with (go_at_call 40; refine (in_calls _ _ _ _).mono ?_; rintro e wx ⟨rfl, rfl⟩)
                go_roundg (n - (i + 1))
                · exact ⟨i + 1, by omega, by go_num, N2.out, BB.out⟩
                · have := HIK.out; omega
              · have e1 : (b.s != 1) = true := by simp [hs]
                have e2 : (b.s != 2) = false := by simp [hs]
                clear hs
                go_wp2_with (go_at_call 40; refine (in_calls _ _ _ _).mono ?_; rintro e wx ⟨rfl, rfl⟩)
                go_roundg (n - (i + 1))
                · exact ⟨i + 1, by omega, by go_num, N2.out, BB.out⟩
                · have := HIK.out; omega
            · have i3 : inC b.q 1 1000000000 = false := by unfold inC; simpa using h3
              have FIN := hid (BX.out _ (fun hh => h3 ⟨hh.2.2.2.1, hh.2.2.2.2⟩) BB.out)
              clear h2 h3
              rcases hs with hs | hs
              · have e1 : (b.s != 1) = false := by simp [hs]
                clear hs
                go_wp2_with (go_at_call 40; refine (in_calls _ _ _ _).mono ?_; rintro e wx ⟨rfl, rfl⟩)
                first | exact FIN.out | (go_ret; exact FIN.out)
              · have e1 : (b.s != 1) = true := by simp [hs]
                have e2 : (b.s != 2) = false := by simp [hs]
                clear hs
                go_wp2_with (go_at_call 40; refine (in_calls _ _ _ _).mono ?_; rintro e wx ⟨rfl, rfl⟩)
                first | exact FIN.out | (go_ret; exact FIN.out)
          · have i2 : inC b.p 1 1000000 = false := by unfold inC; simpa using h2
            have FIN := hid (BX.out _ (fun hh => h2 ⟨hh.2.1, hh.2.2.1⟩) BB.out)
            clear h2
            rcases hs with hs | hs
            · have e1 : (b.s != 1) = false := by simp [hs]
              clear hs
              go_wp2_with (go_at_call 40; refine (in_calls _ _ _ _).mono ?_; rintro e wx ⟨rfl, rfl⟩)
              first | exact FIN.out | (go_ret; exact FIN.out)
            · have e1 : (b.s != 1) = true := by simp [hs]
              have e2 : (b.s != 2) = false := by simp [hs]
              clear hs
              go_wp2_with (go_at_call 40; refine (in_calls _ _ _ _).mono ?_; rintro e wx ⟨rfl, rfl⟩)
              first | exact FIN.out | (go_ret; exact FIN.out)
        · have e1 : (b.s != 1) = true := by simp; omega
          have e2 : (b.s != 2) = true := by simp; omega
          have FIN := hid (BX.out _ (fun hh => hs hh.1) BB.out)
          clear hs
          go_wp2
          first | exact FIN.out | (go_ret; exact FIN.out)
      · have hin' : i = n := by have := HIK.out; omega
        subst hin'
        have g1 : decide ((i : Int) < (i : Int)) = false := by simp
        have FIN := hid (show R (.returned (.int .i64 0)) wr by
          rw [HR.out, if_neg hbig, if_pos (by have := HOKS.out; rwa [HN.out, List.take_length] at this)]; exact ⟨rfl, HB.out⟩)
        go_wp2
        first | exact FIN.out | (go_ret; exact FIN.out)
end Go.Proofs.Ytjhelinbjlahiaa
