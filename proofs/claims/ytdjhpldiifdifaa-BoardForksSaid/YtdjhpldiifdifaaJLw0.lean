/- The law's ints and events at equal lists. -/
import Derived.Test.YtdjhpldiifdifaaJRm1
namespace Go.Proofs.Ytdjhpldiifdifaa
set_option linter.unusedSimpArgs false
set_option linter.unusedVariables false
open Go.RowKit Go.Shelf
attribute [local go_sem] Oper.semAt_some
attribute [local go_sem ↓] Go.wp_at_zero Go.wp_at_succ

/-- Two rows of integers that read the same. -/
theorem ints_same {w : World} {u v : Value} {l : List Int} (hu : ReadsE encI 1 w u l) (hv : ReadsE encI 1 w v l) :
    Calls Try.prog 26 #[u, v] w fun e w' => e = .returned (.bool true) ∧ ∃ m, w' = w.drewN m := by
  obtain ⟨hm, p, cap, b, off, rfl, hp, hc⟩ := hu
  obtain ⟨_, p2, cap2, b2, off2, rfl, hp2, hc2⟩ := hv
  obtain ⟨n, hn⟩ : ∃ n, n = l.length := ⟨_, rfl⟩
  have HN := hid hn
  rw [← hn] at hp hp2 hm ⊢
  have HP := hid hp
  have HP2 := hid hp2
  have HC := hid hc
  have HC2 := hid hc2
  obtain ⟨R, hR⟩ : ∃ R : Ending → World → Prop, R = fun e w' => e = .returned (.bool true) ∧ ∃ m, w' = w.drewN m := ⟨_, rfl⟩
  have FIN := hid (show ∀ m, R (.returned (.bool true)) (w.drewN m) by intro m; rw [hR]; exact ⟨rfl, m, rfl⟩)
  rw [← hR]
  have g0 : ((n : Int) != (n : Int)) = false := by simp
  clear hR hn hp hp2 hc hc2
  go_enter Try.func26, Try.ntmps26
  go_wp2
  go_loopg [5] n (fun k s5 wr => ∃ i : Nat, i + k = n ∧ s5 = .int .i64 i ∧ ∃ m, wr = w.drewN m)
  case atStart => exact ⟨0, by omega, rfl, 0, rfl⟩
  case round =>
    obtain ⟨i, hik, rfl, m, rfl⟩ := hrel
    have HIK := hid hik
    clear hik
    by_cases hin : i < n
    · have hil : i < l.length := by rw [← HN.out]; exact hin
      obtain ⟨rfl, hb⟩ := HP.out (by omega)
      obtain ⟨rfl, hb2⟩ := HP2.out (by omega)
      have c := HC.out i hil 0 (by omega)
      have c2 := HC2.out i hil 0 (by omega)
      simp at c c2
      have gi : (i : Int) < (n : Int) := by omega
      have gi4 : (0 : Int) ≤ (i : Int) := by omega
      obtain ⟨x, hx⟩ : ∃ x, x = l[i] := ⟨_, rfl⟩
      rw [← hx] at c c2
      have g1 : (x != x) = false := by simp
      clear hx
      go_wp2
      go_big_quiet (fail)
      go_wp2
      go_roundg (n - (i + 1))
      · exact ⟨i + 1, by omega, by go_num, _, rfl⟩
      · have := HIK.out; omega
    · have hin' : i = n := by have := HIK.out; omega
      subst hin'
      have g1 : decide ((i : Int) < (i : Int)) = false := by simp
      go_wp2
      exact FIN.out _
/-- Two rows of events that read the same. -/
theorem events_same {w : World} {u v : Value} {l : List Ev} (hu : ReadsE encEv 5 w u l) (hv : ReadsE encEv 5 w v l) :
    Calls Try.prog 61 #[u, v] w fun e w' => e = .returned (.bool true) ∧ ∃ m, w' = w.drewN m := by
  obtain ⟨hm, p, cap, b, off, rfl, hp, hc⟩ := hu
  obtain ⟨_, p2, cap2, b2, off2, rfl, hp2, hc2⟩ := hv
  obtain ⟨n, hn⟩ : ∃ n, n = l.length := ⟨_, rfl⟩
  have HN := hid hn
  rw [← hn] at hp hp2 hm ⊢
  have HP := hid hp
  have HP2 := hid hp2
  have HC := hid hc
  have HC2 := hid hc2
  obtain ⟨R, hR⟩ : ∃ R : Ending → World → Prop, R = fun e w' => e = .returned (.bool true) ∧ ∃ m, w' = w.drewN m := ⟨_, rfl⟩
  have FIN := hid (show ∀ m, R (.returned (.bool true)) (w.drewN m) by intro m; rw [hR]; exact ⟨rfl, m, rfl⟩)
  rw [← hR]
  have g0 : ((n : Int) != (n : Int)) = false := by simp
  clear hR hn hp hp2 hc hc2
  go_enter Try.func61, Try.ntmps61
  go_wp2
  go_loopg [5] n (fun k s5 wr => ∃ i : Nat, i + k = n ∧ s5 = .int .i64 i ∧ ∃ m, wr = w.drewN m)
  case atStart => exact ⟨0, by omega, rfl, 0, rfl⟩
  case round =>
    obtain ⟨i, hik, rfl, m, rfl⟩ := hrel
    have HIK := hid hik
    clear hik
    by_cases hin : i < n
    · have hil : i < l.length := by rw [← HN.out]; exact hin
      obtain ⟨rfl, hb⟩ := HP.out (by omega)
      obtain ⟨rfl, hb2⟩ := HP2.out (by omega)
      have c0 := HC.out i hil 0 (by omega)
      have d0 := HC2.out i hil 0 (by omega)
      have c1 := HC.out i hil 1 (by omega)
      have d1 := HC2.out i hil 1 (by omega)
      have c2 := HC.out i hil 2 (by omega)
      have d2 := HC2.out i hil 2 (by omega)
      have c3 := HC.out i hil 3 (by omega)
      have d3 := HC2.out i hil 3 (by omega)
      have c4 := HC.out i hil 4 (by omega)
      have d4 := HC2.out i hil 4 (by omega)
      simp [encEv] at c0 d0 c1 d1 c2 d2 c3 d3 c4 d4
      have gi : (i : Int) < (n : Int) := by omega
      have gi4 : (0 : Int) ≤ (i : Int) := by omega
      obtain ⟨x, hx⟩ : ∃ x, x = l[i] := ⟨_, rfl⟩
      rw [← hx] at c0 d0 c1 d1 c2 d2 c3 d3 c4 d4
      have he : ∀ w, (Op.equalIn 10000 148 (.agg #[.int .i64 x.w, .int .i64 x.o, .int .i64 x.x, .int .i64 x.p, .int .i64 x.q]) (.agg #[.int .i64 x.w, .int .i64 x.o, .int .i64 x.x, .int .i64 x.p, .int .i64 x.q])).run Try.prog w = .ok true w := fun w => by simp [go_sem]
      clear hx
      go_wp2
      go_big_quiet (fail)
      go_wp2
      go_roundg (n - (i + 1))
      · exact ⟨i + 1, by omega, by go_num, _, rfl⟩
      · have := HIK.out; omega
    · have hin' : i = n := by have := HIK.out; omega
      subst hin'
      have g1 : decide ((i : Int) < (i : Int)) = false := by simp
      go_wp2
      exact FIN.out _
end Go.Proofs.Ytdjhpldiifdifaa
