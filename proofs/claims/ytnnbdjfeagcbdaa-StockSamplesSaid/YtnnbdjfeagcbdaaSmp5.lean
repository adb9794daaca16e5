/- Sample and the reference's Sample, for any numbers; ints. -/
import Derived.Test.YtnnbdjfeagcbdaaSmp4
namespace Go.Proofs.Ytnnbdjfeagcbdaa
set_option linter.unusedSimpArgs false
set_option linter.unusedVariables false
open Go.RowKit
attribute [local go_sem] Oper.semAt_some

def okS (a b : Int) : Prop := 0 ≤ b ∧ b ≤ a ∧ a ≤ 1000000
instance (a b : Int) : Decidable (okS a b) := by unfold okS; infer_instance
/-- What a call of Sample comes to. -/
def SmpPost (seed : Nat) (a b : Int) (w : World) (e : Ending) (w' : World) : Prop :=
  ∃ v r out, e = .returned (.tuple #[v, .int .i64 r]) ∧ ((okS a b ∧ r = 0 ∧ Drawn seed a.toNat b.toNat out) ∨ (¬ okS a b ∧ r = 1 ∧ out = [])) ∧ OwnE encI 1 3 w.heap.size w' v out ∧ Below w.heap.size w w'
theorem drawn_same {seed n k : Nat} {o o' : List Nat} (h : Drawn seed n k o) (h' : Drawn seed n k o') : o = o' := by
  obtain ⟨x, f, h⟩ := h
  obtain ⟨x', f', h'⟩ := h'
  exact (h.same h').2.2

set_option maxRecDepth 100000 in
set_option maxHeartbeats 2000000 in
theorem sample_any (seed : Nat) (a b : Int) (hs : seed < 18446744073709551616) (w : World) :
    Calls Try.prog 13 #[.int .u64 seed, .int .i64 a, .int .i64 b] w (SmpPost seed a b w) := by
  by_cases h1 : b < 0
  · go_enter Try.func13, Try.ntmps13
    go_wp2
    refine bodyPost_ret (v := .tuple #[.slice none 0 0, .int .i64 1]) (by simp [results, Try.results13, go_sem]) rfl ⟨_, _, [], rfl, .inr ⟨by unfold okS; omega, rfl, rfl⟩, OwnE.nil _ _, Below.refl _ _⟩
  by_cases h2 : a < b
  · go_enter Try.func13, Try.ntmps13
    go_wp2
    refine bodyPost_ret (v := .tuple #[.slice none 0 0, .int .i64 1]) (by simp [results, Try.results13, go_sem]) rfl ⟨_, _, [], rfl, .inr ⟨by unfold okS; omega, rfl, rfl⟩, OwnE.nil _ _, Below.refl _ _⟩
  by_cases h3 : 1000000 < a
  · go_enter Try.func13, Try.ntmps13
    go_wp2
    refine bodyPost_ret (v := .tuple #[.slice none 0 0, .int .i64 1]) (by simp [results, Try.results13, go_sem]) rfl ⟨_, _, [], rfl, .inr ⟨by unfold okS; omega, rfl, rfl⟩, OwnE.nil _ _, Below.refl _ _⟩
  · obtain ⟨n, rfl⟩ : ∃ n : Nat, a = n := ⟨a.toNat, by omega⟩
    obtain ⟨k, rfl⟩ : ∃ k : Nat, b = k := ⟨b.toNat, by omega⟩
    refine (sample_calls seed n k hs (by omega) (by omega) w).mono ?_
    rintro e w' ⟨v, out, rfl, hd, ho, hb⟩
    exact ⟨v, 0, out, rfl, .inl ⟨by unfold okS; omega, rfl, by simpa using hd⟩, ho, hb⟩

set_option maxRecDepth 100000 in
set_option maxHeartbeats 2000000 in
theorem rsample_any (seed : Nat) (a b : Int) (hs : seed < 18446744073709551616) (w : World) :
    Calls Try.prog 14 #[.int .u64 seed, .int .i64 a, .int .i64 b] w (SmpPost seed a b w) := by
  by_cases h1 : b < 0
  · go_enter Try.func14, Try.ntmps14
    go_wp2
    refine bodyPost_ret (v := .tuple #[.slice none 0 0, .int .i64 1]) (by simp [results, Try.results14, go_sem]) rfl ⟨_, _, [], rfl, .inr ⟨by unfold okS; omega, rfl, rfl⟩, OwnE.nil _ _, Below.refl _ _⟩
  by_cases h2 : a < b
  · go_enter Try.func14, Try.ntmps14
    go_wp2
    refine bodyPost_ret (v := .tuple #[.slice none 0 0, .int .i64 1]) (by simp [results, Try.results14, go_sem]) rfl ⟨_, _, [], rfl, .inr ⟨by unfold okS; omega, rfl, rfl⟩, OwnE.nil _ _, Below.refl _ _⟩
  by_cases h3 : 1000000 < a
  · go_enter Try.func14, Try.ntmps14
    go_wp2
    refine bodyPost_ret (v := .tuple #[.slice none 0 0, .int .i64 1]) (by simp [results, Try.results14, go_sem]) rfl ⟨_, _, [], rfl, .inr ⟨by unfold okS; omega, rfl, rfl⟩, OwnE.nil _ _, Below.refl _ _⟩
  · obtain ⟨n, rfl⟩ : ∃ n : Nat, a = n := ⟨a.toNat, by omega⟩
    obtain ⟨k, rfl⟩ : ∃ k : Nat, b = k := ⟨b.toNat, by omega⟩
    refine (rsample_calls seed n k hs (by omega) (by omega) w).mono ?_
    rintro e w' ⟨v, out, rfl, hd, ho, hb⟩
    exact ⟨v, 0, out, rfl, .inl ⟨by unfold okS; omega, rfl, by simpa using hd⟩, ho, hb⟩

set_option maxRecDepth 100000 in
set_option maxHeartbeats 2000000 in
theorem ints_same (l : List Nat) (v u : Value) (w : World) (hv : ReadsE encI 1 w v l) (hu : ReadsE encI 1 w u l) :
    Calls Try.prog 15 #[v, u] w fun e w' => e = .returned (.bool true) ∧ Below w.heap.size w w' := by
  obtain ⟨hm, p, cap, b, off, rfl, hp, hc⟩ := hv
  obtain ⟨_, p', cap', b', off', rfl, hp', hc'⟩ := hu
  obtain ⟨n, hn⟩ : ∃ n, n = l.length := ⟨_, rfl⟩
  rw [← hn] at hp hm hp' ⊢
  have HP := hid hp
  have HC := hid hc
  have HP' := hid hp'
  have HC' := hid hc'
  have HN := hid hn
  clear hp hc hp' hc' hn
  have d0 : ((n : Int) != (n : Int)) = false := by simp
  go_enter Try.func15, Try.ntmps15
  go_wp2
  go_loopw [5] (fun a wr => ∃ k : Nat, k ≤ n ∧ a = .int .i64 k ∧ Below w.heap.size w wr) (fun a _ => n - (intOf a).toNat)
  case atStart => exact ⟨0, Nat.zero_le _, rfl, Below.refl _ _⟩
  case round =>
    obtain ⟨k, hk, rfl, hb⟩ := hrel
    have HB := hid hb
    by_cases hkn : k < n
    · obtain ⟨rfl, hl1⟩ := HP.out (by omega)
      obtain ⟨rfl, hl2⟩ := HP'.out (by omega)
      have hkl : k < l.length := by rw [← HN.out]; exact hkn
      obtain ⟨x, hx⟩ : ∃ x, x = l[k] := ⟨_, rfl⟩
      have c0 : wr.cell? ⟨b, off + k, none⟩ = some (.int .i64 (x : Int)) := by
        have := (hb.cell (p := ⟨b, off + k * 1 + 0, none⟩) hl1).trans (HC.out k hkl 0 (by omega))
        rw [← hx] at this
        simpa [encI] using this
      have c1 : wr.cell? ⟨b', off' + k, none⟩ = some (.int .i64 (x : Int)) := by
        have := (hb.cell (p := ⟨b', off' + k * 1 + 0, none⟩) hl2).trans (HC'.out k hkl 0 (by omega))
        rw [← hx] at this
        simpa [encI] using this
      have i1 : (0 : Int) ≤ (k : Int) := by omega
      have i2 : (k : Int) < (n : Int) := by omega
      have h64 : IntKind.i64.wrap ((k : Int) + 1) = (k : Int) + 1 := IntWalk.i64_in _ (by omega)
      clear hx hb
      go_wp2
      go_quiet (fail)
      go_wp2
      go_roundw
      case rel => exact ⟨k + 1, by omega, by go_num, by have := HB.out; exact drewN_below this _⟩
      case measure => simp [intOf]; omega
    · have : k = n := by omega
      subst this
      clear hb
      go_wp2
      go_ret
      exact ⟨rfl, HB.out⟩
end Go.Proofs.Ytnnbdjfeagcbdaa
