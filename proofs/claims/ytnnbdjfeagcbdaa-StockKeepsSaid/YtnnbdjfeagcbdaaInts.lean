/- Slices of integers that are read; slices.IndexFunc, ContainsFunc; are. -/
import Derived.Test.YtnnbdjfeagcbdaaStk2
namespace Go.Proofs.Ytnnbdjfeagcbdaa
set_option linter.unusedSimpArgs false
set_option linter.unusedVariables false
open Go.RowKit Go.Shelf

/-- A slice value that reads as integers. -/
def IntsAt (w : World) (v : Value) (xs : List Int) : Prop :=
  xs.length ≤ 1000000000 ∧ ((∃ a cap, v = .slice a 0 cap ∧ xs = []) ∨ ∃ b off cap, v = .slice (some ⟨b, off, none⟩) xs.length cap ∧ b < w.heap.size ∧ ∀ k, k < xs.length → w.cell? ⟨b, off + k, none⟩ = some (.int .i64 (xs[k]?.getD 0)))
theorem IntsAt.below {w w' : World} {v : Value} {xs : List Int} (h : IntsAt w v xs) (hb : Below w.heap.size w w') : IntsAt w' v xs := by
  refine ⟨h.1, h.2.imp id ?_⟩
  rintro ⟨b, off, cap, hv, hlt, hc⟩
  exact ⟨b, off, cap, hv, Nat.lt_of_lt_of_le hlt hb.size, fun k hk => (hb.cell (p := ⟨b, off + k, none⟩) hlt).trans (hc k hk)⟩
/-- A closure that tells something of an integer. -/
def TestsOf (wf : FuncId) (caps : Array Value) (pr : Int → Bool) (w : World) : Prop :=
  ∀ (n : Int) (W : World), Below w.heap.size w W → Calls Try.prog wf (#[.int .i64 n] ++ caps) W fun e W' => e = .returned (.bool (pr n)) ∧ Below W.heap.size W W'

def ixOf (pr : Int → Bool) (xs : List Int) : Int := match xs.findIdx? pr with | some i => i | none => -1
theorem ixOf_at (pr : Int → Bool) (xs : List Int) (k : Nat) (hk : k < xs.length) (h : ∀ j, j < k → pr (xs[j]?.getD 0) = false) (hp : pr (xs[k]?.getD 0) = true) : ixOf pr xs = k := by
  have : xs.findIdx? pr = some k := by
    rw [List.findIdx?_eq_some_iff_getElem]
    refine ⟨hk, ?_, fun j hj => ?_⟩
    · simpa [List.getElem?_eq_getElem hk] using hp
    · have := h j hj; simpa [List.getElem?_eq_getElem (Nat.lt_trans hj hk)] using this
  simp [ixOf, this]
theorem ixOf_none (pr : Int → Bool) (xs : List Int) (h : ∀ j, j < xs.length → pr (xs[j]?.getD 0) = false) : ixOf pr xs = -1 := by
  have : xs.findIdx? pr = none := by
    rw [List.findIdx?_eq_none_iff]
    intro x hx
    obtain ⟨j, hj, rfl⟩ := List.getElem_of_mem hx
    have := h j hj
    simpa [List.getElem?_eq_getElem hj] using this
  simp [ixOf, this]
theorem ixOf_ge (pr : Int → Bool) (xs : List Int) : decide (0 ≤ ixOf pr xs) = xs.any pr := by
  unfold ixOf
  cases h : xs.findIdx? pr with
  | none =>
    rw [List.findIdx?_eq_none_iff] at h
    have : xs.any pr = false := by rw [List.any_eq_false]; intro x hx; simp [h x hx]
    simp [this]
  | some i =>
    rw [List.findIdx?_eq_some_iff_getElem] at h
    obtain ⟨hi, hp, _⟩ := h
    have : xs.any pr = true := List.any_eq_true.2 ⟨_, List.getElem_mem hi, hp⟩
    simp [this]

set_option maxRecDepth 100000 in
set_option maxHeartbeats 2000000 in
theorem indexFunc_calls (w : World) (v : Value) (xs : List Int) (hv : IntsAt w v xs) (wf : FuncId) (caps : Array Value) (pr : Int → Bool)
    (hwf : TestsOf wf caps pr w) (eg : ∀ args w, (callFunc wf args).run Try.prog w = .ok (.enter wf args) w) :
    Calls Try.prog 110 #[v, .func (.func wf) #[] caps] w fun e w' => e = .returned (.int .i64 (ixOf pr xs)) ∧ Below w.heap.size w w' := by
  obtain ⟨hm, ⟨a, cap, rfl, rfl⟩ | ⟨b, off, cap, rfl, hlt, hc⟩⟩ := hv
  · clear hwf eg
    go_enter Try.func110, Try.ntmps110
    go_wp2
    refine wp_loop_rounds 1 ?_
    rw [rounds_succ]
    go_wp2
    go_ret
    exact ⟨by rw [ixOf_none pr [] (fun j hj => absurd hj (by simp))]; rfl, Below.refl _ _⟩
  · have HW := hid hwf
    have EG := hid eg
    have HC := hid hc
    clear hwf eg hc
    obtain ⟨len, hl⟩ : ∃ len, len = xs.length := ⟨_, rfl⟩
    rw [← hl] at hm ⊢
    have HL := hid hl
    clear hl
    go_enter Try.func110, Try.ntmps110
    go_wp2
    go_loopw [5, 8] (fun _ i wr => ∃ k : Nat, k ≤ len ∧ i = .int .i64 k ∧ (∀ j, j < k → pr (xs[j]?.getD 0) = false) ∧ Below w.heap.size w wr) (fun _ i _ => len - (intOf i).toNat)
    case atStart => exact ⟨0, Nat.zero_le _, rfl, fun j hj => absurd hj (by omega), Below.refl _ _⟩
    case round =>
      obtain ⟨k, hk, rfl, hno, hb⟩ := hrel
      have HN := hid hno
      have HB := hid hb
      clear hno hb
      by_cases hlk : k < len
      · have c0 : wr.cell? ⟨b, off + k, none⟩ = some (.int .i64 (xs[k]?.getD 0)) := (HB.out.cell (p := ⟨b, off + k, none⟩) hlt).trans (HC.out k (by rw [← HL.out]; exact hlk))
        have eg' := EG.out
        go_wp2_with fail
        refine (HW.out _ _ HB.out).mono ?_
        rintro e w1 ⟨rfl, hb1⟩
        have HB1 := hid hb1
        clear hb1 eg' c0
        cases hp : pr (xs[k]?.getD 0)
        · have HP := hid hp
          clear hp
          go_wp2
          go_roundw
          case rel => exact ⟨k + 1, by omega, by go_num, fun j hj => (by rcases Nat.lt_succ_iff_lt_or_eq.1 hj with h | h; exact HN.out j h; rw [h]; exact HP.out), HB.out.trans (HB1.out.mono HB.out.size)⟩
          case measure => simp [intOf]; omega
        · have HP := hid hp
          clear hp
          go_wp2
          go_ret
          exact ⟨by rw [ixOf_at pr xs k (by rw [← HL.out]; exact hlk) HN.out HP.out]; rfl, HB.out.trans (HB1.out.mono HB.out.size)⟩
      · go_wp2
        go_ret
        exact ⟨by rw [ixOf_none pr xs (fun j hj => HN.out j (by rw [← HL.out] at hj; omega))]; rfl, HB.out⟩

set_option maxHeartbeats 1000000 in
theorem containsFunc_calls (w : World) (v : Value) (xs : List Int) (hv : IntsAt w v xs) (wf : FuncId) (caps : Array Value) (pr : Int → Bool)
    (hwf : TestsOf wf caps pr w) (eg : ∀ args w, (callFunc wf args).run Try.prog w = .ok (.enter wf args) w) :
    Calls Try.prog 97 #[v, .func (.func wf) #[] caps] w fun e w' => e = .returned (.bool (xs.any pr)) ∧ Below w.heap.size w w' := by
  have H := hid (indexFunc_calls w v xs hv wf caps pr hwf eg)
  have HX := hid (ixOf_ge pr xs)
  clear hv hwf eg
  go_enter Try.func97, Try.ntmps97
  go_wp2_with fail
  refine H.out.mono ?_
  rintro e w1 ⟨rfl, hb1⟩
  go_wp2
  go_ret
  exact ⟨by rw [← HX.out]; rfl, hb1⟩

def inB (most n : Int) : Bool := decide (1 ≤ n) && decide (n ≤ most)
set_option maxHeartbeats 1000000 in
theorem are1_calls (n most : Int) (B : Nat) (w : World) (h : w.cell? ⟨B, 0, none⟩ = some (.int .i64 most)) :
    Calls Try.prog 98 #[.int .i64 n, .pointer (some ⟨B, 0, none⟩)] w fun e w' => e = .returned (.bool (!inB most n)) ∧ Below w.heap.size w w' := by
  by_cases h1 : n < 1
  · go_enter Try.func98, Try.ntmps98
    go_wp2
    go_ret
    exact ⟨by simp [inB]; omega, Below.refl _ _⟩
  · by_cases h2 : most < n
    · go_enter Try.func98, Try.ntmps98
      go_wp2
      go_ret
      exact ⟨by simp [inB]; omega, Below.refl _ _⟩
    · go_enter Try.func98, Try.ntmps98
      go_wp2
      go_ret
      exact ⟨by simp [inB]; omega, Below.refl _ _⟩

set_option maxHeartbeats 1000000 in
theorem are_calls (most : Int) (w : World) (v : Value) (xs : List Int) (hv : IntsAt w v xs) :
    Calls Try.prog 53 #[.int .i64 most, v] w fun e w' => e = .returned (.bool (xs.all (inB most))) ∧ Below w.heap.size w w' := by
  have HV := hid hv
  clear hv
  have hmf : ∀ (fn : Fn) (first cap : Array Value) (w : World), (Instr.makeFunc fn first cap).run Try.prog w = .ok (.func fn first cap) w := fun _ _ _ _ => rfl
  go_enter Try.func53, Try.ntmps53
  go_wp2_with fail
  refine (containsFunc_calls _ v xs (HV.out.below ((Below.refl _ _).alloc (Nat.le_refl _) _)) 98 #[.pointer (some ⟨w.heap.size, 0, none⟩)] (fun n => !inB most n) ?_ (enters_of Try.func98 (by kernel_rfl) rfl)).mono ?_
  · intro n W hb
    exact are1_calls n most w.heap.size W (by rw [hb.cell (p := ⟨w.heap.size, 0, none⟩) (by simp)]; simp [(Cells.new w #[.int .i64 most] 3).cell])
  · rintro e w1 ⟨rfl, hb1⟩
    go_wp2
    go_ret
    exact ⟨by simp [List.all_eq_not_any_not], Below.trans ((Below.refl _ _).alloc (Nat.le_refl _) _) (hb1.mono (by simp))⟩
end Go.Proofs.Ytnnbdjfeagcbdaa
