/- Drawing a sample: what is drawn; the closure at. -/
import Derived.Maps.Own
import Derived.Maps.OwnOps
import Derived.Maps.OwnSet
import Derived.StillTailTactics
import Derived.Test.YtnnbdjfeagcbdaaJRow
import Derived.Test.YtnnbdjfeagcbdaaJOpen
namespace Go.Proofs.Ytnnbdjfeagcbdaa
set_option linter.unusedSimpArgs false
set_option linter.unusedVariables false
open Go.RowKit
attribute [local go_sem] Oper.semAt_some

def upd (f : Nat → Nat) (k v : Nat) : Nat → Nat := fun i => if i = k then v else f i
/-- Behind i draws below n, n - 1, .. from a seed: the state, where the elements are, what was drawn. -/
inductive SmpR (seed n : Nat) : Nat → Nat → (Nat → Nat) → List Nat → Prop
  | zero : SmpR seed n 0 seed id []
  | step (i x : Nat) (f : Nat → Nat) (out : List Nat) (y j : Nat) (h : SmpR seed n i x f out) (hb : BelR (n - i) x y j) : SmpR seed n (i + 1) y (upd f (i + j) (f i)) (out ++ [f (i + j)])
theorem SmpR.same {seed n i x : Nat} {f : Nat → Nat} {out : List Nat} (h : SmpR seed n i x f out) : ∀ {x' : Nat} {f' : Nat → Nat} {out' : List Nat}, SmpR seed n i x' f' out' → x = x' ∧ f = f' ∧ out = out' := by
  induction h with
  | zero => intro x' f' out' h'; cases h'; exact ⟨rfl, rfl, rfl⟩
  | step i x f out y j h hb ih =>
    intro x' f' out' h'
    cases h' with
    | step _ x2 f2 out2 y2 j2 h2 hb2 =>
      obtain ⟨rfl, rfl, rfl⟩ := ih h2
      obtain ⟨rfl, rfl⟩ := hb.same hb2
      exact ⟨rfl, rfl, rfl⟩
theorem SmpR.length {seed n i x : Nat} {f : Nat → Nat} {out : List Nat} (h : SmpR seed n i x f out) : out.length = i := by
  induction h with
  | zero => rfl
  | step i x f out y j h hb ih => simp [ih]
theorem SmpR.lt {seed n i x : Nat} {f : Nat → Nat} {out : List Nat} (h : SmpR seed n i x f out) (hs : seed < 18446744073709551616) (hi : i ≤ n) : x < 18446744073709551616 := by
  cases h with
  | zero => exact hs
  | step i x f out y j h hb => exact (hb.lt (by omega)).1
/-- The first draws are those of a shorter sample. -/
theorem SmpR.first {seed n i x : Nat} {f : Nat → Nat} {out : List Nat} (h : SmpR seed n i x f out) : ∀ k, k ≤ i → ∃ x' f', SmpR seed n k x' f' (out.take k) := by
  induction h with
  | zero => intro k hk; have : k = 0 := by omega
            subst this; exact ⟨_, _, .zero⟩
  | step i x f out y j h hb ih =>
    intro k hk
    have hl := h.length
    by_cases hki : k ≤ i
    · rw [List.take_append_of_le_length (by omega)]
      exact ih k hki
    · have : k = i + 1 := by omega
      subst this
      rw [List.take_of_length_le (by simp [hl])]
      exact ⟨_, _, .step i x f out y j h hb⟩
/-- All are different, and below n. -/
theorem SmpR.inv {seed n i x : Nat} {f : Nat → Nat} {out : List Nat} (h : SmpR seed n i x f out) (hi : i ≤ n) :
    (∀ t, i ≤ t → t < n → f t < n) ∧ (∀ s t, i ≤ s → s < n → i ≤ t → t < n → f s = f t → s = t) ∧ out.Nodup ∧ (∀ o ∈ out, o < n ∧ ∀ t, i ≤ t → t < n → f t ≠ o) := by
  induction h with
  | zero => exact ⟨fun t _ h => h, fun s t _ _ _ _ h => h, List.nodup_nil, by simp⟩
  | step i x f out y j h hb ih =>
    obtain ⟨h1, h2, h3, h4⟩ := ih (by omega)
    have hj := (hb.lt (by omega)).2
    refine ⟨fun t ht htn => ?_, fun s t hs hsn ht htn e => ?_, ?_, fun o ho => ?_⟩
    · unfold upd; split
      · exact h1 i (by omega) (by omega)
      · exact h1 t (by omega) htn
    · unfold upd at e
      by_cases es : s = i + j <;> by_cases et : t = i + j
      · omega
      · rw [if_pos es, if_neg et] at e; have := h2 i t (by omega) (by omega) (by omega) htn e; omega
      · rw [if_neg es, if_pos et] at e; have := h2 s i (by omega) hsn (by omega) (by omega) e; omega
      · rw [if_neg es, if_neg et] at e; exact h2 s t (by omega) hsn (by omega) htn e
    · rw [List.nodup_append]
      refine ⟨h3, by simp, fun a ha b hb' => ?_⟩
      simp at hb'
      subst hb'
      exact fun e => (h4 a ha).2 (i + j) (by omega) (by omega) e.symm
    · rcases List.mem_append.1 ho with ho | ho
      · refine ⟨(h4 o ho).1, fun t ht htn => ?_⟩
        unfold upd; split
        · exact (h4 o ho).2 i (by omega) (by omega)
        · exact (h4 o ho).2 t (by omega) htn
      · simp at ho
        subst ho
        refine ⟨h1 _ (by omega) (by omega), fun t ht htn e => ?_⟩
        unfold upd at e
        by_cases et : t = i + j
        · rw [if_pos et] at e
          have := h2 i (i + j) (by omega) (by omega) (by omega) (by omega) e
          omega
        · rw [if_neg et] at e
          exact et (h2 t (i + j) (by omega) htn (by omega) (by omega) e)

/-- The map holds where elements are that are not at their own place. -/
def MapF (D : DataW Unit) (f : Nat → Nat) : Prop := Maps.IsMap D ∧ ∀ i : Nat, i ≤ 4000000 → f i ≤ 4000000 ∧
  (Maps.has D (.int .i64 (i : Int)) = true → D.atKey (.int .i64 (i : Int)) (.lit (.int .i64 0)) = .lit (.int .i64 (f i : Int))) ∧ (Maps.has D (.int .i64 (i : Int)) = false → f i = i)
theorem MapF.nil : MapF (.map []) id := ⟨Maps.isMap_empty, fun i hi => ⟨hi, fun h => by simp [Maps.has] at h, fun _ => rfl⟩⟩
theorem MapF.put {D : DataW Unit} {f : Nat → Nat} (h : MapF D f) (k v : Nat) (hk : k ≤ 4000000) (hv : v ≤ 4000000) : MapF (D.put (.int .i64 (k : Int)) (.lit (.int .i64 (v : Int)))) (upd f k v) := by
  refine ⟨h.1.put _ _, fun i hi => ?_⟩
  obtain ⟨h1, h2, h3⟩ := h.2 i hi
  by_cases e : i = k
  · subst e
    simp only [upd, if_pos]
    have hk : WideAt.IsKeyLit (.int .i64 (i : Int)) := trivial
    exact ⟨hv, fun _ => Maps.atKey_put_same h.1 hk _ _, fun hh => by rw [Maps.has_put_same h.1 hk] at hh; cases hh⟩
  · have ne : (Lit.int .i64 (i : Int)) ≠ .int .i64 (k : Int) := fun hh => e (by injection hh with _ hh; omega)
    simp only [upd, if_neg e]
    rw [Maps.has_put_other ne, Maps.atKey_put_other ne]
    exact ⟨h1, h2, h3⟩

theorem int_law : Maps.Keyed Try.prog 3 := Maps.int_keyed Try.underlying3
theorem key_int (i : Nat) (h : i ≤ 4000000) : keyOf Try.prog 3 (.int .i64 (i : Int)) = some (.int .i64 (i : Int)) := by
  have hw : (Lit.int .i64 (i : Int)).wf = true := by rw [Lit.wf_int_iff, i64_lo, i64_hi]; omega
  simp [keyOf, mapKey, Try.underlying3, hw]
theorem elem_int (i : Nat) (h : i ≤ 4000000) : plainElem (H := Unit) Try.prog 3 (.int .i64 (i : Int)) = some (.lit (.int .i64 (i : Int)), []) :=
  plainElem_int Try.underlying3 (by rw [Lit.wf_int_iff, i64_lo, i64_hi]; omega)

set_option maxRecDepth 100000 in
set_option maxHeartbeats 2000000 in
theorem at1_calls (i : Nat) (hi : i ≤ 4000000) (C M n : Nat) (D : DataW Unit) (f : Nat → Nat) (hD : MapF D f) (w : World) (hc : w.cell? ⟨C, 0, none⟩ = some (.map (some M))) (hown : w.ownsMap Try.prog 3 (plainElem Try.prog 3) M n D) :
    Calls Try.prog 46 #[.int .i64 i, .pointer (some ⟨C, 0, none⟩)] w fun e w' => e = .returned (.int .i64 (f i : Nat)) ∧ w' = w := by
  obtain ⟨h1, h2, h3⟩ := hD.2 i hi
  have hlt := World.block_lt_of_cell? _ _ hc
  have HO := hid hown
  have KEY := hid (key_int i hi)
  have H2 := hid h2
  have H3 := hid h3
  clear hown h2 h3
  cases hh : Maps.has D (.int .i64 (i : Int))
  · have e := hid (H3.out hh)
    rw [e.out]
    go_enter Try.func46, Try.ntmps46
    go_wp2_with (at_lookup; refine wpList_lookup_own_ok_int _ rfl (.tmp 7) (.tmp 8) 101 rfl 3 3 .i64 int_law Try.underlying101 Try.underlying3 (Try.zeroValue3 _) M n D rfl HO.out _ (.int .i64 (i : Int)) rfl KEY.out ?_; intro c hat hwc; clear hat hwc)
    go_ret
    exact ⟨rfl, rfl⟩
  · have e := hid (H2.out hh)
    go_enter Try.func46, Try.ntmps46
    go_wp2_with (at_lookup; refine wpList_lookup_own_ok_int _ rfl (.tmp 7) (.tmp 8) 101 rfl 3 3 .i64 int_law Try.underlying101 Try.underlying3 (Try.zeroValue3 _) M n D rfl HO.out _ (.int .i64 (i : Int)) rfl KEY.out ?_; intro c hat hwc; have hat2 := hid hat; clear hat hwc)
    go_ret
    have := hat2.out.symm.trans e.out
    simp at this
    subst this
    exact ⟨rfl, rfl⟩
end Go.Proofs.Ytnnbdjfeagcbdaa
