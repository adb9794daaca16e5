/- Bids in plain Lean: demand and supply. No program in sight. call.in, takesPart, sums, Check. call.Check. Doubly linked lists in memory. No function of the program in sight. The board's map of entries; ownership by colours. No function of the program in sight. A side of the board in memory. No function of the program in sight. -/
import Derived.Maps.OwnSet
import Derived.Test.YtepldjidkomclaaGreatJMem
import Derived.Test.YtepldjidkomclaaGreatJCSo0
namespace Go.Proofs.YtepldjidkomclaaGreat.Ca
set_option linter.unusedSimpArgs false
set_option linter.unusedVariables false
open Go.RowKit
structure Bd where
  s : Int
  p : Int
  q : Int
deriving DecidableEq
def encBd (b : Bd) : List Value := [.int .i64 b.s, .int .i64 b.p, .int .i64 b.q]
theorem encBd_len (b : Bd) : (encBd b).length = 3 := rfl
theorem encBd_one (b : Bd) : ∀ u ∈ encBd b, u.oneCell' = true := by
  intro u hu
  simp only [encBd, List.mem_cons, List.not_mem_nil, or_false] at hu
  rcases hu with rfl | rfl | rfl <;> rfl
def Bd.ok (b : Bd) : Prop := (b.s = 1 ∨ b.s = 2) ∧ 1 ≤ b.p ∧ b.p ≤ 1000000 ∧ 1 ≤ b.q ∧ b.q ≤ 1000000000
instance (b : Bd) : Decidable b.ok := by unfold Bd.ok; infer_instance
def Bd.takes (b : Bd) (x : Int) : Bool := if b.s = 1 then decide (x ≤ b.p) else decide (b.p ≤ x)
def sumQ (f : Bd → Bool) : List Bd → Int
  | [] => 0
  | b :: l => (if f b then b.q else 0) + sumQ f l
theorem sumQ_app (f : Bd → Bool) (l m : List Bd) : sumQ f (l ++ m) = sumQ f l + sumQ f m := by
  induction l with
  | nil => simp [sumQ]
  | cons b l ih => simp only [List.cons_append, sumQ, ih]; omega
theorem sumQ_snoc (f : Bd → Bool) (l : List Bd) (b : Bd) : sumQ f (l ++ [b]) = sumQ f l + if f b then b.q else 0 := by rw [sumQ_app]; simp [sumQ]
theorem sumQ_bound (f : Bd → Bool) {l : List Bd} (h : ∀ b ∈ l, b.ok) : 0 ≤ sumQ f l ∧ sumQ f l ≤ 1000000000 * (l.length : Int) := by
  induction l with
  | nil => simp [sumQ]
  | cons b l ih =>
    obtain ⟨h1, h2⟩ := ih fun x hx => h x (List.mem_cons_of_mem _ hx)
    obtain ⟨_, _, _, h3, h4⟩ := h b List.mem_cons_self
    simp only [sumQ, List.length_cons]
    split <;> omega
theorem sumQ_congr {f g : Bd → Bool} {l : List Bd} (h : ∀ b ∈ l, f b = g b) : sumQ f l = sumQ g l := by
  induction l with
  | nil => rfl
  | cons b l ih => simp only [sumQ, h b List.mem_cons_self, ih fun x hx => h x (List.mem_cons_of_mem _ hx)]
def buyT (x : Int) (b : Bd) : Bool := decide (b.s = 1 ∧ x ≤ b.p)
def selT (x : Int) (b : Bd) : Bool := decide (b.s ≠ 1 ∧ b.p ≤ x)
def dem (l : List Bd) (x : Int) : Int := sumQ (buyT x) l
def sup (l : List Bd) (x : Int) : Int := sumQ (selT x) l
def chk (l : List Bd) : Int := if 4096 < l.length then 2 else if ∀ b ∈ l, b.ok then 0 else 1
theorem take_snoc {α : Type} {l : List α} {i : Nat} (h : i < l.length) : l.take (i + 1) = l.take i ++ [l[i]] := by rw [List.take_add_one, List.getElem?_eq_getElem h]; rfl
end Go.Proofs.YtepldjidkomclaaGreat.Ca
namespace Go.Proofs.YtepldjidkomclaaGreat.Ca
set_option linter.unusedSimpArgs false
set_option linter.unusedVariables false
open Go.RowKit
attribute [local go_sem] Oper.semAt_some
attribute [local go_sem ↓] Go.wp_at_zero Go.wp_at_succ
def inC (x lo hi : Int) : Bool := decide (lo ≤ x ∧ x ≤ hi)
theorem in_calls (x lo hi : Int) (w : World) : Calls Tryz.prog 28 #[.int .i64 x, .int .i64 lo, .int .i64 hi] w fun e w' => e = .returned (.bool (inC x lo hi)) ∧ w' = w := by
  unfold inC
  by_cases h1 : lo ≤ x
  · by_cases h2 : x ≤ hi
    · go_enter Tryz.func28, Tryz.ntmps28
      go_wp2
      go_ret
      exact ⟨by simp; omega, rfl⟩
    · go_enter Tryz.func28, Tryz.ntmps28
      go_wp2
      go_ret
      exact ⟨by simp; omega, rfl⟩
  · go_enter Tryz.func28, Tryz.ntmps28
    go_wp2
    go_ret
    exact ⟨by simp; omega, rfl⟩
theorem takes_calls (b : Bd) (x : Int) (w : World) : Calls Tryz.prog 99 #[.agg #[.int .i64 b.s, .int .i64 b.p, .int .i64 b.q], .int .i64 x] w fun e w' => e = .returned (.bool (b.takes x)) ∧ Below w.heap.size w w' := by
  unfold Bd.takes
  by_cases h1 : b.s = 1
  · have e1 : (b.s == 1) = true := by simpa using h1
    rw [if_pos h1]
    clear h1
    go_enter Tryz.func99, Tryz.ntmps99
    go_wp2
    go_ret
    exact ⟨by simp, Below.alloc (Below.refl _ _) (Nat.le_refl _) _⟩
  · have e1 : (b.s == 1) = false := by simpa using h1
    rw [if_neg h1]
    clear h1
    go_enter Tryz.func99, Tryz.ntmps99
    go_wp2
    go_ret
    exact ⟨by simp, Below.alloc (Below.refl _ _) (Nat.le_refl _) _⟩
theorem box_after {w w2 : World} {vs : Array Value} {ty : TypeId} (h : Below (w.alloc (.cells vs ty)).heap.size (w.alloc (.cells vs ty)) w2) : Cells w2 w.heap.size vs ty := (Cells.new w vs ty).below h (by rw [World.size_alloc]; omega)
set_option maxRecDepth 100000 in
set_option maxHeartbeats 4000000 in
theorem sums_calls {w : World} {v : Value} {l : List Bd} (hv : ReadsE encBd 3 w v l) (hl : l.length ≤ 4096) (hok : ∀ b ∈ l, b.ok) (x : Int) :
    Calls Tryz.prog 72 #[v, .int .i64 x] w fun e w' => e = .returned (.tuple #[.int .i64 (dem l x), .int .i64 (sup l x)]) ∧ Below w.heap.size w w' := by
  obtain ⟨hm, p, cap, bb, off, rfl, hp, hc⟩ := hv
  obtain ⟨n, hn⟩ : ∃ n, n = l.length := ⟨_, rfl⟩
  rw [← hn] at hp hm hl ⊢
  have HN := hid hn
  have HP := hid hp
  have HC := hid hc
  have HOK := hid hok
  obtain ⟨R, hR⟩ : ∃ R : Ending → World → Prop, R = fun e w' => e = .returned (.tuple #[.int .i64 (dem l x), .int .i64 (sup l x)]) ∧ Below w.heap.size w w' := ⟨_, rfl⟩
  have HR := hid hR
  rw [← hR]
  clear hR hn hp hc hok
  go_enter Tryz.func72, Tryz.ntmps72
  go_wp2
  go_loopg [10, 4, 5] n (fun k s10 s4 s5 wr => ∃ i : Nat, i + k = n ∧ s10 = .int .i64 i ∧ s4 = .int .i64 (dem (l.take i) x) ∧ s5 = .int .i64 (sup (l.take i) x) ∧ Below w.heap.size w wr)
  case atStart => exact ⟨0, by omega, rfl, rfl, rfl, Below.refl _ _⟩
  case round =>
    obtain ⟨i, hik, rfl, rfl, rfl, hb⟩ := hrel
    have HIK := hid hik
    have HB := hid hb
    clear hik hb
    by_cases hin : i < n
    · have hil : i < l.length := by rw [← HN.out]; exact hin
      obtain ⟨rfl, hbb⟩ := HP.out (by omega)
      have c0 := (HB.out.cell (p := ⟨bb, off + i * 3 + 0, none⟩) hbb).trans (HC.out i hil 0 (by omega))
      have c1 := (HB.out.cell (p := ⟨bb, off + i * 3 + 1, none⟩) hbb).trans (HC.out i hil 1 (by omega))
      have c2 := (HB.out.cell (p := ⟨bb, off + i * 3 + 2, none⟩) hbb).trans (HC.out i hil 2 (by omega))
      simp [encBd] at c0 c1 c2
      have gi : (i : Int) < (n : Int) := by omega
      have gi4 : (0 : Int) ≤ (i : Int) := by omega
      obtain ⟨b, hx⟩ : ∃ b, b = l[i] := ⟨_, rfl⟩
      rw [← hx] at c0 c1 c2
      have okb := HOK.out b (by rw [hx]; exact List.getElem_mem _)
      have ht : l.take (i + 1) = l.take i ++ [b] := by rw [hx]; exact take_snoc hil
      have hdm := sumQ_bound (buyT x) (l := l.take i) (fun y hy => HOK.out y (List.mem_of_mem_take hy))
      have hsm := sumQ_bound (selT x) (l := l.take i) (fun y hy => HOK.out y (List.mem_of_mem_take hy))
      rw [List.length_take] at hdm hsm
      have hmin : min i l.length ≤ 4096 := by omega
      have DE := hid (show dem (l.take (i + 1)) x = dem (l.take i) x + if buyT x b then b.q else 0 by rw [ht]; exact sumQ_snoc _ _ _)
      have SU := hid (show sup (l.take (i + 1)) x = sup (l.take i) x + if selT x b then b.q else 0 by rw [ht]; exact sumQ_snoc _ _ _)
      obtain ⟨d, hd⟩ : ∃ d, d = dem (l.take i) x := ⟨_, rfl⟩
      obtain ⟨s, hs⟩ : ∃ s, s = sup (l.take i) x := ⟨_, rfl⟩
      have hdm' : 0 ≤ d ∧ d ≤ 4096000000000 := by rw [hd]; unfold dem; omega
      have hsm' : 0 ≤ s ∧ s ≤ 4096000000000 := by rw [hs]; unfold sup; omega
      rw [← hd] at DE ⊢
      rw [← hs] at SU ⊢
      obtain ⟨ok1, ok2, ok3, ok4, ok5⟩ := okb
      have ed : IntKind.i64.wrap (d + b.q) = d + b.q := IntWalk.i64_in _ (by omega)
      have es : IntKind.i64.wrap (s + b.q) = s + b.q := IntWalk.i64_in _ (by omega)
      clear hx ht hdm hsm hd hs ok1
      have NX := hid (show ∀ wr' w2, Below wr.heap.size wr wr' → Below wr'.heap.size wr' w2 → Below w.heap.size w w2 from fun wr' w2 h1 h2 => HB.out.trans ((h1.mono HB.out.size).trans (h2.mono (Nat.le_trans HB.out.size h1.size))))
      go_wp2_with fail
      refine (takes_calls b x _).mono ?_
      rintro e w2 ⟨rfl, hb2⟩
      have cb := box_after hb2
      have hl := cb.lt
      have k0 := cb.cell 0
      have k2 := cb.cell 2
      simp at k0 k2
      have B2 := hid (show Below w.heap.size w w2 from HB.out.trans (((Below.refl wr.heap.size wr).alloc (Nat.le_refl _) _).mono HB.out.size |>.trans (hb2.mono (by rw [World.size_alloc]; have := HB.out.size; omega))))
      clear hb2 cb
      cases ht : b.takes x with
      | false =>
        have DE2 := hid (show dem (l.take (i + 1)) x = d by
          rw [DE.out]
          have : buyT x b = false := by
            unfold Bd.takes at ht
            unfold buyT
            split at ht <;> simp_all
          rw [this]; simp)
        have SU2 := hid (show sup (l.take (i + 1)) x = s by
          rw [SU.out]
          have : selT x b = false := by
            unfold Bd.takes at ht
            unfold selT
            split at ht <;> simp_all
          rw [this]; simp)
        clear ht
        go_wp2
        go_roundg (n - (i + 1))
        · exact ⟨i + 1, by omega, by go_num, by rw [DE2.out], by rw [SU2.out], B2.out⟩
        · have := HIK.out; omega
      | true =>
        by_cases hs1 : b.s = 1
        · have e1 : (b.s == 1) = true := by simpa using hs1
          have DE2 := hid (show dem (l.take (i + 1)) x = d + b.q by
            rw [DE.out]
            have : buyT x b = true := by
              unfold Bd.takes at ht
              unfold buyT
              split at ht <;> simp_all
            rw [this]; simp)
          have SU2 := hid (show sup (l.take (i + 1)) x = s by
            rw [SU.out]
            have : selT x b = false := by unfold selT; simp [hs1]
            rw [this]; simp)
          clear ht hs1
          go_wp2
          go_roundg (n - (i + 1))
          · exact ⟨i + 1, by omega, by go_num, by rw [DE2.out], by rw [SU2.out], B2.out⟩
          · have := HIK.out; omega
        · have e1 : (b.s == 1) = false := by simpa using hs1
          have DE2 := hid (show dem (l.take (i + 1)) x = d by
            rw [DE.out]
            have : buyT x b = false := by unfold buyT; simp [hs1]
            rw [this]; simp)
          have SU2 := hid (show sup (l.take (i + 1)) x = s + b.q by
            rw [SU.out]
            have : selT x b = true := by
              unfold Bd.takes at ht
              unfold selT
              split at ht <;> simp_all
            rw [this]; simp)
          clear ht hs1
          go_wp2
          go_roundg (n - (i + 1))
          · exact ⟨i + 1, by omega, by go_num, by rw [DE2.out], by rw [SU2.out], B2.out⟩
          · have := HIK.out; omega
    · have hin' : i = n := by have := HIK.out; omega
      subst hin'
      have g1 : decide ((i : Int) < (i : Int)) = false := by simp
      have FIN := hid (show R (.returned (.tuple #[.int .i64 (dem (l.take i) x), .int .i64 (sup (l.take i) x)])) wr by rw [HR.out, HN.out, List.take_length]; exact ⟨rfl, HB.out⟩)
      go_wp2
      first | exact FIN.out | (go_ret; exact FIN.out)
end Go.Proofs.YtepldjidkomclaaGreat.Ca
namespace Go.Proofs.YtepldjidkomclaaGreat.Ca
set_option linter.unusedSimpArgs false
set_option linter.unusedVariables false
open Go.RowKit
attribute [local go_sem] Oper.semAt_some
attribute [local go_sem ↓] Go.wp_at_zero Go.wp_at_succ
set_option maxRecDepth 100000 in
set_option maxHeartbeats 4000000 in
theorem check_calls {w : World} {v : Value} {l : List Bd} (hv : ReadsE encBd 3 w v l) :
    Calls Tryz.prog 27 #[v] w fun e w' => e = .returned (.int .i64 (chk l)) ∧ Below w.heap.size w w' := by
  obtain ⟨hm, p, cap, bb, off, rfl, hp, hc⟩ := hv
  obtain ⟨n, hn⟩ : ∃ n, n = l.length := ⟨_, rfl⟩
  unfold chk
  rw [← hn] at hp hm ⊢
  have HN := hid hn
  have HP := hid hp
  have HC := hid hc
  obtain ⟨R, hR⟩ : ∃ R : Ending → World → Prop, R = fun e w' => e = .returned (.int .i64 (if 4096 < n then 2 else if ∀ b ∈ l, b.ok then 0 else 1)) ∧ Below w.heap.size w w' := ⟨_, rfl⟩
  have HR := hid hR
  rw [← hR]
  clear hR hn hp hc
  by_cases hbig : 4096 < n
  · have g1 : (4096 : Int) < (n : Int) := by omega
    have FIN := hid (show R (.returned (.int .i64 2)) w by rw [HR.out, if_pos hbig]; exact ⟨rfl, Below.refl _ _⟩)
    go_enter Tryz.func27, Tryz.ntmps27
    go_wp2
    first | exact FIN.out | (go_ret; exact FIN.out)
  · have g1 : ¬ (4096 : Int) < (n : Int) := by omega
    have BAD := hid (show ∀ w' (i : Nat) (h : i < l.length), ¬ l[i].ok → Below w.heap.size w w' → R (.returned (.int .i64 1)) w' from fun w' i h h1 h2 => by
      rw [HR.out, if_neg hbig, if_neg (fun hh => h1 (hh _ (List.getElem_mem _)))]
      exact ⟨rfl, h2⟩)
    go_enter Tryz.func27, Tryz.ntmps27
    go_wp2
    go_loopg [10] n (fun k s10 wr => ∃ i : Nat, i + k = n ∧ s10 = .int .i64 i ∧ (∀ b ∈ l.take i, b.ok) ∧ Below w.heap.size w wr)
    case atStart => exact ⟨0, by omega, rfl, by simp, Below.refl _ _⟩
    case round =>
      obtain ⟨i, hik, rfl, hoks, hb⟩ := hrel
      have HIK := hid hik
      have HB := hid hb
      have HOKS := hid hoks
      clear hik hb hoks
      by_cases hin : i < n
      · have hil : i < l.length := by rw [← HN.out]; exact hin
        obtain ⟨rfl, hbb⟩ := HP.out (by omega)
        have c0 := (HB.out.cell (p := ⟨bb, off + i * 3 + 0, none⟩) hbb).trans (HC.out i hil 0 (by omega))
        have c1 := (HB.out.cell (p := ⟨bb, off + i * 3 + 1, none⟩) hbb).trans (HC.out i hil 1 (by omega))
        have c2 := (HB.out.cell (p := ⟨bb, off + i * 3 + 2, none⟩) hbb).trans (HC.out i hil 2 (by omega))
        simp [encBd] at c0 c1 c2
        have gi : (i : Int) < (n : Int) := by omega
        have gi4 : (0 : Int) ≤ (i : Int) := by omega
        have BAD2 := hid (BAD.out)
        obtain ⟨b, hx⟩ : ∃ b, b = l[i] := ⟨_, rfl⟩
        have BX := hid (fun w' (h1 : ¬ b.ok) h2 => BAD.out w' i hil (by rw [← hx]; exact h1) h2)
        rw [← hx] at c0 c1 c2
        have ht : l.take (i + 1) = l.take i ++ [b] := by rw [hx]; exact take_snoc hil
        have NX := hid (fun (hb : b.ok) => show ∀ y ∈ l.take (i + 1), y.ok by
          rw [ht]
          intro y hy
          rcases List.mem_append.1 hy with h1 | h1
          · exact HOKS.out y h1
          · rw [List.mem_singleton.1 h1]; exact hb)
        clear hx ht BAD2
        have BB := hid (show Below w.heap.size w (wr.alloc (.cells #[.int .i64 b.s, .int .i64 b.p, .int .i64 b.q] 32)) from HB.out.trans (((Below.refl wr.heap.size wr).alloc (Nat.le_refl _) _).mono HB.out.size))
        by_cases hs : b.s = 1 ∨ b.s = 2
        · by_cases h2 : 1 ≤ b.p ∧ b.p ≤ 1000000
          · have i2 : inC b.p 1 1000000 = true := by unfold inC; simpa using h2
            by_cases h3 : 1 ≤ b.q ∧ b.q ≤ 1000000000
            · have i3 : inC b.q 1 1000000000 = true := by unfold inC; simpa using h3
              have N2 := hid (NX.out ⟨hs, h2.1, h2.2, h3.1, h3.2⟩)
              clear h2 h3
              rcases hs with hs | hs
              · have e1 : (b.s != 1) = false := by simp [hs]
                clear hs
                go_wp2_with (go_at_call 28; refine (in_calls _ _ _ _).mono ?_; rintro e wx ⟨rfl, rfl⟩)
                go_roundg (n - (i + 1))
                · exact ⟨i + 1, by omega, by go_num, N2.out, BB.out⟩
                · have := HIK.out; omega
              · have e1 : (b.s != 1) = true := by simp [hs]
                have e2 : (b.s != 2) = false := by simp [hs]
                clear hs
                go_wp2_with (go_at_call 28; refine (in_calls _ _ _ _).mono ?_; rintro e wx ⟨rfl, rfl⟩)
                go_roundg (n - (i + 1))
                · exact ⟨i + 1, by omega, by go_num, N2.out, BB.out⟩
                · have := HIK.out; omega
            · have i3 : inC b.q 1 1000000000 = false := by unfold inC; simpa using h3
              have FIN := hid (BX.out _ (fun hh => h3 ⟨hh.2.2.2.1, hh.2.2.2.2⟩) BB.out)
              clear h2 h3
              rcases hs with hs | hs
              · have e1 : (b.s != 1) = false := by simp [hs]
                clear hs
                go_wp2_with (go_at_call 28; refine (in_calls _ _ _ _).mono ?_; rintro e wx ⟨rfl, rfl⟩)
                first | exact FIN.out | (go_ret; exact FIN.out)
              · have e1 : (b.s != 1) = true := by simp [hs]
                have e2 : (b.s != 2) = false := by simp [hs]
                clear hs
                go_wp2_with (go_at_call 28; refine (in_calls _ _ _ _).mono ?_; rintro e wx ⟨rfl, rfl⟩)
                first | exact FIN.out | (go_ret; exact FIN.out)
          · have i2 : inC b.p 1 1000000 = false := by unfold inC; simpa using h2
            have FIN := hid (BX.out _ (fun hh => h2 ⟨hh.2.1, hh.2.2.1⟩) BB.out)
            clear h2
            rcases hs with hs | hs
            · have e1 : (b.s != 1) = false := by simp [hs]
              clear hs
              go_wp2_with (go_at_call 28; refine (in_calls _ _ _ _).mono ?_; rintro e wx ⟨rfl, rfl⟩)
              first | exact FIN.out | (go_ret; exact FIN.out)
            · have e1 : (b.s != 1) = true := by simp [hs]
              have e2 : (b.s != 2) = false := by simp [hs]
              clear hs
              go_wp2_with (go_at_call 28; refine (in_calls _ _ _ _).mono ?_; rintro e wx ⟨rfl, rfl⟩)
              first | exact FIN.out | (go_ret; exact FIN.out)
        · have e1 : (b.s != 1) = true := by simp; omega
          have e2 : (b.s != 2) = true := by simp; omega
          have FIN := hid (BX.out _ (fun hh => hs hh.1) BB.out)
          clear hs
          go_wp2
          first | exact FIN.out | (go_ret; exact FIN.out)
      · have hin' : i = n := by have := HIK.out; omega
        subst hin'
        have g1 : decide ((i : Int) < (i : Int)) = false := by simp
        have FIN := hid (show R (.returned (.int .i64 0)) wr by
          rw [HR.out, if_neg hbig, if_pos (by have := HOKS.out; rwa [HN.out, List.take_length] at this)]; exact ⟨rfl, HB.out⟩)
        go_wp2
        first | exact FIN.out | (go_ret; exact FIN.out)
end Go.Proofs.YtepldjidkomclaaGreat.Ca
namespace Go.Proofs.YtepldjidkomclaaGreat.Bo
set_option linter.unusedSimpArgs false
set_option linter.unusedVariables false
open Go.RowKit
@[reducible] def pt (b : Nat) : Value := .pointer (some ⟨b, 0, none⟩)
def op : Option Nat → Value
  | none => .pointer none
  | some b => pt b
theorem op_none : op none = .pointer none := rfl
theorem op_some (b : Nat) : op (some b) = .pointer (some ⟨b, 0, none⟩) := rfl
def headO : List (Nat × Nat) → Option Nat → Option Nat
  | [], o => o
  | x :: _, _ => some x.1
def lastO : List (Nat × Nat) → Option Nat → Option Nat
  | [], o => o
  | x :: l, _ => lastO l (some x.1)
def DL (w : World) : Option Nat → List (Nat × Nat) → Option Nat → Prop
  | _, [], _ => True
  | prev, x :: l, next => Cells w x.1 #[op prev, op (headO l next), pt x.2] 148 ∧ DL w (some x.1) l next
theorem headO_app (l m : List (Nat × Nat)) (o : Option Nat) : headO (l ++ m) o = headO l (headO m o) := by cases l <;> rfl
theorem lastO_app : ∀ (l m : List (Nat × Nat)) (o : Option Nat), lastO (l ++ m) o = lastO m (lastO l o)
  | [], _, _ => rfl
  | x :: l, m, _ => lastO_app l m (some x.1)
theorem DL.split {w : World} : ∀ {l m : List (Nat × Nat)} {a b : Option Nat}, DL w a (l ++ m) b ↔ DL w a l (headO m b) ∧ DL w (lastO l a) m b
  | [], m, a, b => by simp [DL, lastO]
  | x :: l, m, a, b => by
    simp only [List.cons_append, DL, lastO, headO_app]
    rw [DL.split (l := l) (m := m)]
    exact and_assoc.symm
theorem DL.kept {X : Nat → Prop} {w w' : World} (hk : Kept X w w') : ∀ {l : List (Nat × Nat)} {a b : Option Nat}, DL w a l b → (∀ x ∈ l, ¬ X x.1) → DL w' a l b
  | [], _, _, _, _ => trivial
  | x :: l, a, b, h, hx => ⟨h.1.kept hk (hx x (by simp)), DL.kept hk h.2 (fun y hy => hx y (List.mem_cons_of_mem _ hy))⟩
theorem DL.mem {w : World} : ∀ {l : List (Nat × Nat)} {a b : Option Nat}, DL w a l b → ∀ x ∈ l, ∃ cs, Cells w x.1 cs 148
  | [], _, _, _, x, hx => by simp at hx
  | y :: l, a, b, h, x, hx => by
    rcases List.mem_cons.1 hx with rfl | hx
    · exact ⟨_, h.1⟩
    · exact DL.mem h.2 x hx
structure Lst (w : World) (L : Nat) (p : Int) (es : List (Nat × Nat)) : Prop where
  c : Cells w L #[.int .i64 p, op (headO es none), op (lastO es none), .int .i64 es.length] 146
  l : DL w none es none
  n : (es.map Prod.fst).Nodup
def Lst.foot (L : Nat) (es : List (Nat × Nat)) (k : Nat) : Prop := k = L ∨ k ∈ es.map Prod.fst
theorem Lst.kept {X : Nat → Prop} {w w' : World} {L : Nat} {p : Int} {es : List (Nat × Nat)} (h : Lst w L p es) (hk : Kept X w w') (hx : ∀ k, Lst.foot L es k → ¬ X k) : Lst w' L p es :=
  ⟨h.c.kept hk (hx L (.inl rfl)), h.l.kept hk (fun x hm => hx x.1 (.inr (List.mem_map.2 ⟨x, hm, rfl⟩))), h.n⟩
theorem Lst.lt {w : World} {L : Nat} {p : Int} {es : List (Nat × Nat)} (h : Lst w L p es) : ∀ k, Lst.foot L es k → k < w.heap.size := by
  rintro k (rfl | hk)
  · exact h.c.lt
  · obtain ⟨x, hx, rfl⟩ := List.mem_map.1 hk
    obtain ⟨cs, hc⟩ := h.l.mem x hx
    exact hc.lt
theorem lastO_snoc (l : List (Nat × Nat)) (x : Nat × Nat) (o : Option Nat) : lastO (l ++ [x]) o = some x.1 := by rw [lastO_app]; rfl
theorem snoc_cases {α : Type} (l : List α) : l = [] ∨ ∃ L q, l = L ++ [q] := by
  rcases List.eq_nil_or_concat l with h | ⟨L, q, h⟩
  · exact .inl h
  · exact .inr ⟨L, q, by rw [h, List.concat_eq_append]⟩
theorem el_lv : (148 : TypeId) ≠ 146 := by decide
theorem Lst.push0 {w' : World} {L : Nat} {p : Int} {E i : Nat} (h1 : Cells w' L #[.int .i64 p, pt E, pt E, .int .i64 1] 146) (h2 : Cells w' E #[.pointer none, .pointer none, pt i] 148) : Lst w' L p ([] ++ [(E, i)]) :=
  ⟨h1, ⟨h2, trivial⟩, by simp⟩
theorem Lst.push1 {w w' : World} {L : Nat} {p : Int} {M : List (Nat × Nat)} {q : Nat × Nat} {E i : Nat} (h : Lst w L p (M ++ [q])) (hE : w.heap.size ≤ E) (hk : Kept (fun k => k = L ∨ k = q.1) w w')
    (h1 : Cells w' L #[.int .i64 p, op (headO (M ++ [q]) none), pt E, .int .i64 ((M ++ [q]).length + 1)] 146) (h2 : Cells w' E #[pt q.1, .pointer none, pt i] 148) (h3 : Cells w' q.1 #[op (lastO M none), pt E, pt q.2] 148) : Lst w' L p ((M ++ [q]) ++ [(E, i)]) := by
  obtain ⟨d1, d2⟩ := DL.split.1 h.l
  have hn := h.n
  rw [List.map_append, List.nodup_append] at hn
  refine ⟨?_, ?_, ?_⟩
  · have e : headO ((M ++ [q]) ++ [(E, i)]) none = headO (M ++ [q]) none := by cases M <;> rfl
    have e2 : (((M ++ [q]) ++ [(E, i)]).length : Int) = ((M ++ [q]).length : Int) + 1 := by rw [List.length_append]; rfl
    rw [lastO_snoc, e, e2]
    exact h1
  · rw [List.append_assoc]
    refine DL.split.2 ⟨d1.kept hk (fun x hx => ?_), h3, h2, trivial⟩
    rintro (h4 | h4)
    · obtain ⟨cs, hc⟩ := d1.mem x hx
      exact hc.ne h.c el_lv h4
    · exact hn.2.2 x.1 (List.mem_map.2 ⟨x, hx, rfl⟩) q.1 (by simp) h4
  · rw [List.map_append, List.nodup_append]
    refine ⟨by rw [List.map_append, List.nodup_append]; exact hn, by simp, fun a ha b hb => ?_⟩
    simp only [List.map_cons, List.map_nil, List.mem_cons, List.not_mem_nil, or_false] at hb
    have := h.lt a (.inr ha)
    omega
theorem Lst.cut {w w' : World} {L : Nat} {p : Int} {pre post : List (Nat × Nat)} {x : Nat × Nat} (h : Lst w L p (pre ++ x :: post)) (hk : Kept (fun k => k = L ∨ k = x.1 ∨ some k = lastO pre none ∨ some k = headO post none) w w')
    (h1 : Cells w' L #[.int .i64 p, op (headO (pre ++ post) none), op (lastO (pre ++ post) none), .int .i64 ((pre ++ post).length)] 146)
    (h2 : ∀ M q, pre = M ++ [q] → Cells w' q.1 #[op (lastO M none), op (headO post none), pt q.2] 148)
    (h3 : ∀ q M, post = q :: M → Cells w' q.1 #[op (lastO pre none), op (headO M none), pt q.2] 148) : Lst w' L p (pre ++ post) := by
  have hn := h.n
  rw [List.map_append, List.map_cons] at hn
  obtain ⟨n1, n2, n3⟩ := List.nodup_append.1 hn
  obtain ⟨n4, n5⟩ := List.nodup_cons.1 n2
  obtain ⟨d1, d2⟩ := DL.split.1 h.l
  refine ⟨h1, DL.split.2 ⟨?_, ?_⟩, ?_⟩
  · rcases snoc_cases pre with rfl | ⟨M, q, rfl⟩
    · trivial
    · obtain ⟨e1, e2⟩ := DL.split.1 d1
      have nM := n1
      rw [List.map_append, List.nodup_append] at nM
      refine DL.split.2 ⟨e1.kept hk (fun y hy => ?_), h2 M q rfl, trivial⟩
      have hyM : y.1 ∈ M.map Prod.fst := List.mem_map.2 ⟨y, hy, rfl⟩
      rintro (h4 | h4 | h4 | h4)
      · obtain ⟨cs, hc⟩ := e1.mem y hy
        exact hc.ne h.c el_lv h4
      · exact n3 y.1 (by rw [List.map_append]; exact List.mem_append_left _ hyM) x.1 (by simp) h4
      · rw [lastO_snoc] at h4
        injection h4 with h4
        exact nM.2.2 y.1 hyM q.1 (by simp) h4
      · cases post with
        | nil => cases h4
        | cons z post =>
          injection h4 with h4
          exact n3 y.1 (by rw [List.map_append]; exact List.mem_append_left _ hyM) z.1 (by simp) h4
  · cases post with
    | nil => trivial
    | cons z post =>
      refine ⟨h3 z post rfl, d2.2.2.kept hk (fun y hy => ?_)⟩
      have hyP : y.1 ∈ post.map Prod.fst := List.mem_map.2 ⟨y, hy, rfl⟩
      rintro (h4 | h4 | h4 | h4)
      · obtain ⟨cs, hc⟩ := d2.2.2.mem y hy
        exact hc.ne h.c el_lv h4
      · exact n4 (by rw [← h4]; exact List.mem_cons_of_mem _ hyP)
      · rcases snoc_cases pre with rfl | ⟨M, q, rfl⟩
        · cases h4
        · rw [lastO_snoc] at h4
          injection h4 with h4
          exact n3 q.1 (by simp) y.1 (List.mem_cons_of_mem _ (List.mem_cons_of_mem _ hyP)) h4.symm
      · injection h4 with h4
        exact (List.nodup_cons.1 n5).1 (by rw [← h4]; exact hyP)
  · rw [List.map_append, List.nodup_append]
    exact ⟨n1, n5, fun a ha b hb => n3 a ha b (List.mem_cons_of_mem _ hb)⟩
end Go.Proofs.YtepldjidkomclaaGreat.Bo
namespace Go.Proofs.YtepldjidkomclaaGreat.Bo
set_option linter.unusedSimpArgs false
set_option linter.unusedVariables false
open Go.RowKit Go.Maps
def rdE : Value → Option (DataW Nat × List MemPlace)
  | .pointer none => some (.lit (.int .i64 (-1)), [])
  | .pointer (some ⟨b, 0, none⟩) => some (.lit (.int .i64 b), [])
  | _ => none
theorem rdE_pt (b : Nat) : rdE (pt b) = some (.lit (.int .i64 b), []) := rfl
theorem kInt : Keyed Tryz.prog 3 := int_keyed (q := .i64) (by kernel_rfl)
theorem mapUnder : Tryz.prog.underlying 67 = some (.map 3 72) := by kernel_rfl
theorem keyInt {k : Int} (h : (Lit.int .i64 k).wf = true) : keyOf Tryz.prog 3 (.int .i64 k) = some (.int .i64 k) := keyOf_int_mk (by kernel_rfl) h
structure MapC (w : World) (b : Nat) (l : List (Int × Nat)) : Prop where
  nodup : (l.map Prod.fst).Nodup
  wf : ∀ x ∈ l, (Lit.int .i64 x.1).wf = true
  own : ∃ D : DataW Nat, w.ownsMap Tryz.prog 3 rdE b l.length D ∧ Maps.size D = l.length ∧ (∀ x ∈ l, ∀ z, D.atKey (.int .i64 x.1) z = .lit (.int .i64 x.2)) ∧ ∀ k, k ∉ l.map Prod.fst → Maps.has D (.int .i64 k) = false
theorem own_tight {P : Program} {k : TypeId} {R : Value → Option (DataW Nat × List MemPlace)} {w : World} {b n : Nat} {D : DataW Nat} (h : w.ownsMap P k R b n D) : w.ownsMap P k R b (Maps.size D) D := by
  obtain ⟨es, clock, hb, F, hs, rfl⟩ := h
  exact ⟨es, clock, hb, F, by simp [Maps.size, length_sorted], rfl⟩
theorem MapC.perm {w : World} {b : Nat} {l m : List (Int × Nat)} (h : MapC w b l) (hp : l.Perm m) : MapC w b m := by
  obtain ⟨D, h1, h2, h3, h4⟩ := h.own
  refine ⟨(hp.map _).nodup_iff.1 h.nodup, fun x hx => h.wf x (hp.mem_iff.2 hx), D, hp.length_eq ▸ h1, hp.length_eq ▸ h2, fun x hx => h3 x (hp.mem_iff.2 hx), fun k hk => h4 k (fun hm => hk ((hp.map _).mem_iff.1 hm))⟩
theorem MapC.kept {X : Nat → Prop} {w w' : World} {b : Nat} {l : List (Int × Nat)} (h : MapC w b l) (hk : Kept X w w') (hx : ¬ X b) : MapC w' b l := by
  obtain ⟨D, ⟨es, clock, hb, hr⟩, hs⟩ := h.own
  exact ⟨h.nodup, h.wf, D, ⟨es, clock, (hk.block b (Array.getElem?_eq_some_iff.1 hb).1 hx).trans hb, hr⟩, hs⟩
theorem MapC.lt {w : World} {b : Nat} {l : List (Int × Nat)} (h : MapC w b l) : b < w.heap.size := by
  obtain ⟨D, h1, _⟩ := h.own
  exact h1.lt
theorem MapC.new (w : World) : MapC (w.alloc (.map #[] 0)) w.heap.size [] :=
  ⟨by simp, by simp, .map [], World.ownsMap_made w _ _ _, rfl, by simp, fun k _ => rfl⟩
theorem MapC.ne {w : World} {b c : Nat} {l : List (Int × Nat)} (h : MapC w b l) {cs : Array Value} {ty : TypeId} (hc : Cells w c cs ty) : c ≠ b := by
  obtain ⟨D, ⟨es, clock, hb, hr⟩, hs⟩ := h.own
  rintro rfl
  have := (show w.heap[c]? = _ from hc).symm.trans hb
  simp at this
theorem Kept.of_turned {w w' : World} {b : Nat} (h : w.mapTurned w' b) : Kept (fun k => k = b) w w' := by
  have hg := h.grown
  exact ⟨hg.os, hg.tape, hg.output, hg.size, fun k hk hx => hg.block k hk (fun e => hx (by injection e))⟩
theorem MapC.len {w : World} {b : Nat} {l : List (Int × Nat)} (h : MapC w b l) (ty : TypeId) : (Builtin.len_ #[67] ty #[.map (some b)]).run Tryz.prog w = .ok (.int .i64 l.length) w := by
  obtain ⟨D, h1, h2, _⟩ := h.own
  rw [h1.len mapUnder ty, h2]
theorem MapC.drop {w : World} {b : Nat} {l : List (Int × Nat)} {k : Int} {e : Nat} (h : MapC w b ((k, e) :: l)) (ty : TypeId) :
    ∃ w', (Builtin.delete_ #[67, 3] ty #[.map (some b), .int .i64 k]).run Tryz.prog w = .ok (.tuple #[]) w' ∧ MapC w' b l ∧ Kept (fun k => k = b) w w' := by
  obtain ⟨D, h1, h2, h3, h4⟩ := h.own
  have hn := h.nodup
  rw [List.map_cons, List.nodup_cons] at hn
  have hkey := keyInt (h.wf (k, e) (by simp))
  obtain ⟨w', hr, h5, h6⟩ := h1.drop kInt mapUnder hkey ty
  have hh : Maps.has D (.int .i64 k) = true := Maps.has_true_of_atKey (h3 (k, e) (by simp))
  have hsz := Maps.size_del (h1.tidy kInt) (k := .int .i64 k)
  rw [hh, h2] at hsz
  simp only [if_true, List.length_cons, Nat.add_right_cancel_iff] at hsz
  refine ⟨w', hr, ⟨hn.2, fun x hx => h.wf x (List.mem_cons_of_mem _ hx), _, hsz ▸ own_tight h5, hsz, fun x hx z => ?_, fun j hj => ?_⟩, Kept.of_turned h6⟩
  · have hne : x.1 ≠ k := fun he => hn.1 (List.mem_map.2 ⟨x, hx, he⟩)
    rw [Maps.atKey_del_other (by simpa using hne)]
    exact h3 x (List.mem_cons_of_mem _ hx) z
  · by_cases hjk : j = k
    · subst hjk
      exact Maps.has_del_same
    · rw [Maps.has_del_other (by simpa using hjk)]
      exact h4 j (by simp only [List.map_cons, List.mem_cons, not_or]; exact ⟨hjk, hj⟩)
theorem MapC.put {w : World} {b : Nat} {l : List (Int × Nat)} {k : Int} {e : Nat} (h : MapC w b l) (hlen : l.length ≤ 1000000) (hk : (Lit.int .i64 k).wf = true) (hnew : k ∉ l.map Prod.fst) :
    ∃ w', (Instr.mapUpdate 67 (.map (some b)) (.int .i64 k) (pt e)).run Tryz.prog w = .ok () w' ∧ MapC w' b ((k, e) :: l) ∧ Kept (fun k => k = b) w w' := by
  obtain ⟨D, h1, h2, h3, h4⟩ := h.own
  obtain ⟨w', hr, h5, h6⟩ := h1.store kInt mapUnder (by unfold maxLen; omega) (keyInt hk) (rdE_pt e)
  have hsz := Maps.size_put (h1.tidy kInt) (k := .int .i64 k) (d := .lit (.int .i64 e))
  rw [h4 k hnew, h2] at hsz
  simp only [Bool.false_eq_true, if_false] at hsz
  have hkl : WideAt.IsKeyLit (.int .i64 k) := by simp [WideAt.IsKeyLit]
  refine ⟨w', hr, ⟨?_, fun x hx => ?_, _, h5, by rw [hsz]; rfl, fun x hx z => ?_, fun j hj => ?_⟩, Kept.of_turned h6⟩
  · rw [List.map_cons, List.nodup_cons]
    exact ⟨hnew, h.nodup⟩
  · rcases List.mem_cons.1 hx with rfl | hx
    · exact hk
    · exact h.wf x hx
  · rcases List.mem_cons.1 hx with rfl | hx
    · exact Maps.atKey_put_same h1.isMap hkl _ _
    · have hne : x.1 ≠ k := fun he => hnew (List.mem_map.2 ⟨x, hx, he⟩)
      rw [Maps.atKey_put_other (by simpa using hne)]
      exact h3 x hx z
  · simp only [List.map_cons, List.mem_cons, not_or] at hj
    rw [Maps.has_put_other (by simpa using hj.1)]
    exact h4 j hj.2
structure Step (C : Nat → Prop) (O : Nat → Nat) (w : World) (O' : Nat → Nat) (w' : World) : Prop where
  os : w'.os = w.os
  tape : w'.tape = w.tape
  output : w'.output = w.output
  size : w.heap.size ≤ w'.heap.size
  old : ∀ k, k < w.heap.size → ¬ C (O k) → w'.heap[k]? = w.heap[k]? ∧ O' k = O k
  col : ∀ k, k < w.heap.size → C (O k) → C (O' k) ∨ O' k = 0
theorem Step.refl (C : Nat → Prop) (O : Nat → Nat) (w : World) : Step C O w O w := ⟨rfl, rfl, rfl, Nat.le_refl _, fun _ _ _ => ⟨rfl, rfl⟩, fun _ _ h => .inl h⟩
theorem Step.trans {C : Nat → Prop} {O O' O'' : Nat → Nat} {w w' w'' : World} (h : Step C O w O' w') (g : Step C O' w' O'' w'') : Step C O w O'' w'' :=
  ⟨g.os.trans h.os, g.tape.trans h.tape, g.output.trans h.output, Nat.le_trans h.size g.size,
    fun k hk hc => by
      obtain ⟨h1, h2⟩ := h.old k hk hc
      obtain ⟨g1, g2⟩ := g.old k (Nat.lt_of_lt_of_le hk h.size) (by rw [h2]; exact hc)
      exact ⟨g1.trans h1, g2.trans h2⟩,
    fun k hk hc => by
      rcases h.col k hk hc with h1 | h1
      · exact g.col k (Nat.lt_of_lt_of_le hk h.size) h1
      · by_cases hz : C 0
        · exact g.col k (Nat.lt_of_lt_of_le hk h.size) (by rw [h1]; exact hz)
        · right
          rw [(g.old k (Nat.lt_of_lt_of_le hk h.size) (by rw [h1]; exact hz)).2, h1]⟩
theorem Step.wider {C C' : Nat → Prop} {O O' : Nat → Nat} {w w' : World} (h : Step C O w O' w') (hc : ∀ c, C c → C' c) : Step C' O w O' w' := by
  refine ⟨h.os, h.tape, h.output, h.size, fun k hk hn => h.old k hk (fun hC => hn (hc _ hC)), fun k hk hC' => ?_⟩
  by_cases hC : C (O k)
  · rcases h.col k hk hC with h1 | h1
    · exact .inl (hc _ h1)
    · exact .inr h1
  · left; rw [(h.old k hk hC).2]; exact hC'
theorem Step.of_kept {O : Nat → Nat} {c d : Nat} {X : Nat → Prop} {w w' : World} (h : Kept X w w') (hX : ∀ k, k < w.heap.size → X k → O k = c) : Step (fun x => x = c) O w (fun k => if k < w.heap.size then O k else d) w' :=
  ⟨h.os, h.tape, h.output, h.size, fun k hk hc => ⟨h.block k hk (fun hx => hc (hX k hk hx)), if_pos hk⟩, fun k hk hc => .inl (by show (if k < w.heap.size then O k else d) = c; rw [if_pos hk]; exact hc)⟩
def paint (O : Nat → Nat) (b c : Nat) : Nat → Nat := fun k => if k = b then c else O k
theorem paint_self (O : Nat → Nat) (b c : Nat) : paint O b c b = c := if_pos rfl
theorem paint_far (O : Nat → Nat) {b c k : Nat} (h : k ≠ b) : paint O b c k = O k := if_neg h
theorem Step.paint {C : Nat → Prop} (O : Nat → Nat) (w : World) {b c : Nat} (h1 : C (O b)) (h2 : C c ∨ c = 0) : Step C O w (paint O b c) w := by
  refine ⟨rfl, rfl, rfl, Nat.le_refl _, fun k hk hn => ⟨rfl, paint_far O (fun e => hn (by rw [e]; exact h1))⟩, fun k hk hC => ?_⟩
  by_cases e : k = b
  · rw [e, paint_self]; exact h2
  · rw [paint_far O e]; exact .inl hC
theorem Step.kept {C : Nat → Prop} {O O' : Nat → Nat} {w w' : World} (h : Step C O w O' w') : Kept (fun k => C (O k)) w w' := ⟨h.os, h.tape, h.output, h.size, fun k hk hx => (h.old k hk hx).1⟩
end Go.Proofs.YtepldjidkomclaaGreat.Bo
namespace Go.Proofs.YtepldjidkomclaaGreat.Bo
set_option linter.unusedSimpArgs false
set_option linter.unusedVariables false
open Go.RowKit
abbrev Lv := Int × Nat × List (Nat × Nat)
def bw (b : Bool) : Value := .bool b
def EnC (w : World) (E : Nat) (e : En) (waits : Bool) (place : Option Nat) : Prop :=
  Cells w E #[.int .i64 e.n, .int .i64 e.o.m, .int .i64 e.o.s, .int .i64 e.o.k, .int .i64 e.o.f, .int .i64 e.o.p, .int .i64 e.o.t, .int .i64 e.o.q, .int .i64 e.o.pk, .int .i64 e.l, .int .i64 e.h, .bool waits, op place] 75
theorem EnC.lt {w : World} {E : Nat} {e : En} {b : Bool} {p : Option Nat} (h : EnC w E e b p) : E < w.heap.size := Cells.lt h
theorem EnC.kept {X : Nat → Prop} {w w' : World} {E : Nat} {e : En} {b : Bool} {p : Option Nat} (h : EnC w E e b p) (hk : Kept X w w') (hx : ¬ X E) : EnC w' E e b p := Cells.kept h hk hx
def betF (side : Int) : Nat := if side = 1 then 48 else 49
def betV (side : Int) : Value := .func (.func (betF side)) #[] #[]
def plainH (ls : List Lv) (en : Nat → En) : Half := ls.map fun x => (x.1, x.2.2.map fun y => en y.2)
def elsL (ls : List Lv) : List Nat := ls.flatMap fun x => x.2.2.map Prod.fst
def ensL (ls : List Lv) : List Nat := ls.flatMap fun x => x.2.2.map Prod.snd
def LvOk (O : Nat → Nat) (c : Nat) (w : World) (en : Nat → En) (x : Lv) : Prop := Lst w x.2.1 x.1 x.2.2 ∧ O x.2.1 = c ∧ ∀ y ∈ x.2.2, O y.1 = c ∧ O y.2 = c ∧ EnC w y.2 (en y.2) false (some y.1)
structure HlfC (O : Nat → Nat) (c : Nat) (w : World) (H : Nat) (side : Int) (ls : List Lv) (en : Nat → En) : Prop where
  cell : ∃ v, Cells w H #[betV side, v] 121 ∧ OwnE (fun b : Nat => [pt b]) 1 86 0 w v (ls.map fun x => x.2.1) ∧ ∀ b, v.ownBlock = some b → O b = c
  col : O H = c
  lv : ∀ x ∈ ls, LvOk O c w en x
  nodL : (ls.map fun x => x.2.1).Nodup
  nodE : (elsL ls).Nodup
  nodN : (ensL ls).Nodup
theorem HlfC.lt {O : Nat → Nat} {c : Nat} {w : World} {H : Nat} {side : Int} {ls : List Lv} {en : Nat → En} (h : HlfC O c w H side ls en) : H < w.heap.size := by
  obtain ⟨v, h1, _⟩ := h.cell
  exact h1.lt
theorem Lst.keptC {X : Nat → Prop} {w w' : World} {L : Nat} {p : Int} {es : List (Nat × Nat)} (h : Lst w L p es) (hk : Kept X w w') (h1 : ¬ X L) (h2 : ∀ y ∈ es, ¬ X y.1) : Lst w' L p es :=
  h.kept hk fun k hf => by
    rcases hf with rfl | hf
    · exact h1
    · obtain ⟨y, hy, rfl⟩ := List.mem_map.1 hf
      exact h2 y hy
theorem HlfC.kept {O O' : Nat → Nat} {c : Nat} {w w' : World} {H : Nat} {side : Int} {ls : List Lv} {en en' : Nat → En} (h : HlfC O c w H side ls en) {X : Nat → Prop} (hk : Kept X w w') (hX : ∀ k, k < w.heap.size → O k = c → ¬ X k ∧ O' k = c)
    (hen : ∀ E ∈ ensL ls, en' E = en E) : HlfC O' c w' H side ls en' := by
  obtain ⟨v, h1, h2, h3⟩ := h.cell
  have hb : ∀ b, v.ownBlock = some b → b < w.heap.size := by
    intro b hb
    rcases h2.2 with ⟨rfl, _⟩ | ⟨g, cap, cur, rfl, _, hg, _⟩
    · cases hb
    · injection hb with hb
      subst hb
      exact (Array.getElem?_eq_some_iff.1 hg).1
  refine ⟨⟨v, h1.kept hk (hX H h1.lt h.col).1, OwnE.kept h2 hk (fun b hb' => (hX b (hb b hb') (h3 b hb')).1), fun b hb' => (hX b (hb b hb') (h3 b hb')).2⟩, (hX H h1.lt h.col).2, fun x hx => ?_, h.nodL, h.nodE, h.nodN⟩
  obtain ⟨a1, a2, a3⟩ := h.lv x hx
  have hLlt := a1.c.lt
  refine ⟨a1.keptC hk (hX _ hLlt a2).1 (fun y hy => ?_), (hX _ hLlt a2).2, fun y hy => ?_⟩
  · obtain ⟨b1, b2, b3⟩ := a3 y hy
    obtain ⟨cs, hc⟩ := a1.l.mem y hy
    exact (hX _ hc.lt b1).1
  · obtain ⟨b1, b2, b3⟩ := a3 y hy
    obtain ⟨cs, hc⟩ := a1.l.mem y hy
    refine ⟨(hX _ hc.lt b1).2, (hX _ b3.lt b2).2, ?_⟩
    rw [hen y.2 (List.mem_flatMap.2 ⟨x, hx, List.mem_map.2 ⟨y, hy, rfl⟩⟩)]
    exact b3.kept hk (hX _ b3.lt b2).1
theorem HlfC.step {C : Nat → Prop} {O O' : Nat → Nat} {c : Nat} {w w' : World} {H : Nat} {side : Int} {ls : List Lv} {en en' : Nat → En} (h : HlfC O c w H side ls en) (hs : Step C O w O' w') (hc : ¬ C c) (hen : ∀ E ∈ ensL ls, en' E = en E) : HlfC O' c w' H side ls en' :=
  h.kept hs.kept (fun k hk hO => ⟨by show ¬ C (O k); rw [hO]; exact hc, by rw [(hs.old k hk (by rw [hO]; exact hc)).2, hO]⟩) hen
theorem HlfC.below {O : Nat → Nat} {c : Nat} {w w' : World} {H : Nat} {side : Int} {ls : List Lv} {en : Nat → En} (h : HlfC O c w H side ls en) (hb : Below w.heap.size w w') : HlfC O c w' H side ls en :=
  h.kept (Kept.of_below (X := fun _ => False) hb) (fun k _ hO => ⟨not_false, hO⟩) (fun _ _ => rfl)
theorem HlfC.row {O : Nat → Nat} {c : Nat} {w : World} {H : Nat} {side : Int} {ls : List Lv} {en : Nat → En} (h : HlfC O c w H side ls en) : ∃ p cap b, Cells w H #[betV side, .slice p ls.length cap] 121 ∧ (0 < ls.length → p = some ⟨b, 0, none⟩ ∧ O b = c) ∧ b < w.heap.size ∧
    (∀ (k : Nat) (hk : k < ls.length), w.cell? ⟨b, k, none⟩ = some (pt ls[k].2.1)) ∧ OwnE (fun b : Nat => [pt b]) 1 86 0 w (.slice p ls.length cap) (ls.map fun x => x.2.1) ∧ ∀ b', (Value.slice p ls.length cap).ownBlock = some b' → O b' = c := by
  obtain ⟨v, h1, h2, h3⟩ := h.cell
  obtain ⟨p, cap, b, rfl, hp, hc⟩ := OwnE.cells (sz := 1) (fun _ => rfl) h2
  rw [List.length_map] at h1 hp
  have hlt := h1.lt
  have h2' : OwnE (fun b : Nat => [pt b]) 1 86 0 w (.slice p ls.length cap) (ls.map fun x => x.2.1) := by have := h2; rwa [List.length_map] at this
  have h3' : ∀ b', (Value.slice p ls.length cap).ownBlock = some b' → O b' = c := by have := h3; rwa [List.length_map] at this
  by_cases h0 : 0 < ls.length
  · refine ⟨p, cap, b, h1, fun _ => ⟨(hp h0).1, h3' b (by rw [(hp h0).1]; rfl)⟩, (hp h0).2.2, fun k hk => ?_, h2', h3'⟩
    have := hc k (by simpa using hk) 0 (by omega)
    simpa using this
  · exact ⟨p, cap, H, h1, fun h => absurd h h0, hlt, fun k hk => by omega, h2', h3'⟩
theorem HlfC.level {O : Nat → Nat} {c : Nat} {w : World} {H : Nat} {side : Int} {ls : List Lv} {en : Nat → En} (h : HlfC O c w H side ls en) (k : Nat) (hk : k < ls.length) : w.cell? ⟨ls[k].2.1, 0, none⟩ = some (.int .i64 ls[k].1) ∧ ls[k].2.1 < w.heap.size := by
  have := (h.lv ls[k] (List.getElem_mem hk)).1.c
  exact ⟨by rw [this.cell]; rfl, this.lt⟩
theorem LvOk.kept {O O' : Nat → Nat} {c : Nat} {w w' : World} {en en' : Nat → En} {x : Lv} (h : LvOk O c w en x) {P : Nat → Prop} (hk : Kept P w w') (h1 : ¬ P x.2.1) (h2 : ∀ y ∈ x.2.2, ¬ P y.1 ∧ ¬ P y.2) (hO : ∀ k, k < w.heap.size → O k = c → O' k = c) (hen : ∀ y ∈ x.2.2, en' y.2 = en y.2) : LvOk O' c w' en' x := by
  obtain ⟨a1, a2, a3⟩ := h
  refine ⟨a1.keptC hk h1 (fun y hy => (h2 y hy).1), hO _ a1.c.lt a2, fun y hy => ?_⟩
  obtain ⟨b1, b2, b3⟩ := a3 y hy
  obtain ⟨cs, hc⟩ := a1.l.mem y hy
  refine ⟨hO _ hc.lt b1, hO _ b3.lt b2, ?_⟩
  rw [hen y hy]
  exact b3.kept hk (h2 y hy).2
theorem LvOk.el {O : Nat → Nat} {c : Nat} {w : World} {en : Nat → En} {x : Lv} (h : LvOk O c w en x) {y : Nat × Nat} (hy : y ∈ x.2.2) : ∃ cs, Cells w y.1 cs 148 := h.1.l.mem y hy
theorem HlfC.keptG {O O' : Nat → Nat} {c : Nat} {w w' : World} {H : Nat} {side : Int} {ls : List Lv} {en en' : Nat → En} (h : HlfC O c w H side ls en) {P : Nat → Prop} (hk : Kept P w w') (hH : ¬ P H) (hrow : ∀ b cs, O b = c → Cells w b cs 86 → ¬ P b)
    (hlv : ∀ x ∈ ls, ¬ P x.2.1 ∧ ∀ y ∈ x.2.2, ¬ P y.1 ∧ ¬ P y.2) (hO : ∀ k, k < w.heap.size → O k = c → O' k = c) (hen : ∀ x ∈ ls, ∀ y ∈ x.2.2, en' y.2 = en y.2) : HlfC O' c w' H side ls en' := by
  obtain ⟨v, h1, h2, h3⟩ := h.cell
  have hb : ∀ b, v.ownBlock = some b → ∃ cs, Cells w b cs 86 := by
    intro b hb
    rcases h2.2 with ⟨rfl, _⟩ | ⟨g, cap, cur, rfl, _, hg, _⟩
    · cases hb
    · injection hb with hb
      subst hb
      exact ⟨cur, hg⟩
  refine ⟨⟨v, h1.kept hk hH, OwnE.kept h2 hk (fun b hb' => ?_), fun b hb' => ?_⟩, hO _ h1.lt h.col, fun x hx => (h.lv x hx).kept hk (hlv x hx).1 (hlv x hx).2 hO (hen x hx), h.nodL, h.nodE, h.nodN⟩
  · obtain ⟨cs, hc⟩ := hb b hb'
    exact hrow b cs (h3 b hb') hc
  · obtain ⟨cs, hc⟩ := hb b hb'
    exact hO _ hc.lt (h3 b hb')
theorem flat_mid (f : Lv → List Nat) (pre post : List Lv) (z : Lv) : ((pre ++ z :: post).flatMap f).Perm (f z ++ (pre ++ post).flatMap f) := by
  rw [List.flatMap_append, List.flatMap_cons, List.flatMap_append]
  exact (List.perm_append_comm_assoc _ _ _)
theorem nod_mid {f : Lv → List Nat} {pre post : List Lv} {z : Lv} : ((pre ++ z :: post).flatMap f).Nodup ↔ (f z).Nodup ∧ ((pre ++ post).flatMap f).Nodup ∧ ∀ a ∈ f z, a ∉ (pre ++ post).flatMap f := by
  rw [(flat_mid f pre post z).nodup_iff, List.nodup_append]
  exact ⟨fun ⟨h1, h2, h3⟩ => ⟨h1, h2, fun a ha hb => h3 a ha a hb rfl⟩, fun ⟨h1, h2, h3⟩ => ⟨h1, h2, fun a ha b hb e => h3 a ha (e ▸ hb)⟩⟩
theorem nodL_mid {pre post : List Lv} {z : Lv} : ((pre ++ z :: post).map fun x => x.2.1).Nodup ↔ ((pre ++ post).map fun x => x.2.1).Nodup ∧ ∀ x ∈ pre ++ post, x.2.1 ≠ z.2.1 := by
  have hp : ((pre ++ z :: post).map fun x => x.2.1).Perm (z.2.1 :: (pre ++ post).map fun x => x.2.1) := by simp
  rw [hp.nodup_iff, List.nodup_cons]
  constructor
  · rintro ⟨h1, h2⟩
    exact ⟨h2, fun x hx e => h1 (List.mem_map.2 ⟨x, hx, e⟩)⟩
  · rintro ⟨h1, h2⟩
    exact ⟨fun hm => by obtain ⟨x, hx, e⟩ := List.mem_map.1 hm; exact h2 x hx e, h1⟩
theorem mem_els {ls : List Lv} {x : Lv} {y : Nat × Nat} (hx : x ∈ ls) (hy : y ∈ x.2.2) : y.1 ∈ elsL ls := List.mem_flatMap.2 ⟨x, hx, List.mem_map.2 ⟨y, hy, rfl⟩⟩
theorem mem_ens {ls : List Lv} {x : Lv} {y : Nat × Nat} (hx : x ∈ ls) (hy : y ∈ x.2.2) : y.2 ∈ ensL ls := List.mem_flatMap.2 ⟨x, hx, List.mem_map.2 ⟨y, hy, rfl⟩⟩
theorem mid_of {pre post : List Lv} {z x : Lv} (h : x ∈ pre ++ post) : x ∈ pre ++ z :: post := by
  rcases List.mem_append.1 h with h | h
  · exact List.mem_append_left _ h
  · exact List.mem_append_right _ (List.mem_cons_of_mem _ h)
theorem mid_cases {pre post : List Lv} {z x : Lv} (h : x ∈ pre ++ z :: post) : x = z ∨ x ∈ pre ++ post := by
  rcases List.mem_append.1 h with h | h
  · exact .inr (List.mem_append_left _ h)
  · rcases List.mem_cons.1 h with h | h
    · exact .inl h
    · exact .inr (List.mem_append_right _ h)
theorem HlfC.cutE {O : Nat → Nat} {c : Nat} {w w' : World} {H : Nat} {side : Int} {pre post : List Lv} {p : Int} {L E X : Nat} {q1 q2 : List (Nat × Nat)} {en : Nat → En} (h : HlfC O c w H side (pre ++ (p, L, q1 ++ (E, X) :: q2) :: post) en)
    (hl : Lst w' L p (q1 ++ q2)) (hk : Kept (Lst.foot L (q1 ++ (E, X) :: q2)) w w') : HlfC O c w' H side (pre ++ (p, L, q1 ++ q2) :: post) en ∧ EnC w' X (en X) false (some E) ∧ X ∉ ensL (pre ++ (p, L, q1 ++ q2) :: post) ∧ O X = c := by
  obtain ⟨v, h1, h2, h3⟩ := h.cell
  obtain ⟨a1, a2, a3⟩ := h.lv (p, L, q1 ++ (E, X) :: q2) (by simp)
  simp only at a1 a2 a3
  have hft : ∀ b cs t, Cells w b cs t → t ≠ 146 → t ≠ 148 → ¬ Lst.foot L (q1 ++ (E, X) :: q2) b := by
    rintro b cs t hb n1 n2 (rfl | hm)
    · exact hb.ne a1.c n1 rfl
    · obtain ⟨y, hy, rfl⟩ := List.mem_map.1 hm
      obtain ⟨cs', hc⟩ := a1.l.mem y hy
      exact hb.ne hc n2 rfl
  have hsub : ∀ y ∈ q1 ++ q2, y ∈ q1 ++ (E, X) :: q2 := fun y hy => by
    rcases List.mem_append.1 hy with hy | hy
    · exact List.mem_append_left _ hy
    · exact List.mem_append_right _ (List.mem_cons_of_mem _ hy)
  have nE := nod_mid.1 h.nodE
  have nN := nod_mid.1 h.nodN
  have nL := nodL_mid.1 h.nodL
  simp only at nE nN nL
  have eX := a3 (E, X) (by simp)
  refine ⟨⟨⟨v, h1.kept hk (hft _ _ _ h1 (by decide) (by decide)), ?_, h3⟩, h.col, fun x hx => ?_, ?_, ?_, ?_⟩, eX.2.2.kept hk (hft _ _ _ eX.2.2 (by decide) (by decide)), ?_, eX.2.1⟩
  · have h2' : OwnE (fun b : Nat => [pt b]) 1 86 0 w v ((pre ++ (p, L, q1 ++ q2) :: post).map fun x => x.2.1) := by simpa using h2
    refine OwnE.kept h2' hk (fun b hb => ?_)
    rcases h2.2 with ⟨rfl, _⟩ | ⟨g, cap, cur, rfl, _, hg, _⟩
    · cases hb
    · injection hb with hb
      subst hb
      exact hft _ cur _ hg (by decide) (by decide)
  · rcases mid_cases hx with rfl | hx
    · refine ⟨hl, a2, fun y hy => ?_⟩
      obtain ⟨b1, b2, b3⟩ := a3 y (hsub y hy)
      exact ⟨b1, b2, b3.kept hk (hft _ _ _ b3 (by decide) (by decide))⟩
    · have hx' := h.lv x (mid_of hx)
      refine hx'.kept hk ?_ (fun y hy => ⟨?_, ?_⟩) (fun _ _ h => h) (fun _ _ => rfl)
      · rintro (e | hm)
        · exact nL.2 x hx e
        · obtain ⟨y, hy, e⟩ := List.mem_map.1 hm
          obtain ⟨cs', hc⟩ := a1.l.mem y hy
          rw [e] at hc
          exact hx'.1.c.ne hc (by decide) rfl
      · obtain ⟨cs', hc⟩ := hx'.el hy
        rintro (e | hm)
        · rw [e] at hc
          exact hc.ne a1.c (by decide) rfl
        · exact nE.2.2 y.1 hm (mem_els hx hy)
      · exact hft _ _ _ (hx'.2.2 y hy).2.2 (by decide) (by decide)
  · exact nodL_mid.2 nL
  · refine nod_mid.2 ⟨?_, nE.2.1, fun a ha => nE.2.2 a ?_⟩
    · have := nE.1
      simp only [List.map_append, List.map_cons] at this ⊢
      exact ((List.perm_middle.nodup_iff).1 this |> List.nodup_cons.1).2
    · obtain ⟨y, hy, rfl⟩ := List.mem_map.1 ha
      exact List.mem_map.2 ⟨y, hsub y hy, rfl⟩
  · refine nod_mid.2 ⟨?_, nN.2.1, fun a ha => nN.2.2 a ?_⟩
    · have := nN.1
      simp only [List.map_append, List.map_cons] at this ⊢
      exact ((List.perm_middle.nodup_iff).1 this |> List.nodup_cons.1).2
    · obtain ⟨y, hy, rfl⟩ := List.mem_map.1 ha
      exact List.mem_map.2 ⟨y, hsub y hy, rfl⟩
  · intro hm
    have hm := (flat_mid _ _ _ _).mem_iff.1 hm
    rcases List.mem_append.1 hm with hm | hm
    · have := nN.1
      simp only [List.map_append, List.map_cons] at this
      have := (List.nodup_cons.1 ((List.perm_middle.nodup_iff).1 this)).1
      exact this (by simpa [List.map_append] using hm)
    · exact nN.2.2 X (by simp) hm
theorem HlfC.offL {O O' : Nat → Nat} {c : Nat} {w w' : World} {H : Nat} {side : Int} {pre post : List Lv} {z : Lv} {en : Nat → En} (h : HlfC O c w H side (pre ++ z :: post) en) {P : Nat → Prop} (hk : Kept P w w') (hP : ∀ b cs t, Cells w b cs t → P b → t = 86 ∨ b = H)
    (hc : ∃ v, Cells w' H #[betV side, v] 121 ∧ OwnE (fun b : Nat => [pt b]) 1 86 0 w' v ((pre ++ post).map fun x => x.2.1) ∧ ∀ b, v.ownBlock = some b → O' b = c) (hO : ∀ k, k < w.heap.size → O k = c → O' k = c) : HlfC O' c w' H side (pre ++ post) en := by
  have hH : ∃ cs, Cells w H cs 121 := by obtain ⟨v, h1, _⟩ := h.cell; exact ⟨_, h1⟩
  obtain ⟨csH, hH⟩ := hH
  have hft : ∀ b cs t, Cells w b cs t → t ≠ 86 → t ≠ 121 → ¬ P b := by
    intro b cs t hb n1 n2 hp
    rcases hP b cs t hb hp with e | e
    · exact n1 e
    · exact hb.ne hH n2 e
  refine ⟨hc, hO _ hH.lt h.col, fun x hx => ?_, (nodL_mid.1 h.nodL).1, (nod_mid.1 h.nodE).2.1, (nod_mid.1 h.nodN).2.1⟩
  have hx' := h.lv x (mid_of hx)
  refine hx'.kept hk (hft _ _ _ hx'.1.c (by decide) (by decide)) (fun y hy => ⟨?_, hft _ _ _ (hx'.2.2 y hy).2.2 (by decide) (by decide)⟩) hO (fun _ _ => rfl)
  obtain ⟨cs', hc⟩ := hx'.el hy
  exact hft _ _ _ hc (by decide) (by decide)
theorem HlfC.inL {O O' : Nat → Nat} {c : Nat} {w w' : World} {H : Nat} {side : Int} {pre post : List Lv} {p : Int} {L : Nat} {en : Nat → En} (h : HlfC O c w H side (pre ++ post) en) {P : Nat → Prop} (hk : Kept P w w') (hP : ∀ b cs t, Cells w b cs t → P b → t = 86 ∨ b = H)
    (hc : ∃ v, Cells w' H #[betV side, v] 121 ∧ OwnE (fun b : Nat => [pt b]) 1 86 0 w' v ((pre ++ (p, L, []) :: post).map fun x => x.2.1) ∧ ∀ b, v.ownBlock = some b → O' b = c)
    (hl : Lst w' L p []) (hL : w.heap.size ≤ L) (hOL : O' L = c) (hO : ∀ k, k < w.heap.size → O k = c → O' k = c) : HlfC O' c w' H side (pre ++ (p, L, []) :: post) en := by
  have hH : ∃ cs, Cells w H cs 121 := by obtain ⟨v, h1, _⟩ := h.cell; exact ⟨_, h1⟩
  obtain ⟨csH, hH⟩ := hH
  have hft : ∀ b cs t, Cells w b cs t → t ≠ 86 → t ≠ 121 → ¬ P b := by
    intro b cs t hb n1 n2 hp
    rcases hP b cs t hb hp with e | e
    · exact n1 e
    · exact hb.ne hH n2 e
  refine ⟨hc, hO _ hH.lt h.col, fun x hx => ?_, nodL_mid.2 ⟨h.nodL, fun x hx => ?_⟩, nod_mid.2 ⟨List.nodup_nil, h.nodE, fun a ha => absurd ha (by simp)⟩, nod_mid.2 ⟨List.nodup_nil, h.nodN, fun a ha => absurd ha (by simp)⟩⟩
  · rcases mid_cases hx with rfl | hx
    · exact ⟨hl, hOL, fun y hy => absurd hy (by simp)⟩
    · have hx' := h.lv x hx
      refine hx'.kept hk (hft _ _ _ hx'.1.c (by decide) (by decide)) (fun y hy => ⟨?_, hft _ _ _ (hx'.2.2 y hy).2.2 (by decide) (by decide)⟩) hO (fun _ _ => rfl)
      obtain ⟨cs', hc⟩ := hx'.el hy
      exact hft _ _ _ hc (by decide) (by decide)
  · have := (h.lv x hx).1.c.lt
    show x.2.1 ≠ L
    omega
theorem HlfC.pushE {O O' : Nat → Nat} {c : Nat} {w w2 : World} {H : Nat} {side : Int} {pre post : List Lv} {p : Int} {L E X : Nat} {q : List (Nat × Nat)} {en : Nat → En} {pl : Option Nat} (h : HlfC O c w H side (pre ++ (p, L, q) :: post) en)
    (hX : X ∉ ensL (pre ++ (p, L, q) :: post)) (hOX : O X = c) (eX : EnC w X (en X) false pl) (hE : w.heap.size ≤ E) (hl : Lst w2 L p (q ++ [(E, X)])) (hk : Kept (Lst.foot L q) w w2)
    (hO : ∀ k, k < w.heap.size → O k = c → O' k = c) (hOE : O' E = c) :
    HlfC O' c (w2.setCell ⟨X, 12, none⟩ (pt E)) H side (pre ++ (p, L, q ++ [(E, X)]) :: post) en ∧ Kept (fun k => O k = c) w (w2.setCell ⟨X, 12, none⟩ (pt E)) := by
  obtain ⟨v, h1, h2, h3⟩ := h.cell
  obtain ⟨a1, a2, a3⟩ := h.lv (p, L, q) (by simp)
  simp only at a1 a2 a3
  have nE := nod_mid.1 h.nodE
  have nN := nod_mid.1 h.nodN
  have nL := nodL_mid.1 h.nodL
  simp only at nE nN nL
  have hft : ∀ b cs t, Cells w b cs t → t ≠ 146 → t ≠ 148 → ¬ Lst.foot L q b := by
    rintro b cs t hb n1 n2 (rfl | hm)
    · exact hb.ne a1.c n1 rfl
    · obtain ⟨y, hy, rfl⟩ := List.mem_map.1 hm
      obtain ⟨cs', hc⟩ := a1.l.mem y hy
      exact hb.ne hc n2 rfl
  have eX2 := eX.kept hk (hft _ _ _ eX (by decide) (by decide))
  have eX3 : EnC (w2.setCell ⟨X, 12, none⟩ (pt E)) X (en X) false (some E) := Cells.set eX2 12 (pt E)
  have k2 : Kept (fun k => k = X) w2 (w2.setCell ⟨X, 12, none⟩ (pt E)) := (Kept.refl (fun k => k = X) w2).set (C := X) rfl 12 _
  have k3 : Kept (fun k => Lst.foot L q k ∨ k = X) w (w2.setCell ⟨X, 12, none⟩ (pt E)) := (hk.mono fun k hk => (.inl hk : Lst.foot L q k ∨ k = X)).trans k2 (fun k _ hk => .inr hk)
  have hft3 : ∀ b cs t, Cells w b cs t → t ≠ 146 → t ≠ 148 → b ≠ X → ¬ (Lst.foot L q b ∨ b = X) := by
    rintro b cs t hb n1 n2 n3 (hf | e)
    · exact hft b cs t hb n1 n2 hf
    · exact n3 e
  have hEq : ∀ y ∈ q, y.1 < w.heap.size := fun y hy => by obtain ⟨cs, hc⟩ := a1.l.mem y hy; exact hc.lt
  refine ⟨⟨⟨v, h1.kept k3 (hft3 _ _ _ h1 (by decide) (by decide) (h1.ne eX (by decide))), ?_, fun b hb => ?_⟩, hO _ h1.lt h.col, fun x hx => ?_, ?_, ?_, ?_⟩, ?_⟩
  · have h2' : OwnE (fun b : Nat => [pt b]) 1 86 0 w v ((pre ++ (p, L, q ++ [(E, X)]) :: post).map fun x => x.2.1) := by simpa using h2
    refine OwnE.kept h2' k3 (fun b hb => ?_)
    rcases h2.2 with ⟨rfl, _⟩ | ⟨g, cap, cur, rfl, _, hg, _⟩
    · cases hb
    · injection hb with hb
      subst hb
      exact hft3 _ cur _ hg (by decide) (by decide) (Cells.ne hg eX (by decide))
  · refine hO b ?_ (h3 b hb)
    rcases h2.2 with ⟨rfl, _⟩ | ⟨g, cap, cur, rfl, _, hg, _⟩
    · cases hb
    · injection hb with hb
      subst hb
      exact Cells.lt hg
  · rcases mid_cases hx with rfl | hx
    · refine ⟨hl.kept k2 ?_, hO _ a1.c.lt a2, fun y hy => ?_⟩
      · rintro k (rfl | hm) rfl
        · exact hl.c.ne eX2 (by decide) rfl
        · obtain ⟨y, hy, e⟩ := List.mem_map.1 hm
          obtain ⟨cs', hc⟩ := hl.l.mem y hy
          rw [e] at hc
          exact hc.ne eX2 (by decide) rfl
      · rcases List.mem_append.1 hy with hy | hy
        · obtain ⟨b1, b2, b3⟩ := a3 y hy
          refine ⟨hO _ (hEq y hy) b1, hO _ b3.lt b2, b3.kept k3 (hft3 _ _ _ b3 (by decide) (by decide) (fun e => hX ?_))⟩
          rw [← e]
          exact mem_ens (x := (p, L, q)) (by simp) hy
        · obtain rfl := List.mem_singleton.1 hy
          exact ⟨hOE, hO _ eX.lt hOX, eX3⟩
    · have hx' := h.lv x (mid_of hx)
      refine hx'.kept k3 ?_ (fun y hy => ⟨?_, ?_⟩) hO (fun _ _ => rfl)
      · rintro ((e | hm) | e)
        · exact nL.2 x hx e
        · obtain ⟨y, hy, e⟩ := List.mem_map.1 hm
          obtain ⟨cs', hc⟩ := a1.l.mem y hy
          rw [e] at hc
          exact hx'.1.c.ne hc (by decide) rfl
        · exact hx'.1.c.ne eX (by decide) e
      · obtain ⟨cs', hc⟩ := hx'.el hy
        rintro ((e | hm) | e)
        · rw [e] at hc
          exact hc.ne a1.c (by decide) rfl
        · exact nE.2.2 y.1 hm (mem_els hx hy)
        · exact hc.ne eX (by decide) e
      · have b3 := (hx'.2.2 y hy).2.2
        exact hft3 _ _ _ b3 (by decide) (by decide) (fun e => hX (by rw [← e]; exact mem_ens (mid_of hx) hy))
  · exact nodL_mid.2 nL
  · refine nod_mid.2 ⟨?_, nE.2.1, fun a ha => ?_⟩
    · show ((q ++ [(E, X)]).map Prod.fst).Nodup
      exact hl.n
    · obtain ⟨y, hy, rfl⟩ := List.mem_map.1 ha
      rcases List.mem_append.1 hy with hy | hy
      · exact nE.2.2 y.1 (List.mem_map.2 ⟨y, hy, rfl⟩)
      · obtain rfl := List.mem_singleton.1 hy
        intro hm
        obtain ⟨x, hx, hm⟩ := List.mem_flatMap.1 hm
        obtain ⟨y, hy, e⟩ := List.mem_map.1 hm
        obtain ⟨cs', hc⟩ := (h.lv x (mid_of hx)).el hy
        have := hc.lt
        simp only at e
        omega
  · refine nod_mid.2 ⟨?_, nN.2.1, fun a ha => ?_⟩
    · show ((q ++ [(E, X)]).map Prod.snd).Nodup
      rw [List.map_append, List.nodup_append]
      refine ⟨nN.1, by simp, fun a ha b hb e => ?_⟩
      simp only [List.map_cons, List.map_nil, List.mem_singleton] at hb
      subst hb; subst e
      obtain ⟨y, hy, e⟩ := List.mem_map.1 ha
      exact hX (by rw [← e]; exact mem_ens (x := (p, L, q)) (by simp) hy)
    · obtain ⟨y, hy, rfl⟩ := List.mem_map.1 ha
      rcases List.mem_append.1 hy with hy | hy
      · exact nN.2.2 y.2 (List.mem_map.2 ⟨y, hy, rfl⟩)
      · obtain rfl := List.mem_singleton.1 hy
        intro hm
        exact hX ((flat_mid _ _ _ _).mem_iff.2 (List.mem_append_right _ hm))
  · refine k3.mono fun k hk => ?_
    rcases hk with (rfl | hm) | rfl
    · exact a2
    · obtain ⟨y, hy, rfl⟩ := List.mem_map.1 hm
      exact (a3 y hy).1
    · exact hOX
end Go.Proofs.YtepldjidkomclaaGreat.Bo
