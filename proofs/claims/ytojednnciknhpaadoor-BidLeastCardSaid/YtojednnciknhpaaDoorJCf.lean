/- slices.Index, Contains at int; IndexFunc, ContainsFunc at three types, with a predicate by contract. bid.isOffer, Check and its closures. bid.Check. bid.CheckHall. -/
import Derived.Shelf.Abstract
import Derived.Test.YtojednnciknhpaaDoorJRowx
import Derived.Test.YtojednnciknhpaaDoorJMem
namespace Go.Proofs.YtojednnciknhpaaDoor
set_option linter.unusedSimpArgs false
set_option linter.unusedVariables false
open Go.RowKit
attribute [local go_sem] Oper.semAt_some
attribute [local go_sem ↓] Go.wp_at_zero Go.wp_at_succ
/-- What a predicate is to a list. -/
structure PredC {α : Type} (val : α → Value) (fid : Nat) (cb : Array Value) (P : α → Bool) (l : List α) (w0 : World) : Prop where
  eg : ∀ args w, (callFunc fid args).run Tryd.prog w = .ok (.enter fid args) w
  call : ∀ x ∈ l, ∀ w, Below w0.heap.size w0 w → Calls Tryd.prog fid (#[val x] ++ cb) w fun e w' => e = .returned (.bool (P x)) ∧ Below w.heap.size w w'
theorem any_take {α : Type} {P : α → Bool} {l : List α} (h : ∀ k (hk : k < l.length), P l[k] = false) : l.any P = false := by
  rw [List.any_eq_false]
  intro x hx
  obtain ⟨k, hk, rfl⟩ := List.getElem_of_mem hx
  rw [h k hk]; decide
theorem any_at {α : Type} {P : α → Bool} {l : List α} {k : Nat} (hk : k < l.length) (h : P l[k] = true) : l.any P = true := List.any_eq_true.2 ⟨_, List.getElem_mem hk, h⟩

set_option maxRecDepth 100000 in
set_option maxHeartbeats 4000000 in
theorem index_calls {w : World} {v : Value} {l : List Int} (hv : ReadsE encI 1 w v l) (x : Int) :
    Calls Tryd.prog 103 #[v, .int .i64 x] w fun e w' => (∃ z : Int, e = .returned (.int .i64 z) ∧ (decide (0 ≤ z) = l.contains x)) ∧ w' = w := by
  obtain ⟨hm, p, cap, bb, off, rfl, hp, hc⟩ := hv
  obtain ⟨n, hn⟩ : ∃ n, n = l.length := ⟨_, rfl⟩
  obtain ⟨R, hR⟩ : ∃ R : Ending → World → Prop, R = fun e w' => (∃ z : Int, e = .returned (.int .i64 z) ∧ (decide (0 ≤ z) = l.contains x)) ∧ w' = w := ⟨_, rfl⟩
  rw [← hR]
  have FN := hid (show ∀ z : Int, decide (0 ≤ z) = l.contains x → R (.returned (.int .i64 z)) w from fun z h => by rw [hR]; exact ⟨⟨z, rfl, h⟩, rfl⟩)
  rw [← hn] at hp hm ⊢
  have HN := hid hn
  have HP := hid hp
  have HC := hid hc
  clear hR hn hp hc
  go_enter Tryd.func103, Tryd.ntmps103
  go_upto_region 2 with fail
  go_loopg [8] n (fun k s8 wr => ∃ i : Nat, i + k = n ∧ s8 = .int .i64 i ∧ (∀ k (hk : k < l.length), k < i → ¬ l[k] = x) ∧ wr = w)
  case atStart => exact ⟨0, by omega, rfl, fun k _ h => by omega, rfl⟩
  case round =>
    obtain ⟨i, hik, rfl, hno, rfl⟩ := hrel
    have HIK := hid hik
    have NO := hid hno
    clear hik hno
    by_cases hin : i < n
    · have hil : i < l.length := by rw [← HN.out]; exact hin
      obtain ⟨rfl, hbb⟩ := HP.out (by omega)
      have c0 := HC.out i hil 0 (by omega)
      simp [encI] at c0
      have gi : (i : Int) < (n : Int) := by omega
      have gi0 : (0 : Int) ≤ (i : Int) := by omega
      by_cases hx : x = l[i]
      · have F := hid (FN.out (i : Int) (by
          have : l.contains x = true := List.contains_iff_mem.2 (by rw [hx]; exact List.getElem_mem hil)
          rw [this]; simp))
        rw [← hx] at c0
        have e1 : (x == x) = true := by simp
        clear hx FN
        go_wp2
        first | exact F.out | (go_ret; exact F.out)
      · obtain ⟨y, hy⟩ : ∃ y, y = l[i] := ⟨_, rfl⟩
        rw [← hy] at c0 hx
        have e1 : (x == y) = false := by simpa using hx
        have NX := hid (show ∀ k (hk : k < l.length), k < i + 1 → ¬ l[k] = x from fun k hk h => by
          by_cases e : k = i
          · subst e; rw [← hy]; exact fun q => hx q.symm
          · exact NO.out k hk (by omega))
        clear hx hy
        go_wp2
        go_roundg (n - (i + 1))
        · exact ⟨i + 1, by omega, by go_num, NX.out, rfl⟩
        · have := HIK.out; omega
    · have hin' : i = n := by have := HIK.out; omega
      subst hin'
      have g1 : decide ((i : Int) < (i : Int)) = false := by simp
      have F := hid (FN.out (-1) (by
        have : l.contains x = false := by
          rw [← Bool.not_eq_true, List.contains_iff_mem]
          intro hx
          obtain ⟨k, hk, e⟩ := List.getElem_of_mem hx
          exact NO.out k hk (by rw [HN.out]; exact hk) e
        rw [this]; rfl))
      go_wp2
      first | exact F.out | (go_ret; exact F.out)

set_option maxRecDepth 100000 in
set_option maxHeartbeats 4000000 in
theorem contains_calls {w : World} {v : Value} {l : List Int} (hv : ReadsE encI 1 w v l) (x : Int) :
    Calls Tryd.prog 64 #[v, .int .i64 x] w fun e w' => e = .returned (.bool (l.contains x)) ∧ w' = w := by
  have IX := hid (index_calls hv x)
  obtain ⟨R, hR⟩ : ∃ R : Ending → World → Prop, R = fun e w' => e = .returned (.bool (l.contains x)) ∧ w' = w := ⟨_, rfl⟩
  rw [← hR]
  have FN := hid (show ∀ b, b = l.contains x → R (.returned (.bool b)) w from fun b h => by rw [hR, h]; exact ⟨rfl, rfl⟩)
  clear hR
  obtain ⟨hm, p, cap, bb, off, rfl, hp, hc⟩ := hv
  clear hm hp hc
  go_enter Tryd.func64, Tryd.ntmps64
  go_wp2_with fail
  refine IX.out.mono ?_
  rintro e w1 ⟨⟨z, rfl, hz⟩, rfl⟩
  have HZ := hid hz
  clear hz IX
  have F := hid (FN.out _ HZ.out)
  clear FN
  go_wp2
  first | exact F.out | (go_ret; exact F.out)

set_option maxRecDepth 100000 in
set_option maxHeartbeats 4000000 in
theorem indexF_i {w : World} {v : Value} {l : List Int} (hv : ReadsE encI 1 w v l) {fid : Nat} {cb : Array Value} {P : Int → Bool} (hf : PredC (fun z => Value.int .i64 z) fid cb P l w) :
    Calls Tryd.prog 113 #[v, .func (.func fid) #[] cb] w fun e w' => (∃ z : Int, e = .returned (.int .i64 z) ∧ (decide (0 ≤ z) = l.any P)) ∧ Below w.heap.size w w' := by
  obtain ⟨hm, p, cap, bb, off, rfl, hp, hc⟩ := hv
  obtain ⟨n, hn⟩ : ∃ n, n = l.length := ⟨_, rfl⟩
  obtain ⟨R, hR⟩ : ∃ R : Ending → World → Prop, R = fun e w' => (∃ z : Int, e = .returned (.int .i64 z) ∧ (decide (0 ≤ z) = l.any P)) ∧ Below w.heap.size w w' := ⟨_, rfl⟩
  rw [← hR]
  have FN := hid (show ∀ (z : Int) w', decide (0 ≤ z) = l.any P → Below w.heap.size w w' → R (.returned (.int .i64 z)) w' from fun z w' h hb => by rw [hR]; exact ⟨⟨z, rfl, h⟩, hb⟩)
  rw [← hn] at hp hm ⊢
  have HN := hid hn
  have HP := hid hp
  have HC := hid hc
  have HF := hid hf.call
  have eg := hf.eg
  clear hR hn hp hc hf
  go_enter Tryd.func113, Tryd.ntmps113
  go_upto_region 2 with fail
  go_loopg [8] n (fun k s8 wr => ∃ i : Nat, i + k = n ∧ s8 = .int .i64 i ∧ (∀ k (hk : k < l.length), k < i → P l[k] = false) ∧ Below w.heap.size w wr)
  case atStart => exact ⟨0, by omega, rfl, fun k _ h => by omega, Below.refl _ _⟩
  case round =>
    obtain ⟨i, hik, rfl, hno, hb⟩ := hrel
    have HIK := hid hik
    have NO := hid hno
    have B := hid hb
    clear hik hno hb
    by_cases hin : i < n
    · have hil : i < l.length := by rw [← HN.out]; exact hin
      obtain ⟨rfl, hbb⟩ := HP.out (by omega)
      have c0 := (B.out.cell (p := ⟨bb, off + i * 1 + 0, none⟩) hbb).trans (HC.out i hil 0 (by omega))
      simp [encI] at c0
      have gi : (i : Int) < (n : Int) := by omega
      have gi0 : (0 : Int) ≤ (i : Int) := by omega
      have CL := hid (HF.out l[i] (List.getElem_mem hil) wr B.out)
      have NP := hid (show P l[i] = false → ∀ k (hk : k < l.length), k < i + 1 → P l[k] = false from fun hq k hk h => by
        by_cases e : k = i
        · subst e; exact hq
        · exact NO.out k hk (by omega))
      have YP := hid (show P l[i] = true → l.any P = true from fun hq => any_at hil hq)
      obtain ⟨x, hx⟩ : ∃ x, x = l[i] := ⟨_, rfl⟩
      rw [← hx] at c0 CL NP YP
      obtain ⟨t, ht⟩ : ∃ t, t = P x := ⟨_, rfl⟩
      rw [← ht] at CL NP YP
      clear hx ht
      go_wp2_with fail
      refine CL.out.mono ?_
      rintro e w2 ⟨rfl, hb2⟩
      have B2 := hid (B.out.trans (hb2.mono B.out.size))
      clear hb2 CL
      cases t with
      | true =>
        have F := hid (FN.out (i : Int) w2 (by rw [YP.out rfl]; simp) B2.out)
        clear FN
        go_wp2
        first | exact F.out | (go_ret; exact F.out)
      | false =>
        have NX := hid (NP.out rfl)
        go_wp2
        go_roundg (n - (i + 1))
        · exact ⟨i + 1, by omega, by go_num, NX.out, B2.out⟩
        · have := HIK.out; omega
    · have hin' : i = n := by have := HIK.out; omega
      subst hin'
      have g1 : decide ((i : Int) < (i : Int)) = false := by simp
      have F := hid (FN.out (-1) wr (by
        have : l.any P = false := any_take fun k hk => NO.out k hk (by rw [HN.out]; exact hk)
        rw [this]; rfl) B.out)
      go_wp2
      first | exact F.out | (go_ret; exact F.out)

set_option maxRecDepth 100000 in
set_option maxHeartbeats 4000000 in
theorem containsF_i {w : World} {v : Value} {l : List Int} (hv : ReadsE encI 1 w v l) {fid : Nat} {cb : Array Value} {P : Int → Bool} (hf : PredC (fun z => Value.int .i64 z) fid cb P l w) :
    Calls Tryd.prog 85 #[v, .func (.func fid) #[] cb] w fun e w' => e = .returned (.bool (l.any P)) ∧ Below w.heap.size w w' := by
  have IX := hid (indexF_i hv hf)
  obtain ⟨R, hR⟩ : ∃ R : Ending → World → Prop, R = fun e w' => e = .returned (.bool (l.any P)) ∧ Below w.heap.size w w' := ⟨_, rfl⟩
  rw [← hR]
  have FN := hid (show ∀ b w', b = l.any P → Below w.heap.size w w' → R (.returned (.bool b)) w' from fun b w' h hb => by rw [hR, h]; exact ⟨rfl, hb⟩)
  clear hR hf
  obtain ⟨hm, p, cap, bb, off, rfl, hp, hc⟩ := hv
  clear hm hp hc
  go_enter Tryd.func85, Tryd.ntmps85
  go_wp2_with fail
  refine IX.out.mono ?_
  rintro e w1 ⟨⟨z, rfl, hz⟩, hb⟩
  have HZ := hid hz
  have B := hid hb
  clear hz IX hb
  have F := hid (FN.out _ w1 HZ.out B.out)
  clear FN
  go_wp2
  first | exact F.out | (go_ret; exact F.out)

set_option maxRecDepth 100000 in
set_option maxHeartbeats 4000000 in
theorem indexF_o {w : World} {v : Value} {l : List Of} (hv : ReadsE encOf 2 w v l) {fid : Nat} {cb : Array Value} {P : Of → Bool} (hf : PredC (fun o : Of => Value.agg #[.int .u32 o.lots, .int .i64 o.w]) fid cb P l w) :
    Calls Tryd.prog 111 #[v, .func (.func fid) #[] cb] w fun e w' => (∃ z : Int, e = .returned (.int .i64 z) ∧ (decide (0 ≤ z) = l.any P)) ∧ Below w.heap.size w w' := by
  obtain ⟨hm, p, cap, bb, off, rfl, hp, hc⟩ := hv
  obtain ⟨n, hn⟩ : ∃ n, n = l.length := ⟨_, rfl⟩
  obtain ⟨R, hR⟩ : ∃ R : Ending → World → Prop, R = fun e w' => (∃ z : Int, e = .returned (.int .i64 z) ∧ (decide (0 ≤ z) = l.any P)) ∧ Below w.heap.size w w' := ⟨_, rfl⟩
  rw [← hR]
  have FN := hid (show ∀ (z : Int) w', decide (0 ≤ z) = l.any P → Below w.heap.size w w' → R (.returned (.int .i64 z)) w' from fun z w' h hb => by rw [hR]; exact ⟨⟨z, rfl, h⟩, hb⟩)
  rw [← hn] at hp hm ⊢
  have HN := hid hn
  have HP := hid hp
  have HC := hid hc
  have HF := hid hf.call
  have eg := hf.eg
  clear hR hn hp hc hf
  go_enter Tryd.func111, Tryd.ntmps111
  go_upto_region 2 with fail
  go_loopg [8] n (fun k s8 wr => ∃ i : Nat, i + k = n ∧ s8 = .int .i64 i ∧ (∀ k (hk : k < l.length), k < i → P l[k] = false) ∧ Below w.heap.size w wr)
  case atStart => exact ⟨0, by omega, rfl, fun k _ h => by omega, Below.refl _ _⟩
  case round =>
    obtain ⟨i, hik, rfl, hno, hb⟩ := hrel
    have HIK := hid hik
    have NO := hid hno
    have B := hid hb
    clear hik hno hb
    by_cases hin : i < n
    · have hil : i < l.length := by rw [← HN.out]; exact hin
      obtain ⟨rfl, hbb⟩ := HP.out (by omega)
      have c0 := (B.out.cell (p := ⟨bb, off + i * 2 + 0, none⟩) hbb).trans (HC.out i hil 0 (by omega))
      have c1 := (B.out.cell (p := ⟨bb, off + i * 2 + 1, none⟩) hbb).trans (HC.out i hil 1 (by omega))
      simp [encOf] at c0 c1
      have gi : (i : Int) < (n : Int) := by omega
      have gi0 : (0 : Int) ≤ (i : Int) := by omega
      have CL := hid (HF.out l[i] (List.getElem_mem hil) wr B.out)
      have NP := hid (show P l[i] = false → ∀ k (hk : k < l.length), k < i + 1 → P l[k] = false from fun hq k hk h => by
        by_cases e : k = i
        · subst e; exact hq
        · exact NO.out k hk (by omega))
      have YP := hid (show P l[i] = true → l.any P = true from fun hq => any_at hil hq)
      obtain ⟨x, hx⟩ : ∃ x, x = l[i] := ⟨_, rfl⟩
      rw [← hx] at c0 c1 CL NP YP
      obtain ⟨t, ht⟩ : ∃ t, t = P x := ⟨_, rfl⟩
      rw [← ht] at CL NP YP
      clear hx ht
      go_wp2_with fail
      refine CL.out.mono ?_
      rintro e w2 ⟨rfl, hb2⟩
      have B2 := hid (B.out.trans (hb2.mono B.out.size))
      clear hb2 CL
      cases t with
      | true =>
        have F := hid (FN.out (i : Int) w2 (by rw [YP.out rfl]; simp) B2.out)
        clear FN
        go_wp2
        first | exact F.out | (go_ret; exact F.out)
      | false =>
        have NX := hid (NP.out rfl)
        go_wp2
        go_roundg (n - (i + 1))
        · exact ⟨i + 1, by omega, by go_num, NX.out, B2.out⟩
        · have := HIK.out; omega
    · have hin' : i = n := by have := HIK.out; omega
      subst hin'
      have g1 : decide ((i : Int) < (i : Int)) = false := by simp
      have F := hid (FN.out (-1) wr (by
        have : l.any P = false := any_take fun k hk => NO.out k hk (by rw [HN.out]; exact hk)
        rw [this]; rfl) B.out)
      go_wp2
      first | exact F.out | (go_ret; exact F.out)

set_option maxRecDepth 100000 in
set_option maxHeartbeats 4000000 in
theorem containsF_o {w : World} {v : Value} {l : List Of} (hv : ReadsE encOf 2 w v l) {fid : Nat} {cb : Array Value} {P : Of → Bool} (hf : PredC (fun o : Of => Value.agg #[.int .u32 o.lots, .int .i64 o.w]) fid cb P l w) :
    Calls Tryd.prog 76 #[v, .func (.func fid) #[] cb] w fun e w' => e = .returned (.bool (l.any P)) ∧ Below w.heap.size w w' := by
  have IX := hid (indexF_o hv hf)
  obtain ⟨R, hR⟩ : ∃ R : Ending → World → Prop, R = fun e w' => e = .returned (.bool (l.any P)) ∧ Below w.heap.size w w' := ⟨_, rfl⟩
  rw [← hR]
  have FN := hid (show ∀ b w', b = l.any P → Below w.heap.size w w' → R (.returned (.bool b)) w' from fun b w' h hb => by rw [hR, h]; exact ⟨rfl, hb⟩)
  clear hR hf
  obtain ⟨hm, p, cap, bb, off, rfl, hp, hc⟩ := hv
  clear hm hp hc
  go_enter Tryd.func76, Tryd.ntmps76
  go_wp2_with fail
  refine IX.out.mono ?_
  rintro e w1 ⟨⟨z, rfl, hz⟩, hb⟩
  have HZ := hid hz
  have B := hid hb
  clear hz IX hb
  have F := hid (FN.out _ w1 HZ.out B.out)
  clear FN
  go_wp2
  first | exact F.out | (go_ret; exact F.out)

set_option maxRecDepth 100000 in
set_option maxHeartbeats 4000000 in
theorem indexF_v {w : World} {v : Value} {l : List Value} (hv : ReadsE encV 1 w v l) {fid : Nat} {cb : Array Value} {P : Value → Bool} (hf : PredC (fun u : Value => u) fid cb P l w) :
    Calls Tryd.prog 114 #[v, .func (.func fid) #[] cb] w fun e w' => (∃ z : Int, e = .returned (.int .i64 z) ∧ (decide (0 ≤ z) = l.any P)) ∧ Below w.heap.size w w' := by
  obtain ⟨hm, p, cap, bb, off, rfl, hp, hc⟩ := hv
  obtain ⟨n, hn⟩ : ∃ n, n = l.length := ⟨_, rfl⟩
  obtain ⟨R, hR⟩ : ∃ R : Ending → World → Prop, R = fun e w' => (∃ z : Int, e = .returned (.int .i64 z) ∧ (decide (0 ≤ z) = l.any P)) ∧ Below w.heap.size w w' := ⟨_, rfl⟩
  rw [← hR]
  have FN := hid (show ∀ (z : Int) w', decide (0 ≤ z) = l.any P → Below w.heap.size w w' → R (.returned (.int .i64 z)) w' from fun z w' h hb => by rw [hR]; exact ⟨⟨z, rfl, h⟩, hb⟩)
  rw [← hn] at hp hm ⊢
  have HN := hid hn
  have HP := hid hp
  have HC := hid hc
  have HF := hid hf.call
  have eg := hf.eg
  clear hR hn hp hc hf
  go_enter Tryd.func114, Tryd.ntmps114
  go_upto_region 2 with fail
  go_loopg [8] n (fun k s8 wr => ∃ i : Nat, i + k = n ∧ s8 = .int .i64 i ∧ (∀ k (hk : k < l.length), k < i → P l[k] = false) ∧ Below w.heap.size w wr)
  case atStart => exact ⟨0, by omega, rfl, fun k _ h => by omega, Below.refl _ _⟩
  case round =>
    obtain ⟨i, hik, rfl, hno, hb⟩ := hrel
    have HIK := hid hik
    have NO := hid hno
    have B := hid hb
    clear hik hno hb
    by_cases hin : i < n
    · have hil : i < l.length := by rw [← HN.out]; exact hin
      obtain ⟨rfl, hbb⟩ := HP.out (by omega)
      have c0 := (B.out.cell (p := ⟨bb, off + i * 1 + 0, none⟩) hbb).trans (HC.out i hil 0 (by omega))
      simp [encV] at c0
      have gi : (i : Int) < (n : Int) := by omega
      have gi0 : (0 : Int) ≤ (i : Int) := by omega
      have CL := hid (HF.out l[i] (List.getElem_mem hil) wr B.out)
      have NP := hid (show P l[i] = false → ∀ k (hk : k < l.length), k < i + 1 → P l[k] = false from fun hq k hk h => by
        by_cases e : k = i
        · subst e; exact hq
        · exact NO.out k hk (by omega))
      have YP := hid (show P l[i] = true → l.any P = true from fun hq => any_at hil hq)
      obtain ⟨x, hx⟩ : ∃ x, x = l[i] := ⟨_, rfl⟩
      rw [← hx] at c0 CL NP YP
      obtain ⟨t, ht⟩ : ∃ t, t = P x := ⟨_, rfl⟩
      rw [← ht] at CL NP YP
      clear hx ht
      go_wp2_with fail
      refine CL.out.mono ?_
      rintro e w2 ⟨rfl, hb2⟩
      have B2 := hid (B.out.trans (hb2.mono B.out.size))
      clear hb2 CL
      cases t with
      | true =>
        have F := hid (FN.out (i : Int) w2 (by rw [YP.out rfl]; simp) B2.out)
        clear FN
        go_wp2
        first | exact F.out | (go_ret; exact F.out)
      | false =>
        have NX := hid (NP.out rfl)
        go_wp2
        go_roundg (n - (i + 1))
        · exact ⟨i + 1, by omega, by go_num, NX.out, B2.out⟩
        · have := HIK.out; omega
    · have hin' : i = n := by have := HIK.out; omega
      subst hin'
      have g1 : decide ((i : Int) < (i : Int)) = false := by simp
      have F := hid (FN.out (-1) wr (by
        have : l.any P = false := any_take fun k hk => NO.out k hk (by rw [HN.out]; exact hk)
        rw [this]; rfl) B.out)
      go_wp2
      first | exact F.out | (go_ret; exact F.out)

set_option maxRecDepth 100000 in
set_option maxHeartbeats 4000000 in
theorem containsF_v {w : World} {v : Value} {l : List Value} (hv : ReadsE encV 1 w v l) {fid : Nat} {cb : Array Value} {P : Value → Bool} (hf : PredC (fun u : Value => u) fid cb P l w) :
    Calls Tryd.prog 92 #[v, .func (.func fid) #[] cb] w fun e w' => e = .returned (.bool (l.any P)) ∧ Below w.heap.size w w' := by
  have IX := hid (indexF_v hv hf)
  obtain ⟨R, hR⟩ : ∃ R : Ending → World → Prop, R = fun e w' => e = .returned (.bool (l.any P)) ∧ Below w.heap.size w w' := ⟨_, rfl⟩
  rw [← hR]
  have FN := hid (show ∀ b w', b = l.any P → Below w.heap.size w w' → R (.returned (.bool b)) w' from fun b w' h hb => by rw [hR, h]; exact ⟨rfl, hb⟩)
  clear hR hf
  obtain ⟨hm, p, cap, bb, off, rfl, hp, hc⟩ := hv
  clear hm hp hc
  go_enter Tryd.func92, Tryd.ntmps92
  go_wp2_with fail
  refine IX.out.mono ?_
  rintro e w1 ⟨⟨z, rfl, hz⟩, hb⟩
  have HZ := hid hz
  have B := hid hb
  clear hz IX hb
  have F := hid (FN.out _ w1 HZ.out B.out)
  clear FN
  go_wp2
  first | exact F.out | (go_ret; exact F.out)

/-! ### isWorth -/
set_option maxRecDepth 100000 in
set_option maxHeartbeats 4000000 in
theorem isWorth_calls (x : Int) (w : World) : Calls Tryd.prog 84 #[.int .i64 x] w fun e w' => e = .returned (.bool (isW x)) ∧ w' = w := by
  obtain ⟨R, hR⟩ : ∃ R : Ending → World → Prop, R = fun e w' => e = .returned (.bool (isW x)) ∧ w' = w := ⟨_, rfl⟩
  rw [← hR]
  have FN := hid (show ∀ b, b = isW x → R (.returned (.bool b)) w from fun b h => by rw [hR, h]; exact ⟨rfl, rfl⟩)
  unfold isW at FN
  clear hR
  by_cases h1 : 0 ≤ x
  · by_cases h2 : x ≤ 1000000000
    · have F := hid (FN.out true (by simp [h1, h2]))
      clear FN
      go_enter Tryd.func84, Tryd.ntmps84
      go_wp2
      first | exact F.out | (go_ret; exact F.out)
    · have F := hid (FN.out false (by simp [h2]))
      clear FN
      go_enter Tryd.func84, Tryd.ntmps84
      go_wp2
      first | exact F.out | (go_ret; exact F.out)
  · have F := hid (FN.out false (by simp [h1]))
    clear FN
    go_enter Tryd.func84, Tryd.ntmps84
    go_wp2
    first | exact F.out | (go_ret; exact F.out)

set_option maxRecDepth 100000 in
set_option maxHeartbeats 4000000 in
theorem ch1_calls (x : Int) (w : World) : Calls Tryd.prog 90 #[.int .i64 x] w fun e w' => e = .returned (.bool (!isW x)) ∧ w' = w := by
  have IW := hid (isWorth_calls x w)
  obtain ⟨R, hR⟩ : ∃ R : Ending → World → Prop, R = fun e w' => e = .returned (.bool (!isW x)) ∧ w' = w := ⟨_, rfl⟩
  rw [← hR]
  have FN := hid (show R (.returned (.bool (!isW x))) w by rw [hR]; exact ⟨rfl, rfl⟩)
  obtain ⟨b, hb⟩ : ∃ b, b = isW x := ⟨_, rfl⟩
  rw [← hb] at IW FN
  clear hR hb
  go_enter Tryd.func90, Tryd.ntmps90
  go_wp2_with fail
  refine IW.out.mono ?_
  rintro e w1 ⟨rfl, rfl⟩
  go_wp2
  first | exact FN.out | (go_ret; exact FN.out)
theorem ch1_pred (l : List Int) (w : World) : PredC (fun z => Value.int .i64 z) 90 #[] (fun x => !isW x) l w :=
  ⟨enters_of Tryd.func90 (by kernel_rfl) rfl, fun x _ wx _ => (ch1_calls x wx).mono fun e w' h => ⟨h.1, by rw [h.2]; exact Below.refl _ _⟩⟩

set_option maxRecDepth 100000 in
set_option maxHeartbeats 4000000 in
theorem sec1_calls (x : Int) (w : World) : Calls Tryd.prog 86 #[.int .i64 x] w fun e w' => e = .returned (.bool (!isW x)) ∧ w' = w := by
  have IW := hid (isWorth_calls x w)
  obtain ⟨R, hR⟩ : ∃ R : Ending → World → Prop, R = fun e w' => e = .returned (.bool (!isW x)) ∧ w' = w := ⟨_, rfl⟩
  rw [← hR]
  have FN := hid (show R (.returned (.bool (!isW x))) w by rw [hR]; exact ⟨rfl, rfl⟩)
  obtain ⟨b, hb⟩ : ∃ b, b = isW x := ⟨_, rfl⟩
  rw [← hb] at IW FN
  clear hR hb
  go_enter Tryd.func86, Tryd.ntmps86
  go_wp2_with fail
  refine IW.out.mono ?_
  rintro e w1 ⟨rfl, rfl⟩
  go_wp2
  first | exact FN.out | (go_ret; exact FN.out)
theorem sec1_pred (l : List Int) (w : World) : PredC (fun z => Value.int .i64 z) 86 #[] (fun x => !isW x) l w :=
  ⟨enters_of Tryd.func86 (by kernel_rfl) rfl, fun x _ wx _ => (sec1_calls x wx).mono fun e w' h => ⟨h.1, by rw [h.2]; exact Below.refl _ _⟩⟩

set_option maxRecDepth 100000 in
set_option maxHeartbeats 4000000 in
theorem chk1_calls (x : Int) (w : World) : Calls Tryd.prog 91 #[.int .i64 x] w fun e w' => e = .returned (.bool (!isW x)) ∧ w' = w := by
  have IW := hid (isWorth_calls x w)
  obtain ⟨R, hR⟩ : ∃ R : Ending → World → Prop, R = fun e w' => e = .returned (.bool (!isW x)) ∧ w' = w := ⟨_, rfl⟩
  rw [← hR]
  have FN := hid (show R (.returned (.bool (!isW x))) w by rw [hR]; exact ⟨rfl, rfl⟩)
  obtain ⟨b, hb⟩ : ∃ b, b = isW x := ⟨_, rfl⟩
  rw [← hb] at IW FN
  clear hR hb
  go_enter Tryd.func91, Tryd.ntmps91
  go_wp2_with fail
  refine IW.out.mono ?_
  rintro e w1 ⟨rfl, rfl⟩
  go_wp2
  first | exact FN.out | (go_ret; exact FN.out)
theorem chk1_pred (l : List Int) (w : World) : PredC (fun z => Value.int .i64 z) 91 #[] (fun x => !isW x) l w :=
  ⟨enters_of Tryd.func91 (by kernel_rfl) rfl, fun x _ wx _ => (chk1_calls x wx).mono fun e w' h => ⟨h.1, by rw [h.2]; exact Below.refl _ _⟩⟩

set_option maxRecDepth 100000 in
set_option maxHeartbeats 4000000 in
theorem blk1_calls (x : Int) (w : World) : Calls Tryd.prog 89 #[.int .i64 x] w fun e w' => e = .returned (.bool (!isW x)) ∧ w' = w := by
  have IW := hid (isWorth_calls x w)
  obtain ⟨R, hR⟩ : ∃ R : Ending → World → Prop, R = fun e w' => e = .returned (.bool (!isW x)) ∧ w' = w := ⟨_, rfl⟩
  rw [← hR]
  have FN := hid (show R (.returned (.bool (!isW x))) w by rw [hR]; exact ⟨rfl, rfl⟩)
  obtain ⟨b, hb⟩ : ∃ b, b = isW x := ⟨_, rfl⟩
  rw [← hb] at IW FN
  clear hR hb
  go_enter Tryd.func89, Tryd.ntmps89
  go_wp2_with fail
  refine IW.out.mono ?_
  rintro e w1 ⟨rfl, rfl⟩
  go_wp2
  first | exact FN.out | (go_ret; exact FN.out)
theorem blk1_pred (l : List Int) (w : World) : PredC (fun z => Value.int .i64 z) 89 #[] (fun x => !isW x) l w :=
  ⟨enters_of Tryd.func89 (by kernel_rfl) rfl, fun x _ wx _ => (blk1_calls x wx).mono fun e w' h => ⟨h.1, by rw [h.2]; exact Below.refl _ _⟩⟩

set_option maxRecDepth 100000 in
set_option maxHeartbeats 4000000 in
theorem arp1_calls (x : Int) (w : World) : Calls Tryd.prog 107 #[.int .i64 x] w fun e w' => e = .returned (.bool (!isW x)) ∧ w' = w := by
  have IW := hid (isWorth_calls x w)
  obtain ⟨R, hR⟩ : ∃ R : Ending → World → Prop, R = fun e w' => e = .returned (.bool (!isW x)) ∧ w' = w := ⟨_, rfl⟩
  rw [← hR]
  have FN := hid (show R (.returned (.bool (!isW x))) w by rw [hR]; exact ⟨rfl, rfl⟩)
  obtain ⟨b, hb⟩ : ∃ b, b = isW x := ⟨_, rfl⟩
  rw [← hb] at IW FN
  clear hR hb
  go_enter Tryd.func107, Tryd.ntmps107
  go_wp2_with fail
  refine IW.out.mono ?_
  rintro e w1 ⟨rfl, rfl⟩
  go_wp2
  first | exact FN.out | (go_ret; exact FN.out)
theorem arp1_pred (l : List Int) (w : World) : PredC (fun z => Value.int .i64 z) 107 #[] (fun x => !isW x) l w :=
  ⟨enters_of Tryd.func107 (by kernel_rfl) rfl, fun x _ wx _ => (arp1_calls x wx).mono fun e w' h => ⟨h.1, by rw [h.2]; exact Below.refl _ _⟩⟩

set_option maxRecDepth 100000 in
set_option maxHeartbeats 4000000 in
theorem uni1_calls (x : Int) (w : World) : Calls Tryd.prog 95 #[.int .i64 x] w fun e w' => e = .returned (.bool (!isW x)) ∧ w' = w := by
  have IW := hid (isWorth_calls x w)
  obtain ⟨R, hR⟩ : ∃ R : Ending → World → Prop, R = fun e w' => e = .returned (.bool (!isW x)) ∧ w' = w := ⟨_, rfl⟩
  rw [← hR]
  have FN := hid (show R (.returned (.bool (!isW x))) w by rw [hR]; exact ⟨rfl, rfl⟩)
  obtain ⟨b, hb⟩ : ∃ b, b = isW x := ⟨_, rfl⟩
  rw [← hb] at IW FN
  clear hR hb
  go_enter Tryd.func95, Tryd.ntmps95
  go_wp2_with fail
  refine IW.out.mono ?_
  rintro e w1 ⟨rfl, rfl⟩
  go_wp2
  first | exact FN.out | (go_ret; exact FN.out)
theorem uni1_pred (l : List Int) (w : World) : PredC (fun z => Value.int .i64 z) 95 #[] (fun x => !isW x) l w :=
  ⟨enters_of Tryd.func95 (by kernel_rfl) rfl, fun x _ wx _ => (uni1_calls x wx).mono fun e w' h => ⟨h.1, by rw [h.2]; exact Below.refl _ _⟩⟩
end Go.Proofs.YtojednnciknhpaaDoor
namespace Go.Proofs.YtojednnciknhpaaDoor
set_option linter.unusedSimpArgs false
set_option linter.unusedVariables false
open Go.RowKit
attribute [local go_sem] Oper.semAt_some
attribute [local go_sem ↓] Go.wp_at_zero Go.wp_at_succ
/-- An offer is valid, for any number of goods. -/
def okO (g : Nat) (o : Of) : Bool := decide (¬ o.lots = 0) && decide (o.lots / 2 ^ g = 0) && isW o.w
set_option maxRecDepth 100000 in
set_option maxHeartbeats 4000000 in
theorem isOffer_calls (o : Of) (g : Nat) (hg : g ≤ 10) (ho : o.lots < 4294967296) (w : World) : Calls Tryd.prog 78 #[.agg #[.int .u32 o.lots, .int .i64 o.w], .int .i64 g] w fun e w' => e = .returned (.bool (okO g o)) ∧ Below w.heap.size w w' := by
  obtain ⟨l, x⟩ := o
  obtain ⟨R, hR⟩ : ∃ R : Ending → World → Prop, R = fun e w' => e = .returned (.bool (okO g ⟨l, x⟩)) ∧ Below w.heap.size w w' := ⟨_, rfl⟩
  rw [← hR]
  have FN := hid (show ∀ b w', b = okO g ⟨l, x⟩ → Below w.heap.size w w' → R (.returned (.bool b)) w' from fun b w' h hb => by rw [hR, h]; exact ⟨rfl, hb⟩)
  unfold okO at FN
  simp only at FN ho ⊢
  clear hR
  obtain ⟨w1, hw1⟩ : ∃ w1, w1 = w.alloc (.cells #[.int .u32 l, .int .i64 x] 54) := ⟨_, rfl⟩
  have B1 := hid (show Below w.heap.size w w1 by rw [hw1]; exact (Below.refl _ _).alloc (Nat.le_refl _) _)
  have HW1 := hid hw1
  have IW := hid (isWorth_calls x w1)
  have hg0 : (0 : Int) ≤ (g : Int) := by omega
  clear hw1
  have NZ := hid (show ((l : Int) / 2 ^ g = 0) ↔ l / 2 ^ g = 0 by
    rw [show ((2 : Int) ^ g) = ((2 ^ g : Nat) : Int) by simp, ← Int.natCast_ediv]
    omega)
  by_cases h1 : l = 0
  · have F := hid (FN.out false w1 (by simp [h1]) B1.out)
    have e1 : ((l : Int) == 0) = true := by simp; omega
    have e2 : ((l : Int) != 0) = false := by simp; omega
    have c0 : w1.cell? ⟨w.heap.size, 0, none⟩ = some (.int .u32 l) := by rw [HW1.out, (Cells.new w _ _).cell]; rfl
    clear FN h1
    go_enter Tryd.func78, Tryd.ntmps78
    go_upto_region 1 with fail
    rw [← HW1.out]
    go_wp2
    first | exact F.out | (go_ret; exact F.out)
  · have e1 : ((l : Int) == 0) = false := by simp; omega
    have e2 : ((l : Int) != 0) = true := by simp; omega
    have c0 : w1.cell? ⟨w.heap.size, 0, none⟩ = some (.int .u32 l) := by rw [HW1.out, (Cells.new w _ _).cell]; rfl
    have c1 : w1.cell? ⟨w.heap.size, 1, none⟩ = some (.int .i64 x) := by rw [HW1.out, (Cells.new w _ _).cell]; rfl
    by_cases h2 : l / 2 ^ g = 0
    · have hz := NZ.out.2 h2
      have F := hid (FN.out (isW x) w1 (by simp [h1, h2]) B1.out)
      obtain ⟨b, hb⟩ : ∃ b, b = isW x := ⟨_, rfl⟩
      rw [← hb] at IW F
      clear FN hb h1 h2
      go_enter Tryd.func78, Tryd.ntmps78
      go_upto_region 1 with fail
      rw [← HW1.out]
      go_wp2_with fail
      refine IW.out.mono ?_
      rintro e w2 ⟨rfl, rfl⟩
      clear IW
      go_wp2
      first | exact F.out | (go_ret; exact F.out)
    · have hz : ¬ (l : Int) / 2 ^ g = 0 := fun h => h2 (NZ.out.1 h)
      have F := hid (FN.out false w1 (by simp [h2]) B1.out)
      clear FN h1 h2
      go_enter Tryd.func78, Tryd.ntmps78
      go_upto_region 1 with fail
      rw [← HW1.out]
      go_wp2
      first | exact F.out | (go_ret; exact F.out)
/-- What a slice value's length is. -/
def lenGt : Value → Bool
  | .slice _ n _ => decide (64 < n)
  | _ => false

set_option maxRecDepth 100000 in
set_option maxHeartbeats 4000000 in
theorem chk2_calls (p : Option Addr) (n c : Nat) (w : World) : Calls Tryd.prog 93 #[.slice p n c] w fun e w' => e = .returned (.bool (decide (64 < n))) ∧ w' = w := by
  obtain ⟨R, hR⟩ : ∃ R : Ending → World → Prop, R = fun e w' => e = .returned (.bool (decide (64 < n))) ∧ w' = w := ⟨_, rfl⟩
  rw [← hR]
  have FN := hid (show ∀ b, b = decide (64 < n) → R (.returned (.bool b)) w from fun b h => by rw [hR, h]; exact ⟨rfl, rfl⟩)
  clear hR
  by_cases h : 64 < n
  · have F := hid (FN.out true (by simp [h]))
    have h2 : (64 : Int) < (n : Int) := by omega
    clear FN
    go_enter Tryd.func93, Tryd.ntmps93
    go_wp2
    first | exact F.out | (simp only [decide_eq_true h2]; exact F.out) | (go_ret; exact F.out)
  · have F := hid (FN.out false (by simp [h]))
    have h2 : decide ((64 : Int) < (n : Int)) = false := by simp; omega
    clear FN
    go_enter Tryd.func93, Tryd.ntmps93
    go_wp2
    first | exact F.out | (go_ret; exact F.out)
theorem chk2_pred (vs : List Value) (h : ∀ v ∈ vs, ∃ p n c, v = .slice p n c) (w : World) : PredC (fun u : Value => u) 93 #[] lenGt vs w :=
  ⟨fun args wx => enters_of Tryd.func93 (by kernel_rfl) rfl args wx, fun x hx wx _ => by
    obtain ⟨p, n, c, rfl⟩ := h x hx
    exact (chk2_calls p n c wx).mono fun e w' h => ⟨h.1, by rw [h.2]; exact Below.refl _ _⟩⟩

set_option maxRecDepth 100000 in
set_option maxHeartbeats 4000000 in
theorem chk3_calls (o : Of) (g : Nat) (hg : g ≤ 10) (ho : o.lots < 4294967296) (w : World) (ab : Nat) (hc : w.cell? ⟨ab, 0, none⟩ = some (.int .i64 g)) : Calls Tryd.prog 94 #[.agg #[.int .u32 o.lots, .int .i64 o.w], .pointer (some ⟨ab, 0, none⟩)] w fun e w' => e = .returned (.bool (!okO g o)) ∧ Below w.heap.size w w' := by
  obtain ⟨R, hR⟩ : ∃ R : Ending → World → Prop, R = fun e w' => e = .returned (.bool (!okO g o)) ∧ Below w.heap.size w w' := ⟨_, rfl⟩
  rw [← hR]
  have FN := hid (show ∀ w', Below w.heap.size w w' → R (.returned (.bool (!okO g o))) w' from fun w' hb => by rw [hR]; exact ⟨rfl, hb⟩)
  clear hR
  obtain ⟨w1, hw1⟩ : ∃ w1, w1 = w.alloc (.cells #[.int .u32 o.lots, .int .i64 o.w] 54) := ⟨_, rfl⟩
  have B1 := hid (show Below w.heap.size w w1 by rw [hw1]; exact (Below.refl _ _).alloc (Nat.le_refl _) _)
  have IO := hid (isOffer_calls o g hg ho w1)
  have c0 : w1.cell? ⟨w.heap.size, 0, none⟩ = some (.int .u32 o.lots) := by rw [hw1, (Cells.new w _ _).cell]; rfl
  have c1 : w1.cell? ⟨w.heap.size, 1, none⟩ = some (.int .i64 o.w) := by rw [hw1, (Cells.new w _ _).cell]; rfl
  have ca := (B1.out.cell (p := ⟨ab, 0, none⟩) (World.block_lt_of_cell? _ _ hc)).trans hc
  have HW1 := hid hw1
  obtain ⟨l, hl⟩ : ∃ l, l = o.lots := ⟨_, rfl⟩
  obtain ⟨x, hx⟩ : ∃ x, x = o.w := ⟨_, rfl⟩
  obtain ⟨b, hb⟩ : ∃ b, b = okO g o := ⟨_, rfl⟩
  rw [← hl, ← hx, ← hb] at IO
  rw [← hl, ← hx] at HW1
  rw [← hl] at c0
  rw [← hx] at c1
  rw [← hb] at FN
  rw [← hl, ← hx]
  clear hw1 hc hl hx hb ho
  go_enter Tryd.func94, Tryd.ntmps94
  go_upto_region 1 with fail
  rw [← HW1.out]
  go_wp2_with fail
  refine IO.out.mono ?_
  rintro e w2 ⟨rfl, hb2⟩
  have F := hid (FN.out w2 (B1.out.trans (hb2.mono B1.out.size)))
  clear hb2 IO
  go_wp2
  first | exact F.out | (go_ret; exact F.out)
end Go.Proofs.YtojednnciknhpaaDoor
namespace Go.Proofs.YtojednnciknhpaaDoor
set_option linter.unusedSimpArgs false
set_option linter.unusedVariables false
open Go.RowKit
attribute [local go_sem] Oper.semAt_some
attribute [local go_sem ↓] Go.wp_at_zero Go.wp_at_succ
/-- What is wrong with an auction. -/
def chkA (a : Au) : Int :=
  if a.g < 1 ∨ 10 < a.g then 1
  else if ¬ (a.res.length : Int) = a.g then 7
  else if a.res.any (fun x => !isW x) = true then 1
  else if 12 < a.bid.length ∨ a.bid.any (fun l => decide (64 < l.length)) = true then 2
  else if a.bid.any (fun l => l.any fun o => !okO a.g.toNat o) = true then 40
  else 0
/-- An auction in memory: its two slices. -/
structure AuV (w : World) (vr vb : Value) (a : Au) : Prop where
  res : ReadsE encI 1 w vr a.res
  bid : NestE encOf 2 w vb a.bid
  sml : ∀ l ∈ a.bid, ∀ o ∈ l, o.lots < 4294967296
theorem AuV.below {w w' : World} {vr vb : Value} {a : Au} (h : AuV w vr vb a) (hb : Below w.heap.size w w') : AuV w' vr vb a := ⟨h.res.below hb, h.bid.below hb, h.sml⟩
theorem any_len {w : World} {vs : List Value} {L : List (List Of)} (h : vs.length = L.length) (hk : ∀ (k : Nat) (h1 : k < vs.length) (h2 : k < L.length), ReadsE encOf 2 w vs[k] L[k]) : vs.any lenGt = L.any fun l => decide (64 < l.length) := by
  rw [Bool.eq_iff_iff, List.any_eq_true, List.any_eq_true]
  constructor
  · rintro ⟨x, hx, hl⟩
    obtain ⟨k, hk1, rfl⟩ := List.getElem_of_mem hx
    have hk2 : k < L.length := by rw [← h]; exact hk1
    obtain ⟨_, p, c, _, _, e, _⟩ := hk k hk1 hk2
    rw [e] at hl
    exact ⟨L[k], List.getElem_mem hk2, hl⟩
  · rintro ⟨x, hx, hl⟩
    obtain ⟨k, hk2, rfl⟩ := List.getElem_of_mem hx
    have hk1 : k < vs.length := by rw [h]; exact hk2
    obtain ⟨_, p, c, _, _, e, _⟩ := hk k hk1 hk2
    refine ⟨vs[k], List.getElem_mem hk1, ?_⟩
    rw [e]
    exact hl
theorem forms {w : World} {vs : List Value} {L : List (List Of)} (h : vs.length = L.length) (hk : ∀ (k : Nat) (h1 : k < vs.length) (h2 : k < L.length), ReadsE encOf 2 w vs[k] L[k]) : ∀ v ∈ vs, ∃ p n c, v = Value.slice p n c := fun v hv => by
  obtain ⟨k, hk1, rfl⟩ := List.getElem_of_mem hv
  obtain ⟨_, p, c, _, _, e, _⟩ := hk k hk1 (by rw [← h]; exact hk1)
  exact ⟨p, _, c, e⟩

set_option maxRecDepth 100000 in
set_option maxHeartbeats 8000000 in
theorem check_calls {w : World} {vr vb : Value} {a : Au} (h : AuV w vr vb a) (hlr : a.res.length ≤ 100000) (hlb : a.bid.length ≤ 100000) :
    Calls Tryd.prog 56 #[.agg #[.int .i64 a.g, vr, vb]] w fun e w' => e = .returned (.int .i64 (chkA a)) ∧ Below w.heap.size w w' := by
  obtain ⟨R, hR⟩ : ∃ R : Ending → World → Prop, R = fun e w' => e = .returned (.int .i64 (chkA a)) ∧ Below w.heap.size w w' := ⟨_, rfl⟩
  rw [← hR]
  have FN := hid (show ∀ z w', z = chkA a → Below w.heap.size w w' → R (.returned (.int .i64 z)) w' from fun z w' a b => by rw [hR, a]; exact ⟨rfl, b⟩)
  unfold chkA at FN
  have H := hid h
  obtain ⟨vs, hvs, hvl, hvk⟩ := h.bid
  obtain ⟨_, pr, cr, _, _, hvr, _, _⟩ := h.res
  have AL := hid (any_len hvl hvk)
  have FO := hid (forms hvl hvk)
  obtain ⟨hmb, pb, cbp, bb, off, hvb, hpb, hcb⟩ := hvs
  obtain ⟨nr, hnr⟩ : ∃ nr, nr = a.res.length := ⟨_, rfl⟩
  obtain ⟨nb, hnb⟩ : ∃ nb, nb = a.bid.length := ⟨_, rfl⟩
  rw [← hnr] at hvr FN hlr
  rw [hvl, ← hnb] at hvb hpb
  rw [← hnb] at FN hlb
  subst hvr hvb
  have HNB := hid hnb
  have HVL := hid (show vs.length = nb by rw [hnb]; exact hvl)
  have HVK := hid hvk
  have HPB := hid hpb
  have HCB := hid hcb
  obtain ⟨g, hg⟩ : ∃ g, g = a.g := ⟨_, rfl⟩
  rw [← hg] at FN ⊢
  obtain ⟨w1, hw1⟩ : ∃ w1, w1 = w.alloc (.cells #[.int .i64 g, .slice pr nr cr, .slice pb nb cbp] 35) := ⟨_, rfl⟩
  have B1 := hid (show Below w.heap.size w w1 by rw [hw1]; exact (Below.refl _ _).alloc (Nat.le_refl _) _)
  have CA := hid (show Cells w1 w.heap.size #[.int .i64 g, .slice pr nr cr, .slice pb nb cbp] 35 by rw [hw1]; exact Cells.new w _ _)
  have KS := hid (show ∀ wx, Below w1.heap.size w1 wx → wx.cell? ⟨w.heap.size, 0, none⟩ = some (.int .i64 g) ∧ wx.cell? ⟨w.heap.size, 1, none⟩ = some (.slice pr nr cr) ∧ wx.cell? ⟨w.heap.size, 2, none⟩ = some (.slice pb nb cbp) from fun wx hb => by
    have c := CA.out.below hb CA.out.lt
    refine ⟨?_, ?_, ?_⟩ <;> (rw [c.cell]; rfl))
  have HW1 := hid hw1
  have CF1 := hid (containsF_i (H.out.res.below B1.out) (chk1_pred _ _))
  clear hR h hmb hpb hcb hvl hvk hnr hnb hg hw1
  obtain ⟨k0, k1, k2⟩ := KS.out w1 (Below.refl _ _)
  by_cases hg1 : g < 1 ∨ 10 < g
  · have F := hid (FN.out 1 w1 (if_pos hg1).symm B1.out)
    clear FN
    by_cases hg2 : g < 1
    · clear hg1
      go_enter Tryd.func56, Tryd.ntmps56
      go_upto_region 1 with fail
      rw [← HW1.out]
      go_wp2
      first | exact F.out | (go_ret; exact F.out)
    · have hg3 : 10 < g := by omega
      have hg4 : 1 ≤ g := by omega
      clear hg1 hg2
      go_enter Tryd.func56, Tryd.ntmps56
      go_upto_region 1 with fail
      rw [← HW1.out]
      go_wp2
      first | exact F.out | (go_ret; exact F.out)
  · have hg2 : 1 ≤ g := by omega
    have hg3 : g ≤ 10 := by omega
    have FN1 := hid (fun z w' h hb => FN.out z w' (Eq.trans h (if_neg hg1).symm) hb)
    clear FN hg1
    by_cases hrl : (nr : Int) = g
    · have FN2 := hid (fun z w' h hb => FN1.out z w' (Eq.trans h (if_neg (by simp [hrl])).symm) hb)
      have e1 : ((nr : Int) == g) = true := by simpa using hrl
      have e2 : ((nr : Int) != g) = false := by simpa using hrl
      clear FN1 hrl
      go_enter Tryd.func56, Tryd.ntmps56
      go_upto_region 1 with fail
      rw [← HW1.out]
      go_wp2_with fail
      refine CF1.out.mono ?_
      rintro e w2 ⟨rfl, hb2⟩
      have B2 := hid (B1.out.trans (hb2.mono B1.out.size))
      have B12 := hid hb2
      obtain ⟨j0, j1, j2⟩ := KS.out w2 hb2
      have CF2 := hid (containsF_v (l := vs) (w := w2) (v := .slice pb nb cbp) ⟨by rw [HVL.out]; omega, pb, cbp, bb, off, by rw [HVL.out], fun h0 => by
        obtain ⟨e, h1⟩ := HPB.out (by rw [← HVL.out]; exact h0)
        exact ⟨e, Nat.lt_of_lt_of_le h1 B2.out.size⟩, fun k hk j hj => by
        obtain ⟨_, h1⟩ := HPB.out (by rw [← HVL.out]; omega)
        exact (B2.out.cell (p := ⟨bb, off + k * 1 + j, none⟩) h1).trans (HCB.out k hk j hj)⟩ (chk2_pred vs FO.out w2))
      rw [AL.out] at CF2
      obtain ⟨t1, ht1⟩ : ∃ t1, t1 = a.res.any fun x => !isW x := ⟨_, rfl⟩
      rw [← ht1] at FN2 ⊢
      clear hb2 CF1 ht1 k0 k1 k2
      cases t1 with
      | true =>
        have F := hid (FN2.out 1 w2 rfl B2.out)
        go_wp2
        first | exact F.out | (go_ret; exact F.out)
      | false =>
      have FN3 := hid (fun z w' h hb => FN2.out z w' (Eq.trans h (if_neg (by simp)).symm) hb)
      clear FN2
      obtain ⟨t2, ht2⟩ : ∃ t2, t2 = a.bid.any fun l => decide (64 < l.length) := ⟨_, rfl⟩
      rw [← ht2] at FN3 CF2
      have HT2 := hid ht2
      clear ht2
      by_cases h12 : 12 < nb
      · have F := hid (FN3.out 2 w2 (if_pos (.inl h12)).symm B2.out)
        have hb3 : (12 : Int) < (nb : Int) := by omega
        clear FN3 h12
        go_wp2
        first | exact F.out | (go_ret; exact F.out)
      have hb4 : nb ≤ 12 := by omega
      go_upto_region 7 with fail
      go_wp2_with fail
      refine CF2.out.mono ?_
      rintro e w3 ⟨rfl, hb3⟩
      have B3 := hid (B2.out.trans (hb3.mono B2.out.size))
      have B13 := hid (B12.out.trans (hb3.mono B12.out.size))
      clear hb3 CF2 j0 j1 j2
      obtain ⟨j0, j1, j2⟩ := KS.out w3 B13.out
      cases t2 with
      | true =>
        have F := hid (FN3.out 2 w3 (if_pos (.inr rfl)).symm B3.out)
        go_wp2
        first | exact F.out | (go_ret; exact F.out)
      | false =>
      have FN4 := hid (fun z w' h hb => FN3.out z w' (Eq.trans h (if_neg (by simp; omega)).symm) hb)
      clear FN3
      obtain ⟨gn, rfl⟩ : ∃ gn : Nat, g = (gn : Int) := ⟨g.toNat, by omega⟩
      rw [Int.toNat_natCast] at FN4
      go_upto_region 10 with fail
      go_loopg [34] nb (fun k s34 wr => ∃ c : Nat, c + k = nb ∧ s34 = .int .i64 c ∧ (∀ k (hk : k < a.bid.length), k < c → (a.bid[k].any fun o => !okO gn o) = false) ∧ Below w3.heap.size w3 wr)
      case atStart => exact ⟨0, by omega, rfl, fun k _ h => by omega, Below.refl _ _⟩
      case round =>
      obtain ⟨c, hck, rfl, hno, hb⟩ := hrel
      have HCK := hid hck
      have NO := hid hno
      have B := hid hb
      have BW := hid (B3.out.trans (hb.mono B3.out.size))
      have B1X := hid (B13.out.trans (hb.mono B13.out.size))
      clear hck hno hb j0 j1 j2
      by_cases hcn : c < nb
      · have hcv : c < vs.length := by rw [HVL.out]; exact hcn
        have hcl : c < a.bid.length := by rw [← HNB.out]; exact hcn
        obtain ⟨rfl, hbb⟩ := HPB.out (by omega)
        have cc := (BW.out.cell (p := ⟨bb, off + c * 1 + 0, none⟩) hbb).trans (HCB.out c hcv 0 (by omega))
        simp at cc
        have RX := (HVK.out c hcv hcl).below BW.out
        have hsm := H.out.sml _ (List.getElem_mem hcl)
        have NX := hid (show (a.bid[c].any fun o => !okO gn o) = false → ∀ k (hk : k < a.bid.length), k < c + 1 → (a.bid[k].any fun o => !okO gn o) = false from fun hq k hk h => by
          by_cases e : k = c
          · subst e; exact hq
          · exact NO.out k hk (by omega))
        have YY := hid (show (a.bid[c].any fun o => !okO gn o) = true → a.bid.any (fun l => l.any fun o => !okO gn o) = true from fun hq => any_at (P := fun l => l.any fun o => !okO gn o) hcl hq)
        obtain ⟨x, hx⟩ : ∃ x, x = vs[c] := ⟨_, rfl⟩
        rw [← hx] at cc RX
        have PD : PredC (fun o : Of => Value.agg #[.int .u32 o.lots, .int .i64 o.w]) 94 #[.pointer (some ⟨w.heap.size, 0, none⟩)] (fun o => !okO gn o) a.bid[c] wr := ⟨fun args wx => enters_of Tryd.func94 (by kernel_rfl) rfl args wx, fun o ho wx hb => chk3_calls o gn (by omega) (hsm o ho) wx w.heap.size (KS.out wx (B1X.out.trans (hb.mono B1X.out.size))).1⟩
        have CF := hid (containsF_o RX PD)
        obtain ⟨_, px, cx, _, _, hvx, _, _⟩ := RX
        obtain ⟨lx, hlx⟩ : ∃ lx, lx = a.bid[c].length := ⟨_, rfl⟩
        rw [← hlx] at hvx
        subst hvx
        obtain ⟨t, ht⟩ : ∃ t, t = a.bid[c].any fun o => !okO gn o := ⟨_, rfl⟩
        rw [← ht] at CF NX YY
        have gc : (c : Int) < (nb : Int) := by omega
        have gc0 : (0 : Int) ≤ (c : Int) := by omega
        clear ht hx PD hlx hsm
        go_upto_region 12 with fail
        go_wp2_with fail
        refine CF.out.mono ?_
        rintro e w5 ⟨rfl, hb5⟩
        have B5 := hid (B.out.trans (hb5.mono B.out.size))
        have BW5 := hid (BW.out.trans (hb5.mono BW.out.size))
        clear hb5 CF
        cases t with
        | true =>
          have F := hid (FN4.out 40 w5 (if_pos (YY.out rfl)).symm BW5.out)
          go_wp2
          first | exact F.out | (go_ret; exact F.out)
        | false =>
          have N2 := hid (NX.out rfl)
          go_wp2
          go_roundg (nb - (c + 1))
          · exact ⟨c + 1, by omega, by go_num, N2.out, B5.out⟩
          · have := HCK.out; omega
      obtain rfl : c = nb := by have := HCK.out; omega
      have g1 : decide ((c : Int) < (c : Int)) = false := by simp
      have F := hid (FN4.out 0 wr (if_neg (by rw [any_take (P := fun l => l.any fun o => !okO gn o) (fun k hk => NO.out k hk (by rw [HNB.out]; exact hk))]; simp)).symm BW.out)
      go_wp2
      first | exact F.out | (go_ret; exact F.out)
    · have F := hid (FN1.out 7 w1 (if_pos hrl).symm B1.out)
      have e1 : ((nr : Int) == g) = false := by simpa using hrl
      have e2 : ((nr : Int) != g) = true := by simpa using hrl
      clear FN1 hrl
      go_enter Tryd.func56, Tryd.ntmps56
      go_upto_region 1 with fail
      rw [← HW1.out]
      go_wp2
      first | exact F.out | (go_ret; exact F.out)
end Go.Proofs.YtojednnciknhpaaDoor
namespace Go.Proofs.YtojednnciknhpaaDoor
set_option linter.unusedSimpArgs false
set_option linter.unusedVariables false
open Go.RowKit
attribute [local go_sem] Oper.semAt_some
attribute [local go_sem ↓] Go.wp_at_zero Go.wp_at_succ
def cols (L : List (List Int)) : Nat := (L.getD 0 []).length
/-- What is wrong with a hall. -/
def chkH (L : List (List Int)) : Int :=
  if L.length = 0 ∨ cols L = 0 then 1
  else if 64 < L.length ∨ 64 < cols L then 2
  else if L.any (fun r => decide (¬ r.length = cols L)) = true then 7
  else if L.any (fun r => r.any fun x => !isW x) = true then 1
  else 0
theorem isW_ok {x : Int} : isW x = true ↔ 0 ≤ x ∧ x ≤ 1000000000 := by simp [isW]
theorem chkH_ok {L : List (List Int)} (h : chkH L = 0) : OkH L (cols L) ∧ 1 ≤ L.length ∧ 1 ≤ cols L := by
  unfold chkH at h
  split at h
  · cases h
  · rename_i h1
    split at h
    · cases h
    · rename_i h2
      split at h
      · cases h
      · rename_i h3
        split at h
        · cases h
        · rename_i h4
          refine ⟨⟨by omega, by omega, fun r hr => ?_, fun r hr x hx => ?_⟩, by omega, by omega⟩
          · simp only [List.any_eq_true, not_exists, not_and] at h3
            have := h3 r hr
            simpa using this
          · simp only [List.any_eq_true, not_exists, not_and] at h4
            have := h4 r hr x hx
            exact isW_ok.1 (by simpa using this)

set_option maxRecDepth 100000 in
set_option maxHeartbeats 8000000 in
theorem checkHall_calls {w : World} {v : Value} {L : List (List Int)} (hv : NestE encI 1 w v L) :
    Calls Tryd.prog 53 #[v] w fun e w' => e = .returned (.int .i64 (chkH L)) ∧ Below w.heap.size w w' := by
  obtain ⟨R, hR⟩ : ∃ R : Ending → World → Prop, R = fun e w' => e = .returned (.int .i64 (chkH L)) ∧ Below w.heap.size w w' := ⟨_, rfl⟩
  rw [← hR]
  have FN := hid (show ∀ z w', z = chkH L → Below w.heap.size w w' → R (.returned (.int .i64 z)) w' from fun z w' a b => by rw [hR, a]; exact ⟨rfl, b⟩)
  unfold chkH at FN
  obtain ⟨vs, hvs, hvl, hvk⟩ := hv
  obtain ⟨hm, p, cap, bb, off, rfl, hp, hc⟩ := hvs
  obtain ⟨n, hn⟩ : ∃ n, n = L.length := ⟨_, rfl⟩
  rw [hvl, ← hn] at hp hm ⊢
  rw [← hn] at FN
  have HN := hid hn
  have HVL := hid (show vs.length = n by rw [hn]; exact hvl)
  have HVK := hid hvk
  have HP := hid hp
  have HC := hid hc
  clear hR hn hvl hvk hp hc
  rcases Nat.eq_zero_or_pos n with h0 | h0
  · have F := hid (FN.out 1 w (by rw [if_pos (.inl h0)]) (Below.refl _ _))
    subst h0
    clear FN
    go_enter Tryd.func53, Tryd.ntmps53
    go_wp2
    first | exact F.out | (go_ret; exact F.out)
  · obtain ⟨rfl, hbb⟩ := HP.out h0
    have hv0 : 0 < vs.length := by rw [HVL.out]; exact h0
    have hl0 : 0 < L.length := by rw [← HN.out]; exact h0
    have c0 := HC.out 0 hv0 0 (by omega)
    simp at c0
    obtain ⟨hm0, p0, cap0, b0, o0, hv0e, _, _⟩ := HVK.out 0 hv0 hl0
    rw [hv0e] at c0
    obtain ⟨m, hm'⟩ : ∃ m, m = L[0].length := ⟨_, rfl⟩
    rw [← hm'] at c0 hm0
    have hcol : cols L = m := by unfold cols; rw [hm']; simp [hl0]
    rw [hcol] at FN
    have h0z : (0 : Int) < (n : Int) := by omega
    clear hm' hv0e hcol
    by_cases hm00 : m = 0
    · have F := hid (FN.out 1 w (by rw [if_pos (.inr hm00)]) (Below.refl _ _))
      subst hm00
      clear FN
      go_enter Tryd.func53, Tryd.ntmps53
      go_wp2
      first | exact F.out | (go_ret; exact F.out)
    · have hm0p : 0 < m := by omega
      have en : ((n : Int) == 0) = false := by simp; omega
      have em : ((m : Int) == 0) = false := by simp; omega
      have FN1 := hid (fun z w' h hb => FN.out z w' (Eq.trans h (if_neg (show ¬ (n = 0 ∨ m = 0) by omega)).symm) hb)
      by_cases hbig : 64 < n ∨ 64 < m
      · have F := hid (FN1.out 2 w (by rw [if_pos hbig]) (Below.refl _ _))
        clear FN FN1
        rcases hbig with hb1 | hb1
        · have hb2 : (64 : Int) < (n : Int) := by omega
          go_enter Tryd.func53, Tryd.ntmps53
          go_wp2
          first | exact F.out | (go_ret; exact F.out)
        · have hb2 : (64 : Int) < (m : Int) := by omega
          by_cases hb3 : 64 < n
          · have hb4 : (64 : Int) < (n : Int) := by omega
            go_enter Tryd.func53, Tryd.ntmps53
            go_wp2
            first | exact F.out | (go_ret; exact F.out)
          · have hb4 : (n : Int) ≤ 64 := by omega
            go_enter Tryd.func53, Tryd.ntmps53
            go_wp2
            first | exact F.out | (go_ret; exact F.out)
      · have hn64 : n ≤ 64 := by omega
        have hm64 : m ≤ 64 := by omega
        have FN2 := hid (fun z w' h hb => FN1.out z w' (Eq.trans h (if_neg hbig).symm) hb)
        clear FN FN1 hbig
        go_enter Tryd.func53, Tryd.ntmps53
        go_upto_region 6 with fail
        go_loopg [29] n (fun k s29 wr => ∃ i : Nat, i + k = n ∧ s29 = .int .i64 i ∧ (∀ k (hk : k < L.length), k < i → decide (¬ L[k].length = m) = false) ∧ wr = w)
        case atStart => exact ⟨0, by omega, rfl, fun k _ h => by omega, rfl⟩
        case round =>
        obtain ⟨i, hik, rfl, hno, hwr⟩ := hrel
        have HIK := hid hik
        have NO := hid hno
        rw [hwr]
        clear hik hno hwr
        by_cases hin : i < n
        · have hiv : i < vs.length := by rw [HVL.out]; exact hin
          have hil : i < L.length := by rw [← HN.out]; exact hin
          have ci := HC.out i hiv 0 (by omega)
          simp at ci
          obtain ⟨_, pi, capi, bi, oi, hvi, _, _⟩ := HVK.out i hiv hil
          rw [hvi] at ci
          have NX := hid (show decide (¬ L[i].length = m) = false → ∀ k (hk : k < L.length), k < i + 1 → decide (¬ L[k].length = m) = false from fun hq k hk h => by
            by_cases e : k = i
            · subst e; exact hq
            · exact NO.out k hk (by omega))
          have YY := hid (show decide (¬ L[i].length = m) = true → L.any (fun r => decide (¬ r.length = m)) = true from fun hq => any_at (P := fun r => decide (¬ r.length = m)) hil hq)
          obtain ⟨q, hq⟩ : ∃ q, q = L[i].length := ⟨_, rfl⟩
          rw [← hq] at ci NX YY
          have gi : (i : Int) < (n : Int) := by omega
          have gi0 : (0 : Int) ≤ (i : Int) := by omega
          clear hq hvi
          by_cases hqm : q = m
          · subst hqm
            have N2 := hid (NX.out (by simp))
            go_wp2
            go_roundg (n - (i + 1))
            · exact ⟨i + 1, by omega, by go_num, N2.out, rfl⟩
            · have := HIK.out; omega
          · have F := hid (FN2.out 7 w (by rw [if_pos (YY.out (by simp [hqm]))]) (Below.refl _ _))
            have e1 : ((q : Int) == (m : Int)) = false := by simp; omega
            have e2 : ((q : Int) != (m : Int)) = true := by simp; omega
            have e3 : ¬ (q : Int) = (m : Int) := by omega
            go_wp2
            first | exact F.out | (go_ret; exact F.out)
        obtain rfl : i = n := by have := HIK.out; omega
        have g1 : decide ((i : Int) < (i : Int)) = false := by simp
        have FN3 := hid (fun z w' h hb => FN2.out z w' (Eq.trans h (if_neg (by rw [any_take (P := fun r => decide (¬ r.length = m)) (fun k hk => NO.out k hk (by rw [HN.out]; exact hk))]; simp)).symm) hb)
        clear NO FN2 HIK
        go_upto_region 12 with fail
        clear g1
        go_loopg [43] i (fun k s43 wr => ∃ c : Nat, c + k = i ∧ s43 = .int .i64 c ∧ (∀ k (hk : k < L.length), k < c → (L[k].any fun x => !isW x) = false) ∧ Below w.heap.size w wr)
        case atStart => exact ⟨0, by omega, rfl, fun k _ h => by omega, Below.refl _ _⟩
        case round =>
        obtain ⟨c, hck, rfl, hno, hb⟩ := hrel
        have HCK := hid hck
        have NO := hid hno
        have B := hid hb
        clear hck hno hb
        by_cases hcn : c < i
        · have hcv : c < vs.length := by rw [HVL.out]; exact hcn
          have hcl : c < L.length := by rw [← HN.out]; exact hcn
          have cc := (B.out.cell (p := ⟨bb, off + c * 1 + 0, none⟩) hbb).trans (HC.out c hcv 0 (by omega))
          simp at cc
          have RX := (HVK.out c hcv hcl).below B.out
          have CF := hid (containsF_i RX (ch1_pred _ _))
          have NX := hid (show (L[c].any fun x => !isW x) = false → ∀ k (hk : k < L.length), k < c + 1 → (L[k].any fun x => !isW x) = false from fun hq k hk h => by
            by_cases e : k = c
            · subst e; exact hq
            · exact NO.out k hk (by omega))
          have YY := hid (show (L[c].any fun x => !isW x) = true → L.any (fun r => r.any fun x => !isW x) = true from fun hq => any_at (P := fun r => r.any fun x => !isW x) hcl hq)
          obtain ⟨t, ht⟩ : ∃ t, t = L[c].any fun x => !isW x := ⟨_, rfl⟩
          rw [← ht] at CF NX YY
          obtain ⟨x, hx⟩ : ∃ x, x = vs[c] := ⟨_, rfl⟩
          rw [← hx] at cc CF
          have gc : (c : Int) < (i : Int) := by omega
          have gc0 : (0 : Int) ≤ (c : Int) := by omega
          clear ht hx RX
          go_upto_region 14 with fail
          go_wp2_with fail
          refine CF.out.mono ?_
          rintro e w2 ⟨rfl, hb2⟩
          have B2 := hid (B.out.trans (hb2.mono B.out.size))
          clear hb2 CF
          cases t with
          | true =>
            have F := hid (FN3.out 1 w2 (by rw [if_pos (YY.out rfl)]) B2.out)
            go_wp2
            first | exact F.out | (go_ret; exact F.out)
          | false =>
            have N2 := hid (NX.out rfl)
            go_wp2
            go_roundg (i - (c + 1))
            · exact ⟨c + 1, by omega, by go_num, N2.out, B2.out⟩
            · have := HCK.out; omega
        obtain rfl : c = i := by have := HCK.out; omega
        have g1 : decide ((c : Int) < (c : Int)) = false := by simp
        have F := hid (FN3.out 0 wr (by rw [if_neg (by rw [any_take (P := fun r => r.any fun x => !isW x) (fun k hk => NO.out k hk (by rw [HN.out]; exact hk))]; simp)]) B.out)
        go_wp2
        first | exact F.out | (go_ret; exact F.out)
end Go.Proofs.YtojednnciknhpaaDoor
