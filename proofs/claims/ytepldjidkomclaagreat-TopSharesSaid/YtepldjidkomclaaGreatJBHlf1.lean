/- half.find: where a price is among the levels. -/
import Derived.Shelf.Abstract
import Derived.Test.YtepldjidkomclaaGreatJCCl0
namespace Go.Proofs.YtepldjidkomclaaGreat.Bo
set_option linter.unusedSimpArgs false
set_option linter.unusedVariables false
open Go.RowKit Go.Shelf
attribute [local go_sem] Oper.semAt_some
attribute [local go_sem ↓] Go.wp_at_zero Go.wp_at_succ
theorem quiet_add {P : Program} {f : FuncId} {args : Array Value} {w : World} {m n : Nat} {v : Value}
    (h : Calls P f args (w.drewN (m + n)) fun e w' => e = .returned v ∧ ∃ k, w' = (w.drewN (m + n)).drewN k) : Calls P f args (w.drewN (m + n)) fun e w'' => e = .returned v ∧ ∃ k, w'' = w.drewN (m + k) :=
  h.mono fun _ _ ⟨he, k, hm⟩ => ⟨he, n + k, by rw [hm, World.drewN_drewN, Nat.add_assoc]⟩
theorem bet1_calls (a b : Int) (w : World) : Calls Tryz.prog 48 #[.int .i64 a, .int .i64 b] w fun e w' => e = .returned (.bool (better 1 a b)) ∧ ∃ m, w' = w.drewN m := by
  have hb : better 1 a b = decide (b < a) := rfl
  rw [hb]
  by_cases h : b < a
  · go_enter Tryz.func48, Tryz.ntmps48
    go_wp2
    go_ret
    exact ⟨by simp; omega, 0, rfl⟩
  · go_enter Tryz.func48, Tryz.ntmps48
    go_wp2
    go_ret
    exact ⟨by simp; omega, 0, rfl⟩
theorem bet2_calls (a b : Int) (w : World) : Calls Tryz.prog 49 #[.int .i64 a, .int .i64 b] w fun e w' => e = .returned (.bool (better 2 a b)) ∧ ∃ m, w' = w.drewN m := by
  have hb : better 2 a b = decide (a < b) := rfl
  rw [hb]
  by_cases h : a < b
  · go_enter Tryz.func49, Tryz.ntmps49
    go_wp2
    go_ret
    exact ⟨by simp; omega, 0, rfl⟩
  · go_enter Tryz.func49, Tryz.ntmps49
    go_wp2
    go_ret
    exact ⟨by simp; omega, 0, rfl⟩
theorem better_one (s a b : Int) : better (if s = 1 then 1 else 2) a b = better s a b := by
  unfold better
  split <;> simp_all
theorem bet_calls (side : Int) (a b : Int) (w : World) : Calls Tryz.prog (betF side) #[.int .i64 a, .int .i64 b] w fun e w' => e = .returned (.bool (better side a b)) ∧ ∃ m, w' = w.drewN m := by
  rw [← better_one]
  unfold betF
  split
  · exact bet1_calls a b w
  · exact bet2_calls a b w
theorem bet_enters (side : Int) : ∀ args w, (callFunc (betF side) args).run Tryz.prog w = .ok (.enter (betF side) args) w := by
  unfold betF
  split
  · exact enters_of Tryz.func48 (by kernel_rfl) rfl
  · exact enters_of Tryz.func49 (by kernel_rfl) rfl
set_option maxRecDepth 100000 in
set_option maxHeartbeats 4000000 in
theorem find_calls {O : Nat → Nat} {c : Nat} {w : World} {H : Nat} {side : Int} {pre post : List Lv} {en : Nat → En} (h : HlfC O c w H side (pre ++ post) en) (price : Int) (h1 : ∀ x ∈ pre, better side x.1 price = true) (h2 : ∀ x ∈ post, better side x.1 price = false)
    (hlen : (pre ++ post).length ≤ 1000000) :
    Calls Tryz.prog 91 #[pt H, .int .i64 price] w fun e w' => e = .returned (.tuple #[.int .i64 pre.length, .bool (decide ((post.head?).map Prod.fst = some price))]) ∧ ∃ m, w' = w.drewN m := by
  obtain ⟨p, cap, b, hc, hp, hb, hrow, _⟩ := h.row
  have hp := fun h0 => (hp h0).1
  have hlev := h.level
  obtain ⟨n, hn⟩ : ∃ n, n = (pre ++ post).length := ⟨_, rfl⟩
  obtain ⟨q, hq⟩ : ∃ q, q = pre.length := ⟨_, rfl⟩
  have hqn : q ≤ n := by rw [hn, hq, List.length_append]; omega
  obtain ⟨pr, hpr⟩ : ∃ pr : Nat → Int, ∀ k (hk : k < n), pr k = ((pre ++ post)[k]'(hn ▸ hk)).1 := ⟨fun k => (((pre ++ post)[k]?).map Prod.fst).getD 0, fun k hk => by simp [List.getElem?_eq_getElem (hn ▸ hk)]⟩
  obtain ⟨lb, hlb⟩ : ∃ lb : Nat → Nat, ∀ k (hk : k < n), lb k = ((pre ++ post)[k]'(hn ▸ hk)).2.1 := ⟨fun k => (((pre ++ post)[k]?).map fun x => x.2.1).getD 0, fun k hk => by simp [List.getElem?_eq_getElem (hn ▸ hk)]⟩
  have hr1 : ∀ k, k < n → w.cell? ⟨b, k, none⟩ = some (pt (lb k)) := fun k hk => by rw [hlb k hk]; exact hrow k (hn ▸ hk)
  have hr2 : ∀ k, k < n → w.cell? ⟨lb k, 0, none⟩ = some (.int .i64 (pr k)) ∧ lb k < w.heap.size := fun k hk => by rw [hlb k hk, hpr k hk]; exact hlev k (hn ▸ hk)
  have hb1 : ∀ k, k < q → better side (pr k) price = true := fun k hk => by
    rw [hpr k (by omega)]
    refine h1 _ ?_
    rw [List.getElem_append_left (by omega)]
    exact List.getElem_mem _
  have hb2 : ∀ k, q ≤ k → k < n → better side (pr k) price = false := fun k hk hkn => by
    rw [hpr k hkn]
    refine h2 _ ?_
    rw [List.getElem_append_right (by omega)]
    exact List.getElem_mem _
  have hres : decide ((post.head?).map Prod.fst = some price) = (decide (q < n) && decide (pr q = price)) := by
    cases post with
    | nil => simp [hn, hq]
    | cons x r =>
      have hlt : q < n := by rw [hn, hq]; simp
      have := hpr q hlt
      simp only [hq, List.getElem_append_right (Nat.le_refl _), Nat.sub_self, List.getElem_cons_zero] at this
      rw [hq] at hlt ⊢
      simp [hlt, this]
  rw [hres]
  have c0 : w.cell? ⟨H, 0, none⟩ = some (betV side) := by rw [hc.cell]; rfl
  have c1 : w.cell? ⟨H, 1, none⟩ = some (.slice p n cap) := by rw [hc.cell, hn]; rfl
  have hHlt := hc.lt
  rw [← hn] at hp hlen
  rw [← hq]
  have HP := hid hp
  have HR1 := hid hr1
  have HR2 := hid hr2
  have HB1 := hid hb1
  have HB2 := hid hb2
  have eg := bet_enters side
  have bc := fun a b w => bet_calls side a b w
  have BC := hid bc
  have EG := hid eg
  clear h hc hp hrow hlev hn hq hpr hlb hr1 hr2 hb1 hb2 h1 h2 hres bc eg
  have hbv : betV side = .func (.func (betF side)) #[] #[] := rfl
  rw [hbv] at c0
  clear hbv
  generalize betF side = bf at *
  go_enter Tryz.func91, Tryz.ntmps91
  go_wp2
  go_quiet (fail)
  go_wp2
  go_loopg [6, 7, 8] n (fun k s6 s7 s8 wr => ∃ lo hi m : Nat, s6 = .int .i64 lo ∧ s7 = .int .i64 hi ∧ lo ≤ q ∧ q ≤ hi ∧ hi ≤ n ∧ k = hi - lo ∧ wr = w.drewN m)
  case atStart => exact ⟨0, n, nq, rfl, rfl, by omega, by omega, by omega, rfl, rfl⟩
  case round =>
    obtain ⟨lo, hi, m, rfl, rfl, hlo, hqi, hin, hk, rfl⟩ := hrel
    have HK := hid hk
    clear hk
    by_cases hlh : lo < hi
    · have hmid : ((lo : Int) + hi).tdiv 2 = ((lo + hi) / 2 : Nat) := by rw [Int.tdiv_eq_ediv_of_nonneg (by omega)]; omega
      obtain ⟨mid, hmd⟩ : ∃ mid, mid = (lo + hi) / 2 := ⟨_, rfl⟩
      rw [← hmd] at hmid
      have hm1 : lo ≤ mid := by omega
      have hm2 : mid < hi := by omega
      have HMD := hid hmd
      clear hmd
      have hmn : mid < n := by omega
      have hpp := HP.out (by omega)
      subst hpp
      have r1 : w.cell? ⟨b, mid, none⟩ = some (pt (lb mid)) := HR1.out mid hmn
      have r2 : w.cell? ⟨lb mid, 0, none⟩ = some (.int .i64 (pr mid)) := (HR2.out mid hmn).1
      have r3 := (HR2.out mid hmn).2
      have eg := EG.out
      by_cases hmq : mid < q
      · have hbt := HB1.out mid hmq
        have bcm : ∀ w, Calls Tryz.prog bf #[.int .i64 (pr mid), .int .i64 price] w fun e w' => e = .returned (.bool true) ∧ ∃ m, w' = w.drewN m := fun w => by
          have := BC.out (pr mid) price w
          rwa [hbt] at this
        have BM := hid bcm
        clear bcm
        go_wp2
        go_quiet (exact quiet_add (BM.out _))
        go_wp2
        go_roundg (hi - (mid + 1))
        · exact ⟨mid + 1, hi, _, by go_num, rfl, by omega, by omega, by omega, rfl, rfl⟩
        · have := HK.out; omega
      · have hbt := HB2.out mid (by omega) hmn
        have bcm : ∀ w, Calls Tryz.prog bf #[.int .i64 (pr mid), .int .i64 price] w fun e w' => e = .returned (.bool false) ∧ ∃ m, w' = w.drewN m := fun w => by
          have := BC.out (pr mid) price w
          rwa [hbt] at this
        have BM := hid bcm
        clear bcm
        go_wp2
        go_quiet (exact quiet_add (BM.out _))
        go_wp2
        go_roundg (mid - lo)
        · exact ⟨lo, mid, _, rfl, rfl, by omega, by omega, by omega, rfl, World.drewN_drewN _ _ _⟩
        · have := HK.out; omega
    · have hlq : lo = q := by omega
      subst hlq
      by_cases hln : lo < n
      · have hpp := HP.out (by omega)
        subst hpp
        have r1 : w.cell? ⟨b, lo, none⟩ = some (pt (lb lo)) := HR1.out lo hln
        have r2 : w.cell? ⟨lb lo, 0, none⟩ = some (.int .i64 (pr lo)) := (HR2.out lo hln).1
        have r3 := (HR2.out lo hln).2
        go_wp2
        go_quiet (fail)
        go_wp2
        refine bodyPost_ret (v := .tuple #[.int .i64 lo, Value.bool (pr lo == price)]) (by simp [results, Tryz.results91, go_sem]) rfl ⟨by simp [hln]; rfl, _, World.drewN_drewN _ _ _⟩
      · have hd : decide ((lo : Int) < n) = false := by simpa using hln
        go_wp2
        go_quiet (fail)
        go_wp2
        refine bodyPost_ret (v := .tuple #[.int .i64 lo, .bool false]) (by simp [results, Tryz.results91, go_sem]) rfl ⟨by simp [hln], _, World.drewN_drewN _ _ _⟩
end Go.Proofs.YtepldjidkomclaaGreat.Bo
