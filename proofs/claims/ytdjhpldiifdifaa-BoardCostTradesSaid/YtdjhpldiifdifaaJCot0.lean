/- BoardCostTrades in plain Lean: what a market order of a stranger trades, and for how much. No program in sight. -/
import Derived.Test.YtdjhpldiifdifaaJFro0
import Derived.Test.YtdjhpldiifdifaaJCst
namespace Go.Proofs.Ytdjhpldiifdifaa
set_option linter.unusedSimpArgs false
set_option linter.unusedVariables false

/-- How much is traded of what is left, and for how much. -/
def cst : Int → List En → Int × Int
  | _, [] => (0, 0)
  | rem, e :: r => (min rem e.l + (cst (rem - min rem e.l) r).1, min rem e.l * e.o.p + (cst (rem - min rem e.l) r).2)
def posL (l : List En) : Prop := ∀ e ∈ l, 0 ≤ e.l
theorem cst_zero : ∀ {l : List En}, posL l → cst 0 l = (0, 0)
  | [], _ => rfl
  | e :: r, h => by
    have h1 := h e List.mem_cons_self
    have e1 : min (0 : Int) e.l = 0 := by omega
    unfold cst
    rw [e1, Int.sub_zero, cst_zero (fun x hx => h x (List.mem_cons_of_mem _ hx))]
    simp
theorem cst_swap {rem : Int} {a c : En} {r : List En} (hp : a.o.p = c.o.p) (ha : 0 ≤ a.l) (hc : 0 ≤ c.l) (hr : 0 ≤ rem) : cst rem (a :: c :: r) = cst rem (c :: a :: r) := by
  simp only [cst]
  have e1 : min rem a.l + min (rem - min rem a.l) c.l = min rem c.l + min (rem - min rem c.l) a.l := by omega
  have e2 : rem - min rem a.l - min (rem - min rem a.l) c.l = rem - min rem c.l - min (rem - min rem c.l) a.l := by omega
  rw [e2, hp]
  refine Prod.ext ?_ ?_
  · simp only; omega
  · simp only
    have e3 : min rem a.l * c.o.p + min (rem - min rem a.l) c.l * c.o.p = min rem c.l * c.o.p + min (rem - min rem c.l) a.l * c.o.p := by rw [← Int.add_mul, ← Int.add_mul, e1]
    omega
theorem cst_to_end {y : En} {R : List En} (hy : 0 ≤ y.l) : ∀ (q : List En) (rem : Int), posL q → (∀ e ∈ q, e.o.p = y.o.p) → 0 ≤ rem → cst rem (q ++ y :: R) = cst rem (y :: (q ++ R))
  | [], rem, _, _, _ => rfl
  | e :: q, rem, h, hp, hr => by
    have h1 := h e List.mem_cons_self
    have hp1 := hp e List.mem_cons_self
    have ih := cst_to_end (R := R) hy q (rem - min rem e.l) (fun x hx => h x (List.mem_cons_of_mem _ hx)) (fun x hx => hp x (List.mem_cons_of_mem _ hx)) (by omega)
    have e1 : cst rem (e :: (q ++ y :: R)) = cst rem (e :: y :: (q ++ R)) := by
      show (_, _) = (_, _)
      rw [ih]
    rw [List.cons_append, e1, List.cons_append]
    exact cst_swap hp1 h1 hy hr
/-- costF in these terms. -/
theorem costF_cst {qty : Int} : ∀ (l : List En) (f m : Int), posL l → f ≤ qty → costF qty l (f, m) = (f + (cst (qty - f) l).1, m + (cst (qty - f) l).2)
  | [], f, m, _, _ => by simp [costF, cst]
  | e :: r, f, m, h, hf => by
    have h1 := h e List.mem_cons_self
    have hr : posL r := fun x hx => h x (List.mem_cons_of_mem _ hx)
    unfold costF
    simp only
    by_cases hlt : f < qty
    · rw [if_pos hlt, costF_cst r _ _ hr (by omega)]
      simp only [cst]
      have e2 : qty - (f + min (qty - f) e.l) = qty - f - min (qty - f) e.l := by omega
      rw [e2]
      refine Prod.ext ?_ ?_ <;> simp only <;> omega
    · have e0 : qty - f = 0 := by omega
      rw [if_neg hlt, e0, cst_zero h]
      simp
/-- A trade with the front. -/
theorem trade_cst {side nums : Int} {p : Int} {y : En} {q : List En} {r : Half} (hh : HOk side nums ((p, y :: q) :: r)) {rem : Int} (hr : 1 ≤ rem) :
    cst rem (Half.all ((p, y :: q) :: r)) = (min rem y.h + (cst (rem - min rem y.h) (tradeH side y (min rem y.h) ((p, y :: q) :: r)).all).1, min rem y.h * y.o.p + (cst (rem - min rem y.h) (tradeH side y (min rem y.h) ((p, y :: q) :: r)).all).2) := by
  obtain ⟨p1, p2⟩ := popH_ok hh
  have hy := hh.head.2.1 y (by simp)
  have yp := hy.2
  have yl := hy.1.l
  have yh := hy.1.h
  have hq : ∀ e ∈ q, e.o.p = y.o.p := fun e he => by rw [yp]; exact (hh.head.2.1 e (by simp [he])).2
  have hall : posL ((popH ((p, y :: q) :: r)).all) := fun e he => by have := (p1.mem e he).l; omega
  obtain ⟨t1, t2, t3, t4⟩ := tradeH_ok hh (k := min rem y.h) (by omega) (by omega)
  have htall : posL ((tradeH side y (min rem y.h) ((p, y :: q) :: r)).all) := fun e he => by have := (t1.mem e he).l; omega
  rw [p2]
  by_cases hfull : rem ≤ y.h
  · have e1 : min rem y.h = rem := by omega
    have e2 : min rem y.l = rem := by omega
    rw [e1] at htall ⊢
    rw [Int.sub_self, cst_zero htall]
    simp only [cst]
    rw [e2, Int.sub_self, cst_zero hall]
  · have e1 : min rem y.h = y.h := by omega
    rw [e1]
    unfold tradeH
    rw [if_neg (by omega)]
    by_cases hz : y.l - y.h = 0
    · rw [if_pos hz]
      have e2 : min rem y.l = y.h := by omega
      simp only [cst]
      rw [e2]
    · rw [if_neg hz]
      have key : (addH side { y with l := y.l - y.h, h := min y.o.pk (y.l - y.h) } (popH ((p, y :: q) :: r))).all = q ++ ({ y with l := y.l - y.h, h := min y.o.pk (y.l - y.h) } : En) :: Half.all r := by
        unfold popH
        cases q with
        | nil =>
          simp only [List.isEmpty_nil, if_true]
          cases r with
          | nil => rfl
          | cons x r =>
            have hb := hh.head.2.2 x List.mem_cons_self
            have hne : ¬ x.1 = p := fun e => by rw [e] at hb; unfold better at hb; split at hb <;> simp at hb
            unfold addH
            rw [if_neg (by rw [yp]; exact hne), if_pos (by simp only [yp]; exact hb)]
            rfl
        | cons z q =>
          simp only [List.isEmpty_cons, Bool.false_eq_true, if_false]
          unfold addH
          rw [if_pos (by simp only [yp])]
          rw [all_cons, List.append_assoc]
          rfl
      have hq2 : (popH ((p, y :: q) :: r)).all = q ++ Half.all r := by
        have := p2
        rw [all_cons] at this
        simpa using this.symm
      have hend := cst_to_end (y := ({ y with l := y.l - y.h, h := min y.o.pk (y.l - y.h) } : En)) (R := Half.all r) (by simp only; omega) q (rem - y.h) (fun e he => by have := ((hh.head.2.1 e (by simp [he])).1).l; omega) (fun e he => hq e he) (by omega)
      rw [key, hq2, hend]
      simp only [cst]
      have e3 : min rem y.l = y.h + min (rem - y.h) (y.l - y.h) := by omega
      have e4 : rem - (y.h + min (rem - y.h) (y.l - y.h)) = rem - y.h - min (rem - y.h) (y.l - y.h) := by omega
      rw [e3, e4, Int.add_mul]
      refine Prod.ext ?_ ?_ <;> simp only <;> omega
/-- What is traded in events. -/
def trs : List Ev → Int × Int
  | [] => (0, 0)
  | e :: r => if e.w = 1 then (e.q + (trs r).1, e.q * e.p + (trs r).2) else trs r
theorem trs_cons (e : Ev) (r : List Ev) : trs (e :: r) = if e.w = 1 then (e.q + (trs r).1, e.q * e.p + (trs r).2) else trs r := rfl
theorem trs_append : ∀ a c : List Ev, trs (a ++ c) = ((trs a).1 + (trs c).1, (trs a).2 + (trs c).2)
  | [], c => by simp [trs]
  | e :: a, c => by
    have ih := trs_append a c
    rw [List.cons_append, trs_cons, trs_cons, ih]
    split
    · refine Prod.ext ?_ ?_ <;> simp only <;> omega
    · rfl
/-- A trade's sizes. -/
def TrOkE (e : Ev) : Prop := e.w = 1 → 1 ≤ e.q ∧ 0 ≤ e.p ∧ e.p ≤ 1000000
theorem meetF_trs {side nums xn : Int} {o : Od} (hx : 1 ≤ xn ∧ xn ≤ nums) (hk : o.k = 2) : ∀ (k : Nat) (s : Mt), MtOk side nums xn s → sizeH s.h ≤ k → (∀ e ∈ s.h.all, e.o.m ≠ o.m) → (∀ e ∈ s.evs, TrOkE e) →
    trs (meetF o xn side k s).evs = ((trs s.evs).1 + (cst s.left s.h.all).1, (trs s.evs).2 + (cst s.left s.h.all).2) ∧ ∀ e ∈ (meetF o xn side k s).evs, TrOkE e
  | 0, s, hs, hz, _, htr => by
    have hnil : s.h.all = [] := by
      rcases hs.ok.cases with ⟨h1, h2⟩ | ⟨p, y, q, r, hr, _⟩
      · rw [h1]; rfl
      · rw [hr, sizeH_eq, all_cons] at hz
        simp only [List.cons_append, sizeL_cons] at hz
        omega
    refine ⟨?_, htr⟩
    show trs s.evs = _
    rw [hnil]
    simp [cst]
  | k + 1, s, hs, hz, hm, htr => by
    unfold meetF
    by_cases hl : 0 < s.left
    · rw [if_pos hl]
      rcases hs.ok.cases with ⟨h1, h2⟩ | ⟨p, y, q, r, hr, h2, hp, he⟩
      · rw [h2]
        refine ⟨?_, htr⟩
        rw [h1]
        simp [cst, all_nil]
      · rw [h2]
        simp only
        have hg : o.good y.o.p = true := by unfold Od.good; rw [if_pos hk]
        rw [if_pos hg]
        obtain ⟨g1, g2, g3, g4, g5⟩ := meet1_ok (o := o) hs hx hl h2
        have hy : y ∈ s.h.all := by rw [hr, all_cons]; simp
        have hne := hm y hy
        have hfew := meet1_fewer (o := o) hs h2
        have hpp := okP he.ok he.f
        have hhh := he.h
        have e1 : meet1 o xn side y s = ⟨s.left - min s.left y.h, tradeH side y (min s.left y.h) s.h, y.o.p, s.evs ++ [⟨1, xn, y.n, y.o.p, min s.left y.h⟩]⟩ := by unfold meet1; rw [if_neg hne]
        have htr2 : ∀ e ∈ (meet1 o xn side y s).evs, TrOkE e := by
          rw [e1]
          intro e hmem
          rcases List.mem_append.1 hmem with h | h
          · exact htr e h
          · simp only [List.mem_singleton] at h
            subst h
            exact fun _ => ⟨by simp only; omega, by simp only; omega, by simp only; omega⟩
        obtain ⟨k1, k2⟩ := meetF_trs hx hk k (meet1 o xn side y s) g1 (by omega) (fun e hmem => by obtain ⟨d, hd, e2⟩ := hfew e hmem; rw [← e2]; exact hm d hd) htr2
        refine ⟨?_, k2⟩
        rw [k1, e1]
        simp only
        have hok := hs.ok
        rw [hr] at hok ⊢
        rw [trade_cst hok (rem := s.left) (by omega), trs_append]
        simp only [trs, if_true]
        refine Prod.ext ?_ ?_ <;> simp only <;> omega
    · rw [if_neg hl]
      have e0 : s.left = 0 := by have := hs.left; omega
      refine ⟨?_, htr⟩
      rw [e0, cst_zero (fun e he => by have := (hs.ok.mem e he).l; omega)]
      simp
/-- A market order of a stranger where nobody waits. -/
theorem enterF_trs {S : Bd} (hS : BdOk S) (hn : S.nums < 1000000) {o : Od} (ho : o.ok = true) (ht : o.t = 0) (hk : o.k = 2) (hf : o.f = 2) (hw : S.wait = []) (hm : ∀ e ∈ (S.half (3 - o.s)).all, e.o.m ≠ o.m) :
    trs (enterF S o).2 = costF o.q (S.half (3 - o.s)).all (0, 0) ∧ ∀ e ∈ (enterF S o).2, TrOkE e := by
  have hq := okQ ho
  have hnn := hS.nums
  have hh : { S with nums := S.nums + 1 }.half (3 - o.s) = S.half (3 - o.s) := rfl
  have hok := hS.half (other_side (okS ho))
  have hpos : posL (S.half (3 - o.s)).all := fun e he => by have := (hok.mem e he).l; omega
  have hmt : MtOk (3 - o.s) (S.nums + 1) (S.nums + 1) ⟨o.q, S.half (3 - o.s), S.last, []⟩ := ⟨⟨by simp only; omega, hq.2⟩, hok.mono (by omega), hS.last, by simp⟩
  obtain ⟨k1, k2⟩ := meetF_trs (xn := S.nums + 1) (by omega) hk (sizeH (S.half (3 - o.s))) _ hmt (Nat.le_refl _) hm (by simp)
  rw [costF_cst _ 0 0 hpos (by omega)]
  simp only [trs, Int.zero_add, Int.sub_zero] at k1 ⊢
  have hput : ∀ g : Half, (({ S with nums := S.nums + 1 } : Bd).put (3 - o.s) g).wait = [] := fun g => by unfold Bd.put; split <;> exact hw
  have come : trs (comeF { S with nums := S.nums + 1 } (S.nums + 1) o o.q []).2 = ((cst o.q (S.half (3 - o.s)).all).1, (cst o.q (S.half (3 - o.s)).all).2) ∧ (∀ e ∈ (comeF { S with nums := S.nums + 1 } (S.nums + 1) o o.q []).2, TrOkE e) ∧ (comeF { S with nums := S.nums + 1 } (S.nums + 1) o o.q []).1.wait = [] := by
    unfold comeF
    rw [if_neg (by omega), if_neg (by omega), hh]
    simp only
    split
    · exact ⟨k1, k2, hput _⟩
    · rw [if_neg (by omega)]
      refine ⟨?_, fun e he => ?_, hput _⟩
      · rw [trs_append, k1]
        simp [trs]
      · rcases List.mem_append.1 he with h | h
        · exact k2 e h
        · simp only [List.mem_singleton] at h
          subst h
          exact fun h => by simp at h
  unfold enterF
  rw [if_pos ht]
  simp only
  rw [come.2.2]
  exact ⟨come.1, come.2.1⟩
end Go.Proofs.Ytdjhpldiifdifaa
