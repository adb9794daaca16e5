/- The reference's Shown: walked. The reference's Queue in plain Lean. No program in sight. The reference's Depth and Cost in plain Lean. No program in sight. -/
import Derived.Test.YtdjhpldiifdifaaJRm6
import Derived.Test.YtdjhpldiifdifaaJStl
namespace Go.Proofs.Ytdjhpldiifdifaa
set_option linter.unusedSimpArgs false
set_option linter.unusedVariables false
open Go.RowKit Go.Shelf
attribute [local go_sem] Oper.semAt_some
attribute [local go_sem ↓] Go.wp_at_zero Go.wp_at_succ

/-- Rests at a price of a side. -/
def cPr (s p : Int) (x : Rn) : Bool := !x.w && (decide (x.o.s = s) && decide (x.o.p = p))
def shS (s p : Int) (L : List Rn) : Int := (L.map fun x => if cPr s p x = true then x.h else 0).sum
def shC (s p : Int) (L : List Rn) : Int := (L.map fun x => if cPr s p x = true then (1 : Int) else 0).sum
theorem sumI_snoc (f : Rn → Int) {L : List Rn} {i : Nat} (hi : i < L.length) : ((L.take (i + 1)).map f).sum = ((L.take i).map f).sum + f L[i] := by
  rw [List.take_succ_eq_append_getElem hi, List.map_append, List.sum_append]; simp
theorem sumI_le (f : Rn → Int) (M : Int) (hM : 0 ≤ M) : ∀ {L : List Rn}, (∀ x ∈ L, 0 ≤ f x ∧ f x ≤ M) → 0 ≤ (L.map f).sum ∧ (L.map f).sum ≤ M * L.length
  | [], _ => by simp
  | x :: L, h => by
    have h1 := h x List.mem_cons_self
    have h2 := sumI_le f M hM (L := L) (fun y hy => h y (List.mem_cons_of_mem _ hy))
    simp only [List.map_cons, List.sum_cons, List.length_cons]
    have e : M * ((L.length + 1 : Nat) : Int) = M * L.length + M := by
      rw [Int.natCast_add, Int.mul_add]; simp
    rw [e]
    omega
theorem shS_snoc (s p : Int) {L : List Rn} {i : Nat} (hi : i < L.length) : shS s p (L.take (i + 1)) = shS s p (L.take i) + (if cPr s p L[i] = true then L[i].h else 0) := sumI_snoc _ hi
theorem shC_snoc (s p : Int) {L : List Rn} {i : Nat} (hi : i < L.length) : shC s p (L.take (i + 1)) = shC s p (L.take i) + (if cPr s p L[i] = true then 1 else 0) := sumI_snoc _ hi
theorem sh_bound (s p : Int) {L : List Rn} (hn : L.length ≤ 100000) (hok : ∀ x ∈ L, 0 ≤ x.h ∧ x.h ≤ 1000000000) (i : Nat) : (0 ≤ shS s p (L.take i) ∧ shS s p (L.take i) ≤ 100000000000000) ∧ 0 ≤ shC s p (L.take i) ∧ shC s p (L.take i) ≤ 100000 := by
  have hl : ((L.take i).length : Int) ≤ 100000 := by rw [List.length_take]; omega
  have h1 := sumI_le (fun x => if cPr s p x = true then x.h else 0) 1000000000 (by decide) (L := L.take i) (fun x hx => by
    have := hok x (List.mem_of_mem_take hx)
    show 0 ≤ (if cPr s p x = true then x.h else 0) ∧ (if cPr s p x = true then x.h else 0) ≤ 1000000000
    split <;> omega)
  have h2 := sumI_le (fun x => if cPr s p x = true then (1 : Int) else 0) 1 (by decide) (L := L.take i) (fun x hx => by
    show 0 ≤ (if cPr s p x = true then (1 : Int) else 0) ∧ (if cPr s p x = true then (1 : Int) else 0) ≤ 1
    split <;> omega)
  unfold shS shC
  refine ⟨⟨h1.1, ?_⟩, h2.1, ?_⟩ <;> omega

set_option maxRecDepth 100000 in
set_option maxHeartbeats 8000000 in
theorem shown_rcalls (w : World) {v : Value} {L : List Rn} (h : RowR 0 w v L) (hn : L.length ≤ 100000) (nums turn paid s p : Int) (hok : ∀ x ∈ L, 0 ≤ x.h ∧ x.h ≤ 1000000000) :
    Calls Try.prog 55 #[rbV v nums turn paid, .int .i64 s, .int .i64 p] w fun e w' => e = .returned (.tuple #[.int .i64 (shS s p L), .int .i64 (shC s p L)]) ∧ Below w.heap.size w w' := by
  obtain ⟨pp, cap, g, rfl, hp, hc⟩ := h.rows
  have HC := hid hc
  have HP := hid hp
  have BO := hid (sh_bound s p hn hok)
  obtain ⟨R, hR⟩ : ∃ R : Ending → World → Prop, R = fun e w' => e = .returned (.tuple #[.int .i64 (shS s p L), .int .i64 (shC s p L)]) ∧ Below w.heap.size w w' := ⟨_, rfl⟩
  have FIN := hid (show ∀ (a c : Int) (w' : World), a = shS s p L → c = shC s p L → Below w.heap.size w w' → R (.returned (.tuple #[.int .i64 a, .int .i64 c])) w' by intro a c w' ha hc hb; rw [hR, ha, hc]; exact ⟨rfl, hb⟩)
  rw [← hR]
  have L0 := hid (LpB.start w (.slice pp L.length cap) nums turn paid)
  obtain ⟨n, hnn⟩ : ∃ n, n = L.length := ⟨_, rfl⟩
  have HN := hid hnn
  rw [← hnn] at hn L0 ⊢
  unfold rbV
  clear hR h hp hc hnn hok
  go_enter Try.func55, Try.ntmps55
  go_wp2
  go_loopg [8, 9, 10] n (fun k s8 s9 s10 wr => ∃ (i : Nat) (a c : Int), i + k = n ∧ s10 = .int .i64 i ∧ s8 = .int .i64 a ∧ s9 = .int .i64 c ∧ a = shS s p (L.take i) ∧ c = shC s p (L.take i) ∧ LpB w (.slice pp n cap) nums turn paid wr)
  case atStart => exact ⟨0, 0, 0, by omega, rfl, rfl, rfl, rfl, rfl, L0.out⟩
  case round =>
    obtain ⟨i, a, c, hik, rfl, rfl, rfl, ha, hcc, lp⟩ := hrel
    obtain ⟨t0, _, _, _, hwl⟩ := lp.cell
    obtain ⟨⟨b1, b2⟩, b3, b4⟩ := BO.out i
    rw [← ha] at b1 b2
    rw [← hcc] at b3 b4
    have LP := hid lp
    have HIK := hid hik
    have HA := hid ha
    have HCC := hid hcc
    clear lp hik ha hcc
    by_cases hin : i < n
    · have hil : i < L.length := by rw [← HN.out]; exact hin
      obtain ⟨rfl, hg⟩ := HP.out (by omega)
      obtain ⟨c0, c1, c2, c3, c4, c5, c6, c7, c8, c9, c10, c11, c12⟩ := HC.out wr LP.out.below i hil
      obtain ⟨x, hx⟩ : ∃ x, x = L[i] := ⟨_, rfl⟩
      rw [← hx] at c0 c1 c2 c3 c4 c5 c6 c7 c8 c9 c10 c11 c12
      have hgr : g < wr.heap.size := Nat.lt_of_lt_of_le hg LP.out.below.size
      have LA := hid (LP.out.alloc (.cells (encRn x).toArray 53))
      have CA := hid (Cells.new wr (encRn x).toArray 53)
      have hsz := LA.out.top.lt
      have S1 := shS_snoc s p hil
      have S2 := shC_snoc s p hil
      have bn := BO.out (i + 1)
      rw [← hx, ← HA.out] at S1
      rw [← hx, ← HCC.out] at S2
      obtain ⟨D, hD⟩ : ∃ D, D = cPr s p x := ⟨_, rfl⟩
      rw [← hD] at S1 S2
      unfold cPr at hD
      obtain ⟨wa, hwa⟩ : ∃ wa, wa = wr.alloc (.cells #[.int .i64 x.n, .int .i64 x.o.m, .int .i64 x.o.s, .int .i64 x.o.k, .int .i64 x.o.f, .int .i64 x.o.p, .int .i64 x.o.t, .int .i64 x.o.q, .int .i64 x.o.pk, .int .i64 x.l, .int .i64 x.h, .bool x.w, .int .i64 x.t] 53) := ⟨_, rfl⟩
      have HWA := hid hwa
      unfold encRn at LA CA
      rw [← hwa] at LA CA
      have a1 : wa.cell? ⟨wr.heap.size, 2, none⟩ = some (.int .i64 x.o.s) := by rw [CA.out.cell]; rfl
      have a2 : wa.cell? ⟨wr.heap.size, 5, none⟩ = some (.int .i64 x.o.p) := by rw [CA.out.cell]; rfl
      have a3 : wa.cell? ⟨wr.heap.size, 10, none⟩ = some (.int .i64 x.h) := by rw [CA.out.cell]; rfl
      have a4 : wa.cell? ⟨wr.heap.size, 11, none⟩ = some (.bool x.w) := by rw [CA.out.cell]; rfl
      have al := CA.out.lt
      clear hx hwa
      go_upto_region 6 with fail
      rw [← HWA.out]
      clear c0 c1 c2 c3 c4 c5 c6 c7 c8 c9 c10 c11 c12
      go_cut [40] (fun s40 wx => s40 = .bool D ∧ wx = wa)
      case first =>
        cases hw : x.w with
        | true =>
          rw [hw] at a4 hD
          obtain rfl : D = false := by rw [hD]; rfl
          clear hD
          go_wp2
          go_meet
          exact ⟨rfl, rfl⟩
        | false =>
          rw [hw] at a4 hD
          by_cases h1 : x.o.s = s
          · have g1 : (x.o.s == s) = true := by simpa using h1
            have e : D = (x.o.p == p) := by rw [hD]; simp [h1]; rfl
            subst e
            clear hD h1
            go_wp2
            go_meet
            exact ⟨rfl, rfl⟩
          · have g1 : (x.o.s == s) = false := by simpa using h1
            obtain rfl : D = false := by rw [hD]; simp [h1]
            clear hD h1
            go_wp2
            go_meet
            exact ⟨rfl, rfl⟩
      case rest =>
        obtain ⟨rfl, rfl⟩ := hcut
        clear hD
        have HS1 := hid S1
        have HS2 := hid S2
        cases D with
        | true =>
          rw [if_pos rfl] at S1 S2
          rw [S1, S2] at bn
          obtain ⟨⟨n1, n2⟩, n3, n4⟩ := bn
          clear S1 S2
          go_wp2
          go_roundg (n - (i + 1))
          · exact ⟨i + 1, a + x.h, c + 1, by omega, by go_num, by go_num, by go_num, by rw [HS1.out]; simp, by rw [HS2.out]; simp, LA.out⟩
          · have := HIK.out; omega
        | false =>
          clear bn S1 S2
          go_wp2
          go_roundg (n - (i + 1))
          · exact ⟨i + 1, a, c, by omega, by go_num, rfl, rfl, by rw [HS1.out]; simp, by rw [HS2.out]; simp, LA.out⟩
          · have := HIK.out; omega
    · have hin' : i = n := by have := HIK.out; omega
      subst hin'
      have g1 : decide ((i : Int) < (i : Int)) = false := by simp
      go_wp2
      first | exact FIN.out _ _ _ (by rw [HA.out, HN.out, List.take_length]) (by rw [HCC.out, HN.out, List.take_length]) LP.out.below | (refine bodyPost_ret (v := .tuple #[.int .i64 a, .int .i64 c]) (by simp [results, Try.results55, go_sem]) rfl (FIN.out _ _ _ (by rw [HA.out, HN.out, List.take_length]) (by rw [HCC.out, HN.out, List.take_length]) LP.out.below))
end Go.Proofs.Ytdjhpldiifdifaa
namespace Go.Proofs.Ytdjhpldiifdifaa
set_option linter.unusedSimpArgs false
set_option linter.unusedVariables false

def cQ (s p turn : Int) (x : Rn) : Bool := cPr s p x && decide (turn < x.t)
def tR (x y : Rn) : Bool := decide (x.t < y.t)
theorem tR_wk : Wk tR := by
  refine ⟨fun x y z h1 h2 => ?_, fun x => ?_, fun x y h => ?_⟩
  · unfold tR at *; simp only [decide_eq_false_iff_not] at *; omega
  · unfold tR; simp
  · unfold tR at *; simp only [decide_eq_false_iff_not, decide_eq_true_eq] at *; omega
/-- The entries at a price, the first one first. -/
structure QueR (s p : Int) (L Q : List Rn) : Prop where
  rise : Q.Pairwise fun a b => a.t < b.t
  mem : ∀ x, x ∈ Q ↔ x ∈ L ∧ cPr s p x = true
  pos : ∀ x ∈ Q, 1 ≤ x.t
def turnT (Q : List Rn) (j : Nat) : Int := if j = 0 then 0 else (Q.map Rn.t).getD (j - 1) 0
theorem turnT_succ {Q : List Rn} {j : Nat} (hj : j < Q.length) : turnT Q (j + 1) = Q[j].t := by
  unfold turnT
  rw [if_neg (by omega), List.getD_eq_getElem?_getD, Nat.add_sub_cancel, List.getElem?_eq_getElem (by simpa using hj)]
  simp
theorem queR_next {s p : Int} {L Q : List Rn} (h : QueR s p L Q) {j : Nat} (hj : j ≤ Q.length) : (j = Q.length ∧ bestI (cQ s p (turnT Q j)) tR L L.length = none) ∨ ∃ (hjl : j < Q.length) (i : Nat) (hi : i < L.length), bestI (cQ s p (turnT Q j)) tR L L.length = some i ∧ L[i] = Q[j] := by
  have rl : ∀ (a b : Nat) (hb : b < Q.length) (hab : a < b), (Q[a]'(by omega)).t < Q[b].t := fun a b hb hab => List.pairwise_iff_getElem.1 h.rise a b (by omega) hb hab
  have hl : ∀ k (hk : k < Q.length), turnT Q j < Q[k].t ↔ j ≤ k := fun k hk => by
    cases j with
    | zero =>
      have := h.pos Q[k] (List.getElem_mem hk)
      have e : turnT Q 0 = 0 := rfl
      rw [e]
      constructor <;> intro _ <;> omega
    | succ m =>
      rw [turnT_succ (show m < Q.length by omega)]
      constructor
      · intro hlt
        refine Nat.not_lt.1 fun hkm => ?_
        rcases Nat.lt_or_ge k m with h1 | h1
        · have := rl k m (by omega) h1; omega
        · have e : k = m := by omega
          subst e; omega
      · intro hmk
        exact rl m k hk (by omega)
  rcases bestI_spec (c := cQ s p (turnT Q j)) tR_wk (L := L) L.length (Nat.le_refl _) with ⟨h1, h2⟩ | ⟨i, hi, h1, _, h3, h4⟩
  · rcases Nat.lt_or_ge j Q.length with hlt | hge
    · exfalso
      obtain ⟨m1, m2⟩ := (h.mem Q[j]).1 (List.getElem_mem hlt)
      obtain ⟨k, hk, hkq⟩ := List.getElem_of_mem m1
      have := h2 k hk hk
      unfold cQ at this
      rw [hkq, m2, decide_eq_true ((hl j hlt).2 (Nat.le_refl _))] at this
      cases this
    · exact .inl ⟨by omega, h1⟩
  · have hc := h3
    unfold cQ at hc
    simp only [Bool.and_eq_true, decide_eq_true_eq] at hc
    obtain ⟨k, hk, hkq⟩ := List.getElem_of_mem ((h.mem L[i]).2 ⟨List.getElem_mem hi, hc.1⟩)
    have hjk := (hl k hk).1 (by rw [hkq]; exact hc.2)
    have hlt : j < Q.length := by omega
    refine .inr ⟨hlt, i, hi, h1, ?_⟩
    rcases Nat.lt_or_ge j k with h5 | h5
    · exfalso
      obtain ⟨m1, m2⟩ := (h.mem Q[j]).1 (List.getElem_mem hlt)
      obtain ⟨m, hm, hmq⟩ := List.getElem_of_mem m1
      have := h4 m hm hm (by unfold cQ; rw [hmq, m2, decide_eq_true ((hl j hlt).2 (Nat.le_refl _))]; rfl)
      unfold tR at this
      rw [hmq, ← hkq] at this
      have h6 := rl j k hk h5
      simp only [decide_eq_false_iff_not] at this
      exact this h6
    · have e : j = k := by omega
      subst e
      exact hkq.symm
theorem all_filter {side nums p : Int} : ∀ {h : Half}, HOk side nums h → queueF p h = (h.all.filter fun e => decide (e.o.p = p)).map En.n
  | [], _ => rfl
  | (pr, q) :: r, hh => by
    have e : queueF p ((pr, q) :: r) = (if pr = p then q.map En.n else []) ++ queueF p r := rfl
    rw [e, all_cons, List.filter_append, List.map_append, all_filter hh.tail]
    congr 1
    have hq : ∀ e ∈ q, e.o.p = pr := fun e he => (hh.head.2.1 e he).2
    by_cases hp : pr = p
    · rw [if_pos hp, List.filter_eq_self.2 fun e he => by rw [hq e he, hp]; simp]
    · rw [if_neg hp, List.filter_eq_nil_iff.2 fun e he => by rw [hq e he]; simpa using hp]
      rfl
theorem cR_cPr {s p : Int} {x : Rn} : cPr s p x = true ↔ cR s x = true ∧ x.o.p = p := by
  unfold cPr cR
  simp only [Bool.and_eq_true, decide_eq_true_eq, and_assoc]
/-- What the test of the search comes to. -/
inductive QT (C : Rn → Bool) (P : Rn → Rn → Bool) (L : List Rn) (i : Nat) (x : Rn) : Bool → Prop
  | no : C x = false → QT C P L i x false
  | one : C x = true → bestI C P L i = none → QT C P L i x true
  | two (b : Nat) (hb : b < L.length) : C x = true → bestI C P L i = some b → QT C P L i x (P x L[b])
/-- The queue of a price in the reference. -/
theorem queR_rel {S : Bd} {x : Rb} (hS : BdOk S) (hR : Rel S x) {s : Int} (hs : s = 1 ∨ s = 2) (p : Int) : ∃ Q, QueR s p x.L Q ∧ Q.map Rn.n = queueF p (S.half s) := by
  obtain ⟨A, B, W, k⟩ := hR.side hs
  have hh := hS.half hs
  refine ⟨A.filter fun e => decide (e.o.p = p), ⟨?_, fun x => ?_, fun x hx => ?_⟩, ?_⟩
  · refine (List.Pairwise.filter _ k.a.tn).imp_of_mem fun {a b} ha hb hab => hab ?_
    have h1 := (List.mem_filter.1 ha).2
    have h2 := (List.mem_filter.1 hb).2
    simp only [decide_eq_true_eq] at h1 h2
    omega
  · rw [List.mem_filter, cR_cPr, k.perm.mem_iff, List.mem_append]
    simp only [decide_eq_true_eq]
    constructor
    · rintro ⟨h1, h2⟩
      exact ⟨.inl h1, k.a.cR hh h1, h2⟩
    · rintro ⟨h1 | h1, h2, h3⟩
      · exact ⟨h1, h3⟩
      · rw [k.rest hs hS _ h1] at h2; cases h2
  · exact (k.a.w x (List.mem_filter.1 hx).1).2.1
  · rw [all_filter hh, ← k.a.en, List.filter_map, List.map_map]
    rfl
end Go.Proofs.Ytdjhpldiifdifaa
namespace Go.Proofs.Ytdjhpldiifdifaa
set_option linter.unusedSimpArgs false
set_option linter.unusedVariables false

/-- What is left of a side, in the reference's list. -/
structure SdR (side nums turn : Int) (C : List Rn) (h : Half) (A L : List Rn) : Prop where
  ok : HOk side nums h
  sr : SideR h A turn
  pm : L.Perm (A ++ C)
  hc : ∀ x ∈ C, cR side x = false
theorem SdR.front {side nums turn : Int} {C : List Rn} {h : Half} {A L : List Rn} (s : SdR side nums turn C h A L) : (h = [] ∧ frontR L side = none) ∨
    ∃ (r : Rn) (A' : List Rn) (i : Nat) (hi : i < L.length), A = r :: A' ∧ frontR L side = some i ∧ L[i] = r ∧ frontH h = some r.en ∧ EnOk side nums r.en ∧ SdR side nums turn C (popH h) A' (L.eraseIdx i) := by
  rcases front_spec s.ok s.sr s.pm s.hc with ⟨h1, _, h3⟩ | ⟨r, A', i, hi, h1, h2, h3, h4, h5, h6, h7, h8⟩
  · exact .inl ⟨h1, h3⟩
  · exact .inr ⟨r, A', i, hi, h1, h2, h3, h4, h5, h7, h6, h8, s.hc⟩
theorem SdR.start {S : Bd} {x : Rb} (hS : BdOk S) (hR : Rel S x) {s : Int} (hs : s = 1 ∨ s = 2) : ∃ A C, SdR s S.nums x.turn C (S.half s) A x.L := by
  obtain ⟨A, B, W, k⟩ := hR.side hs
  exact ⟨A, B ++ W, hS.half hs, k.a, k.perm, k.rest hs hS⟩
/-- A level with a queue that may be empty. -/
def consH (p : Int) (q : List En) (r : Half) : Half := if q.isEmpty then r else (p, q) :: r
theorem popH_consH (p : Int) (y : En) (q : List En) (r : Half) : popH (consH p (y :: q) r) = consH p q r := by
  unfold consH
  rw [if_neg (by simp)]
  rfl
theorem frontH_consH (p : Int) (y : En) (q : List En) (r : Half) : frontH (consH p (y :: q) r) = some y := by
  unfold consH
  rw [if_neg (by simp)]
  rfl
theorem consH_full {h : Half} {side nums : Int} (hh : HOk side nums h) {p : Int} {q : List En} {r : Half} (he : h = (p, q) :: r) : h = consH p q r := by
  subst he
  unfold consH
  rw [if_neg]
  have := hh.full (p, q) List.mem_cons_self
  simpa using this
/-- The prices of the other levels. -/
theorem other_price {side nums : Int} {h : Half} (hh : HOk side nums h) {p : Int} {q : List En} {r : Half} (he : h = (p, q) :: r) {y : En} (hy : frontH r = some y) : y.o.p ≠ p := by
  subst he
  cases r with
  | nil => cases hy
  | cons x r =>
    obtain ⟨px, qx⟩ := x
    have h1 : y ∈ qx := by
      have : qx.head? = some y := hy
      exact List.mem_of_mem_head? this
    have h2 := hh.price (px, qx) (by simp) y h1
    have h3 := hh.head.2.2 (px, qx) (by simp)
    intro e
    rw [h2] at e
    simp only at e h3
    subst e
    unfold better at h3
    by_cases hs : side = 1 <;> simp [hs] at h3
theorem half_filter {side nums : Int} : ∀ {h : Half}, HOk side nums h → ∀ {p : Int} {q : List En}, (p, q) ∈ h → (h.all.filter fun e => decide (e.o.p = p)) = q
  | [], _, _, _, hm => by cases hm
  | (pr, k) :: r, hh, p, q, hm => by
    have hq : ∀ e ∈ k, e.o.p = pr := fun e he => (hh.head.2.1 e he).2
    have hr : ∀ x ∈ r, ∀ e ∈ x.2, e.o.p = x.1 := fun x hx e he => hh.tail.price x hx e he
    have hne : ∀ x ∈ r, pr ≠ x.1 := fun x hx e => by
      have h3 := hh.head.2.2 x hx
      rw [← e] at h3
      unfold better at h3
      by_cases hs : side = 1 <;> simp [hs] at h3
    rw [all_cons, List.filter_append]
    rcases List.mem_cons.1 hm with e | hm'
    · cases e
      rw [List.filter_eq_self.2 fun e he => by rw [hq e he]; simp]
      rw [List.filter_eq_nil_iff.2 fun e he => ?_, List.append_nil]
      obtain ⟨x, hx, hex⟩ := List.mem_flatMap.1 he
      rw [hr x hx e hex]
      have := hne x hx
      simp only [decide_eq_true_eq]
      exact fun h => this h.symm
    · rw [List.filter_eq_nil_iff.2 fun e he => ?_, List.nil_append]
      · exact half_filter hh.tail hm'
      · rw [hq e he]
        have := hne (p, q) hm'
        simpa using this
theorem sumI_perm (f : Rn → Int) {L M : List Rn} (h : L.Perm M) : (L.map f).sum = (M.map f).sum := by
  induction h with
  | nil => rfl
  | cons x _ ih => simp only [List.map_cons, List.sum_cons, ih]
  | swap x y l => simp only [List.map_cons, List.sum_cons]; omega
  | trans _ _ ih1 ih2 => exact ih1.trans ih2
theorem sumI_zero (f : Rn → Int) : ∀ {L : List Rn}, (∀ x ∈ L, f x = 0) → (L.map f).sum = 0
  | [], _ => rfl
  | x :: L, h => by
    simp only [List.map_cons, List.sum_cons, h x List.mem_cons_self, sumI_zero f (L := L) (fun y hy => h y (List.mem_cons_of_mem _ hy))]
    rfl
theorem sumI_filter (f : Rn → Int) (c : Rn → Bool) : ∀ (L : List Rn), (L.map fun x => if c x = true then f x else 0).sum = ((L.filter c).map f).sum
  | [] => rfl
  | x :: L => by
    simp only [List.map_cons, List.sum_cons, sumI_filter f c L, List.filter_cons]
    by_cases h : c x = true <;> simp [h]
/-- What is shown at a price. -/
theorem shown_rel {S : Bd} {x : Rb} (hS : BdOk S) (hR : Rel S x) {s : Int} (hs : s = 1 ∨ s = 2) {p : Int} {q : List En} (hm : (p, q) ∈ S.half s) : shS s p x.L = shownL q ∧ shC s p x.L = q.length := by
  obtain ⟨A, B, W, k⟩ := hR.side hs
  have hh := hS.half hs
  have z : ∀ y ∈ B ++ W, cPr s p y = false := fun y hy => by
    have := k.rest hs hS y hy
    cases h : cPr s p y with
    | false => rfl
    | true => rw [(cR_cPr.1 h).1] at this; cases this
  have key : ∀ f : Rn → Int, (x.L.map fun y => if cPr s p y = true then f y else 0).sum = ((A.filter fun e => decide (e.o.p = p)).map f).sum := fun f => by
    rw [sumI_perm _ k.perm, List.map_append, List.sum_append, sumI_zero _ (L := B ++ W) (fun y hy => by rw [z y hy]; rfl), Int.add_zero, sumI_filter]
    congr 2
    refine List.filter_congr fun y hy => ?_
    have h1 := k.a.cR hh hy
    cases h : cPr s p y with
    | true => have := (cR_cPr.1 h).2; simp [this]
    | false =>
      by_cases hp : y.o.p = p
      · rw [cR_cPr.2 ⟨h1, hp⟩] at h; cases h
      · simp [hp]
  have hq := half_filter hh hm
  rw [← k.a.en, List.filter_map] at hq
  have hq2 : ((A.filter fun e => decide (e.o.p = p)).map Rn.en) = q := hq
  constructor
  · unfold shS
    rw [key Rn.h, ← hq2]
    unfold shownL
    rw [List.map_map]
    rfl
  · unfold shC
    rw [key fun _ => 1, ← hq2, List.length_map]
    generalize (A.filter fun e => decide (e.o.p = p)) = l
    induction l with
    | nil => rfl
    | cons a l ih => simp only [List.map_cons, List.sum_cons, List.length_cons, ih]; omega
end Go.Proofs.Ytdjhpldiifdifaa
