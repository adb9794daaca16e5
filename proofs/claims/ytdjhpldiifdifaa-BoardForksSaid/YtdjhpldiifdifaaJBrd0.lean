/- The board in memory. No function of the program in sight. The small functions of orders: in, isSide, good, valid. -/
import Derived.Test.YtdjhpldiifdifaaJEach
namespace Go.Proofs.Ytdjhpldiifdifaa
set_option linter.unusedSimpArgs false
set_option linter.unusedVariables false
open Go.RowKit

/-- An event's cells. -/
def encEv (e : Ev) : List Value := [.int .i64 e.w, .int .i64 e.o, .int .i64 e.x, .int .i64 e.p, .int .i64 e.q]
theorem encEv_len (e : Ev) : (encEv e).length = 5 := rfl
/-- The blocks of a board: the sides, the map, the sides' levels, the waiting entries, the entries by block. -/
structure Mm where
  hb : Nat
  hs : Nat
  mb : Nat
  lb : List Lv
  ls : List Lv
  wt : List Nat
  en : Nat → En
def Mm.live (G : Mm) : List Nat := ensL G.lb ++ (ensL G.ls ++ G.wt)
def Mm.bd (G : Mm) (nums last : Int) : Bd := ⟨plainH G.lb G.en, plainH G.ls G.en, G.wt.map G.en, nums, last⟩
/-- The board's own block and its rows. -/
structure TopC (O : Nat → Nat) (c : Nat) (w : World) (b : Nat) (hb hs mb : Nat) (wt : List Nat) (nums last : Int) (evs : List Ev) : Prop where
  cell : ∃ vw ve, Cells w b #[.pointer none, pt hb, pt hs, .map (some mb), vw, .int .i64 nums, .int .i64 last, ve] 91 ∧ OwnE encPt 1 92 0 w vw wt ∧ OwnE encEv 5 40 0 w ve evs ∧ (∀ x, vw.ownBlock = some x → O x = c) ∧ ∀ x, ve.ownBlock = some x → O x = c
  col : O b = c
/-- The map. -/
structure MpC (O : Nat → Nat) (c : Nat) (w : World) (mb : Nat) (l : List (Int × Nat)) : Prop where
  map : MapC w mb l
  col : O mb = c
/-- The waiting entries. -/
structure WtC (O : Nat → Nat) (c : Nat) (w : World) (wt : List Nat) (en : Nat → En) : Prop where
  ent : ∀ E ∈ wt, O E = c ∧ EnC w E (en E) true none
  nod : wt.Nodup
/-- An entry in hand. -/
structure HdC (O : Nat → Nat) (c : Nat) (w : World) (X : Nat) (e : En) (waits : Bool) : Prop where
  ent : EnC w X e waits none
  col : O X = c
theorem own_lt {α : Type} {enc : α → List Value} {sz B : Nat} {e : TypeId} {w : World} {v : Value} {l : List α} (h : OwnE enc sz e B w v l) {x : Nat} (hx : v.ownBlock = some x) : ∃ cs, Cells w x cs e := by
  rcases h.2 with ⟨rfl, _⟩ | ⟨g, cap, cur, rfl, _, hg, _⟩
  · cases hx
  · injection hx with hx
    subst hx
    exact ⟨cur, hg⟩
theorem TopC.lt {O : Nat → Nat} {c : Nat} {w : World} {b hb hs mb : Nat} {wt : List Nat} {nums last : Int} {evs : List Ev} (h : TopC O c w b hb hs mb wt nums last evs) : b < w.heap.size := by
  obtain ⟨vw, ve, h1, _⟩ := h.cell
  exact h1.lt
theorem TopC.step {C : Nat → Prop} {O O' : Nat → Nat} {c : Nat} {w w' : World} {b hb hs mb : Nat} {wt : List Nat} {nums last : Int} {evs : List Ev} (h : TopC O c w b hb hs mb wt nums last evs) (s : Step C O w O' w') (hc : ¬ C c) : TopC O' c w' b hb hs mb wt nums last evs := by
  obtain ⟨vw, ve, h1, h2, h3, h4, h5⟩ := h.cell
  have hk := s.kept
  have hn : ∀ x, O x = c → ¬ C (O x) := fun x hx => by rw [hx]; exact hc
  refine ⟨⟨vw, ve, h1.kept hk (hn b h.col), OwnE.kept h2 hk (fun x hx => hn x (h4 x hx)), OwnE.kept h3 hk (fun x hx => hn x (h5 x hx)), fun x hx => ?_, fun x hx => ?_⟩, ?_⟩
  · obtain ⟨cs, hcs⟩ := own_lt h2 hx
    rw [(s.old x hcs.lt (hn x (h4 x hx))).2, h4 x hx]
  · obtain ⟨cs, hcs⟩ := own_lt h3 hx
    rw [(s.old x hcs.lt (hn x (h5 x hx))).2, h5 x hx]
  · rw [(s.old b h1.lt (hn b h.col)).2, h.col]
theorem MpC.step {C : Nat → Prop} {O O' : Nat → Nat} {c : Nat} {w w' : World} {mb : Nat} {l : List (Int × Nat)} (h : MpC O c w mb l) (s : Step C O w O' w') (hc : ¬ C c) : MpC O' c w' mb l :=
  ⟨h.map.kept s.kept (by rw [h.col]; exact hc), by rw [(s.old mb h.map.lt (by rw [h.col]; exact hc)).2, h.col]⟩
theorem WtC.step {C : Nat → Prop} {O O' : Nat → Nat} {c : Nat} {w w' : World} {wt : List Nat} {en en' : Nat → En} (h : WtC O c w wt en) (s : Step C O w O' w') (hc : ¬ C c) (hen : ∀ E ∈ wt, en' E = en E) : WtC O' c w' wt en' := by
  refine ⟨fun E hE => ?_, h.nod⟩
  obtain ⟨h1, h2⟩ := h.ent E hE
  rw [hen E hE]
  exact ⟨by rw [(s.old E h2.lt (by rw [h1]; exact hc)).2, h1], h2.kept s.kept (by rw [h1]; exact hc)⟩
theorem HdC.step {C : Nat → Prop} {O O' : Nat → Nat} {c : Nat} {w w' : World} {X : Nat} {e : En} {b : Bool} (h : HdC O c w X e b) (s : Step C O w O' w') (hc : ¬ C c) : HdC O' c w' X e b :=
  ⟨h.ent.kept s.kept (by rw [h.col]; exact hc), by rw [(s.old X h.ent.lt (by rw [h.col]; exact hc)).2, h.col]⟩
/-- Number and block of entries. -/
def prs (en : Nat → En) (l : List Nat) : List (Int × Nat) := l.map fun E => ((en E).n, E)
/-- A board in memory, with the colours from q on, and what it is. -/
structure BdC (O : Nat → Nat) (q : Nat) (w : World) (b : Nat) (G : Mm) (nums last : Int) (evs : List Ev) : Prop where
  top : TopC O (q + 3) w b G.hb G.hs G.mb G.wt nums last evs
  buy : HlfC O (q + 1) w G.hb 1 G.lb G.en
  sell : HlfC O (q + 2) w G.hs 2 G.ls G.en
  map : MpC O (q + 6) w G.mb (prs G.en G.live)
  wait : WtC O (q + 4) w G.wt G.en
  ok : BdOk (G.bd nums last)
  few : G.live.length ≤ 4096
/-- The colours of a board. -/
def colB (q x : Nat) : Prop := q < x ∧ x ≤ q + 6
theorem BdC.step {C : Nat → Prop} {O O' : Nat → Nat} {q : Nat} {w w' : World} {b : Nat} {G : Mm} {nums last : Int} {evs : List Ev} (h : BdC O q w b G nums last evs) (s : Step C O w O' w') (hc : ∀ x, colB q x → ¬ C x) : BdC O' q w' b G nums last evs :=
  ⟨h.top.step s (hc _ ⟨by omega, by omega⟩), h.buy.step s (hc _ ⟨by omega, by omega⟩) (fun _ _ => rfl), h.sell.step s (hc _ ⟨by omega, by omega⟩) (fun _ _ => rfl), h.map.step s (hc _ ⟨by omega, by omega⟩), h.wait.step s (hc _ ⟨by omega, by omega⟩) (fun _ _ => rfl), h.ok, h.few⟩
theorem Step.of_below {O : Nat → Nat} {w w' : World} (h : Below w.heap.size w w') (C : Nat → Prop) : Step C O w O w' := ⟨h.os, h.tape, h.output, h.size, fun k hk _ => ⟨h.block k hk, rfl⟩, fun _ _ h => .inl h⟩
theorem Step.set {O : Nat → Nat} {w : World} {c k : Nat} (h : O k = c) (j : Nat) (v : Value) : Step (fun x => x = c) O w O (w.setCell ⟨k, j, none⟩ v) := by
  have hk : Kept (fun x => x = k) w (w.setCell ⟨k, j, none⟩ v) := (Kept.refl (fun x => x = k) w).set (C := k) rfl j v
  exact ⟨hk.os, hk.tape, hk.output, hk.size, fun i hi hn => ⟨hk.block i hi (fun e => hn (by rw [e]; exact h)), rfl⟩, fun _ _ h => .inl h⟩
theorem Step.of_kept0 {O : Nat → Nat} {c : Nat} {X : Nat → Prop} {w w' : World} (h : Kept X w w') (hX : ∀ k, k < w.heap.size → X k → O k = c) : Step (fun x => x = c) O w O w' :=
  ⟨h.os, h.tape, h.output, h.size, fun k hk hc => ⟨h.block k hk (fun hx => hc (hX k hk hx)), rfl⟩, fun k hk hc => .inl hc⟩
theorem Step.grow {O : Nat → Nat} {c d : Nat} {w w' : World} (h : Kept (fun k => O k = c) w w') : Step (fun x => x = c) O w (grow O w d) w' := Step.of_kept h (fun _ _ hx => hx)
theorem colB_of {q c : Nat} (h1 : q < c) (h2 : c ≤ q + 6) : ∀ x, x = c → colB q x := fun x e => by subst e; exact ⟨h1, h2⟩
theorem plainH_len (ls : List Lv) (en : Nat → En) : (plainH ls en).length = ls.length := by simp [plainH]
theorem plainH_all (ls : List Lv) (en : Nat → En) : (plainH ls en).all = (ensL ls).map en := by
  induction ls with
  | nil => rfl
  | cons x r ih =>
    show Half.all ((x.1, x.2.2.map fun y => en y.2) :: plainH r en) = _
    rw [all_cons, ih]
    show _ = ((x.2.2.map Prod.snd) ++ ensL r).map en
    rw [List.map_append, List.map_map]
    rfl
theorem plainH_congr {ls : List Lv} {en en' : Nat → En} (h : ∀ E ∈ ensL ls, en' E = en E) : plainH ls en' = plainH ls en := by
  unfold plainH
  refine List.map_congr_left fun x hx => ?_
  rw [List.map_congr_left (fun y hy => h y.2 (mem_ens hx hy))]
theorem Mm.bd_live (G : Mm) (nums last : Int) : (G.bd nums last).live = G.live.map G.en := by
  show (plainH G.lb G.en).all ++ ((plainH G.ls G.en).all ++ G.wt.map G.en) = _
  rw [plainH_all, plainH_all]
  simp [Mm.live]
theorem prs_fst (en : Nat → En) (l : List Nat) : (prs en l).map Prod.fst = numsL (l.map en) := by simp [prs, numsL]
end Go.Proofs.Ytdjhpldiifdifaa
namespace Go.Proofs.Ytdjhpldiifdifaa
set_option linter.unusedSimpArgs false
set_option linter.unusedVariables false
open Go.RowKit Go.Shelf
attribute [local go_sem] Oper.semAt_some
attribute [local go_sem ↓] Go.wp_at_zero Go.wp_at_succ

def Od.vals (o : Od) : Array Value := #[.int .i64 o.m, .int .i64 o.s, .int .i64 o.k, .int .i64 o.f, .int .i64 o.p, .int .i64 o.t, .int .i64 o.q, .int .i64 o.pk]

theorem in_calls (x lo hi : Int) (w : World) : Calls Try.prog 48 #[.int .i64 x, .int .i64 lo, .int .i64 hi] w fun e w' => e = .returned (.bool (inB2 x lo hi)) ∧ w' = w := by
  unfold inB2
  by_cases h1 : lo ≤ x
  · by_cases h2 : x ≤ hi
    · go_enter Try.func48, Try.ntmps48
      go_wp2
      go_ret
      exact ⟨by simp; omega, rfl⟩
    · go_enter Try.func48, Try.ntmps48
      go_wp2
      go_ret
      exact ⟨by simp; omega, rfl⟩
  · go_enter Try.func48, Try.ntmps48
    go_wp2
    go_ret
    exact ⟨by simp; omega, rfl⟩
theorem isSide_calls (s : Int) (w : World) : Calls Try.prog 47 #[.int .i64 s] w fun e w' => e = .returned (.bool (sideB s)) ∧ w' = w := by
  unfold sideB
  by_cases h1 : s = 1
  · subst h1
    go_enter Try.func47, Try.ntmps47
    go_wp2
    go_ret
    exact ⟨rfl, rfl⟩
  · by_cases h2 : s = 2
    · subst h2
      go_enter Try.func47, Try.ntmps47
      go_wp2
      go_ret
      exact ⟨rfl, rfl⟩
    · have e1 : (s == 1) = false := by simpa using h1
      have e2 : (s == 2) = false := by simpa using h2
      go_enter Try.func47, Try.ntmps47
      go_wp2
      go_ret
      exact ⟨by simp [h1, h2], rfl⟩
set_option maxHeartbeats 1000000 in
theorem good_calls (o : Od) (price : Int) (w : World) : Calls Try.prog 74 #[.agg o.vals, .int .i64 price] w fun e w' => e = .returned (.bool (o.good price)) ∧ Below w.heap.size w w' := by
  unfold Od.good Od.vals
  by_cases h1 : o.k = 2
  · have e1 : (o.k == 2) = true := by simpa using h1
    rw [if_pos h1]
    clear h1
    go_enter Try.func74, Try.ntmps74
    go_wp2
    go_ret
    exact ⟨rfl, Below.alloc (Below.refl _ _) (Nat.le_refl _) _⟩
  · have e1 : (o.k == 2) = false := by simpa using h1
    rw [if_neg h1]
    clear h1
    by_cases h2 : o.s = 1
    · have e2 : (o.s == 1) = true := by simpa using h2
      rw [if_pos h2]
      clear h2
      go_enter Try.func74, Try.ntmps74
      go_wp2
      go_ret
      exact ⟨rfl, Below.alloc (Below.refl _ _) (Nat.le_refl _) _⟩
    · have e2 : (o.s == 1) = false := by simpa using h2
      rw [if_neg h2]
      clear h2
      go_enter Try.func74, Try.ntmps74
      go_wp2
      go_ret
      exact ⟨by first | (simp; done) | (simp; rfl), Below.alloc (Below.refl _ _) (Nat.le_refl _) _⟩

set_option maxRecDepth 100000 in
set_option maxHeartbeats 4000000 in
theorem valid_calls (o : Od) (w : World) : Calls Try.prog 43 #[.agg o.vals] w fun e w' => e = .returned (.bool o.ok) ∧ Below w.heap.size w w' := by
  unfold Od.ok Od.vals
  cases h0 : inB2 o.m 1 1000
  · simp only [Bool.false_and, Bool.true_and, Bool.and_false]
    go_enter Try.func43, Try.ntmps43
    go_wp2_with (first | (go_at_call 48; refine (in_calls _ _ _ _).mono ?_; rintro e w1 ⟨rfl, rfl⟩) | (go_at_call 47; refine (isSide_calls _ _).mono ?_; rintro e w1 ⟨rfl, rfl⟩))
    go_ret
    exact ⟨by first | (simp; done) | (simp; rfl), Below.alloc (Below.refl _ _) (Nat.le_refl _) _⟩
  cases h1 : sideB o.s
  · simp only [Bool.false_and, Bool.true_and, Bool.and_false]
    go_enter Try.func43, Try.ntmps43
    go_wp2_with (first | (go_at_call 48; refine (in_calls _ _ _ _).mono ?_; rintro e w1 ⟨rfl, rfl⟩) | (go_at_call 47; refine (isSide_calls _ _).mono ?_; rintro e w1 ⟨rfl, rfl⟩))
    go_ret
    exact ⟨by first | (simp; done) | (simp; rfl), Below.alloc (Below.refl _ _) (Nat.le_refl _) _⟩
  cases h2 : inB2 o.f 1 4
  · simp only [Bool.false_and, Bool.true_and, Bool.and_false]
    go_enter Try.func43, Try.ntmps43
    go_wp2_with (first | (go_at_call 48; refine (in_calls _ _ _ _).mono ?_; rintro e w1 ⟨rfl, rfl⟩) | (go_at_call 47; refine (isSide_calls _ _).mono ?_; rintro e w1 ⟨rfl, rfl⟩))
    go_ret
    exact ⟨by first | (simp; done) | (simp; rfl), Below.alloc (Below.refl _ _) (Nat.le_refl _) _⟩
  cases h3 : inB2 o.q 1 1000000000
  · simp only [Bool.false_and, Bool.true_and, Bool.and_false]
    go_enter Try.func43, Try.ntmps43
    go_wp2_with (first | (go_at_call 48; refine (in_calls _ _ _ _).mono ?_; rintro e w1 ⟨rfl, rfl⟩) | (go_at_call 47; refine (isSide_calls _ _).mono ?_; rintro e w1 ⟨rfl, rfl⟩))
    go_ret
    exact ⟨by first | (simp; done) | (simp; rfl), Below.alloc (Below.refl _ _) (Nat.le_refl _) _⟩
  cases h4 : inB2 o.t 0 1000000
  · simp only [Bool.false_and, Bool.true_and, Bool.and_false]
    go_enter Try.func43, Try.ntmps43
    go_wp2_with (first | (go_at_call 48; refine (in_calls _ _ _ _).mono ?_; rintro e w1 ⟨rfl, rfl⟩) | (go_at_call 47; refine (isSide_calls _ _).mono ?_; rintro e w1 ⟨rfl, rfl⟩))
    go_ret
    exact ⟨by first | (simp; done) | (simp; rfl), Below.alloc (Below.refl _ _) (Nat.le_refl _) _⟩
  simp only [h0, h1, h2, h3, h4, Bool.true_and]
  by_cases k1 : o.k = 1
  · have e1 : (o.k == 1) = true := by simpa using k1
    rw [if_pos k1]
    clear k1
    cases h5 : inB2 o.p 1 1000000
    · simp only [Bool.false_and]
      go_enter Try.func43, Try.ntmps43
      go_wp2_with (first | (go_at_call 48; refine (in_calls _ _ _ _).mono ?_; rintro e w1 ⟨rfl, rfl⟩) | (go_at_call 47; refine (isSide_calls _ _).mono ?_; rintro e w1 ⟨rfl, rfl⟩))
      go_ret
      exact ⟨by first | (simp; done) | (simp; rfl), Below.alloc (Below.refl _ _) (Nat.le_refl _) _⟩
    simp only [Bool.true_and]
    by_cases p0 : o.pk = 0
    · have e3 : (o.pk == 0) = true := by simpa using p0
      rw [decide_eq_true p0]
      clear p0
      simp only [Bool.true_or]
      go_enter Try.func43, Try.ntmps43
      go_wp2_with (first | (go_at_call 48; refine (in_calls _ _ _ _).mono ?_; rintro e w1 ⟨rfl, rfl⟩) | (go_at_call 47; refine (isSide_calls _ _).mono ?_; rintro e w1 ⟨rfl, rfl⟩))
      go_ret
      exact ⟨by first | (simp; done) | (simp; rfl), Below.alloc (Below.refl _ _) (Nat.le_refl _) _⟩
    · have e3 : (o.pk == 0) = false := by simpa using p0
      rw [decide_eq_false p0]
      clear p0
      simp only [Bool.false_or]
      cases h6 : inB2 o.pk 1 o.q
      · simp only [Bool.false_and]
        go_enter Try.func43, Try.ntmps43
        go_wp2_with (first | (go_at_call 48; refine (in_calls _ _ _ _).mono ?_; rintro e w1 ⟨rfl, rfl⟩) | (go_at_call 47; refine (isSide_calls _ _).mono ?_; rintro e w1 ⟨rfl, rfl⟩))
        go_ret
        exact ⟨by first | (simp; done) | (simp; rfl), Below.alloc (Below.refl _ _) (Nat.le_refl _) _⟩
      simp only [Bool.true_and]
      by_cases f1 : o.f = 1
      · have e4 : (o.f == 1) = true := by simpa using f1
        rw [decide_eq_true f1]
        simp only [Bool.true_or]
        clear f1
        go_enter Try.func43, Try.ntmps43
        go_wp2_with (first | (go_at_call 48; refine (in_calls _ _ _ _).mono ?_; rintro e w1 ⟨rfl, rfl⟩) | (go_at_call 47; refine (isSide_calls _ _).mono ?_; rintro e w1 ⟨rfl, rfl⟩))
        go_ret
        exact ⟨by first | (simp; done) | (simp; rfl), Below.alloc (Below.refl _ _) (Nat.le_refl _) _⟩
      · have e4 : (o.f == 1) = false := by simpa using f1
        rw [decide_eq_false f1]
        clear f1
        simp only [Bool.false_or]
        go_enter Try.func43, Try.ntmps43
        go_wp2_with (first | (go_at_call 48; refine (in_calls _ _ _ _).mono ?_; rintro e w1 ⟨rfl, rfl⟩) | (go_at_call 47; refine (isSide_calls _ _).mono ?_; rintro e w1 ⟨rfl, rfl⟩))
        go_ret
        exact ⟨by first | (simp; done) | (simp; rfl), Below.alloc (Below.refl _ _) (Nat.le_refl _) _⟩
  · have e1 : (o.k == 1) = false := by simpa using k1
    rw [if_neg k1]
    clear k1
    by_cases k2 : o.k = 2
    · have e2 : (o.k == 2) = true := by simpa using k2
      rw [if_pos k2]
      clear k2
      by_cases z : o.p = 0
      · have e5 : (o.p != 0) = false := by simpa using z
        rw [decide_eq_true z]
        clear z
        simp only [Bool.true_and]
        by_cases f2 : o.f = 2
        · have e6f2 : (o.f != 2) = false := by simpa using f2
          rw [decide_eq_true f2]
          simp only [Bool.true_or, Bool.or_true, Bool.false_or, Bool.true_and]
          clear f2
          by_cases p0 : o.pk = 0
          · have e3 : (o.pk == 0) = true := by simpa using p0
            rw [decide_eq_true p0]
            clear p0
            simp only [Bool.true_or]
            go_enter Try.func43, Try.ntmps43
            go_wp2_with (first | (go_at_call 48; refine (in_calls _ _ _ _).mono ?_; rintro e w1 ⟨rfl, rfl⟩) | (go_at_call 47; refine (isSide_calls _ _).mono ?_; rintro e w1 ⟨rfl, rfl⟩))
            go_ret
            exact ⟨by first | (simp; done) | (simp; rfl), Below.alloc (Below.refl _ _) (Nat.le_refl _) _⟩
          · have e3 : (o.pk == 0) = false := by simpa using p0
            rw [decide_eq_false p0]
            clear p0
            simp only [Bool.false_or]
            cases h6 : inB2 o.pk 1 o.q
            · simp only [Bool.false_and]
              go_enter Try.func43, Try.ntmps43
              go_wp2_with (first | (go_at_call 48; refine (in_calls _ _ _ _).mono ?_; rintro e w1 ⟨rfl, rfl⟩) | (go_at_call 47; refine (isSide_calls _ _).mono ?_; rintro e w1 ⟨rfl, rfl⟩))
              go_ret
              exact ⟨by first | (simp; done) | (simp; rfl), Below.alloc (Below.refl _ _) (Nat.le_refl _) _⟩
            simp only [Bool.true_and]
            by_cases f1 : o.f = 1
            · have e4 : (o.f == 1) = true := by simpa using f1
              rw [decide_eq_true f1]
              simp only [Bool.true_or]
              clear f1
              go_enter Try.func43, Try.ntmps43
              go_wp2_with (first | (go_at_call 48; refine (in_calls _ _ _ _).mono ?_; rintro e w1 ⟨rfl, rfl⟩) | (go_at_call 47; refine (isSide_calls _ _).mono ?_; rintro e w1 ⟨rfl, rfl⟩))
              go_ret
              exact ⟨by first | (simp; done) | (simp; rfl), Below.alloc (Below.refl _ _) (Nat.le_refl _) _⟩
            · have e4 : (o.f == 1) = false := by simpa using f1
              rw [decide_eq_false f1]
              clear f1
              simp only [Bool.false_or]
              go_enter Try.func43, Try.ntmps43
              go_wp2_with (first | (go_at_call 48; refine (in_calls _ _ _ _).mono ?_; rintro e w1 ⟨rfl, rfl⟩) | (go_at_call 47; refine (isSide_calls _ _).mono ?_; rintro e w1 ⟨rfl, rfl⟩))
              go_ret
              exact ⟨by first | (simp; done) | (simp; rfl), Below.alloc (Below.refl _ _) (Nat.le_refl _) _⟩
        have e6f2 : (o.f != 2) = true := by simpa using f2
        rw [decide_eq_false f2]
        clear f2
        by_cases f3 : o.f = 3
        · have e6f3 : (o.f != 3) = false := by simpa using f3
          rw [decide_eq_true f3]
          simp only [Bool.true_or, Bool.or_true, Bool.false_or, Bool.true_and]
          clear f3
          by_cases p0 : o.pk = 0
          · have e3 : (o.pk == 0) = true := by simpa using p0
            rw [decide_eq_true p0]
            clear p0
            simp only [Bool.true_or]
            go_enter Try.func43, Try.ntmps43
            go_wp2_with (first | (go_at_call 48; refine (in_calls _ _ _ _).mono ?_; rintro e w1 ⟨rfl, rfl⟩) | (go_at_call 47; refine (isSide_calls _ _).mono ?_; rintro e w1 ⟨rfl, rfl⟩))
            go_ret
            exact ⟨by first | (simp; done) | (simp; rfl), Below.alloc (Below.refl _ _) (Nat.le_refl _) _⟩
          · have e3 : (o.pk == 0) = false := by simpa using p0
            rw [decide_eq_false p0]
            clear p0
            simp only [Bool.false_or]
            cases h6 : inB2 o.pk 1 o.q
            · simp only [Bool.false_and]
              go_enter Try.func43, Try.ntmps43
              go_wp2_with (first | (go_at_call 48; refine (in_calls _ _ _ _).mono ?_; rintro e w1 ⟨rfl, rfl⟩) | (go_at_call 47; refine (isSide_calls _ _).mono ?_; rintro e w1 ⟨rfl, rfl⟩))
              go_ret
              exact ⟨by first | (simp; done) | (simp; rfl), Below.alloc (Below.refl _ _) (Nat.le_refl _) _⟩
            simp only [Bool.true_and]
            by_cases f1 : o.f = 1
            · have e4 : (o.f == 1) = true := by simpa using f1
              rw [decide_eq_true f1]
              simp only [Bool.true_or]
              clear f1
              go_enter Try.func43, Try.ntmps43
              go_wp2_with (first | (go_at_call 48; refine (in_calls _ _ _ _).mono ?_; rintro e w1 ⟨rfl, rfl⟩) | (go_at_call 47; refine (isSide_calls _ _).mono ?_; rintro e w1 ⟨rfl, rfl⟩))
              go_ret
              exact ⟨by first | (simp; done) | (simp; rfl), Below.alloc (Below.refl _ _) (Nat.le_refl _) _⟩
            · have e4 : (o.f == 1) = false := by simpa using f1
              rw [decide_eq_false f1]
              clear f1
              simp only [Bool.false_or]
              go_enter Try.func43, Try.ntmps43
              go_wp2_with (first | (go_at_call 48; refine (in_calls _ _ _ _).mono ?_; rintro e w1 ⟨rfl, rfl⟩) | (go_at_call 47; refine (isSide_calls _ _).mono ?_; rintro e w1 ⟨rfl, rfl⟩))
              go_ret
              exact ⟨by first | (simp; done) | (simp; rfl), Below.alloc (Below.refl _ _) (Nat.le_refl _) _⟩
        have e6f3 : (o.f != 3) = true := by simpa using f3
        rw [decide_eq_false f3]
        clear f3
        simp only [Bool.false_or, Bool.false_and]
        go_enter Try.func43, Try.ntmps43
        go_wp2_with (first | (go_at_call 48; refine (in_calls _ _ _ _).mono ?_; rintro e w1 ⟨rfl, rfl⟩) | (go_at_call 47; refine (isSide_calls _ _).mono ?_; rintro e w1 ⟨rfl, rfl⟩))
        go_ret
        exact ⟨by first | (simp; done) | (simp; rfl), Below.alloc (Below.refl _ _) (Nat.le_refl _) _⟩
      · have e5 : (o.p != 0) = true := by simpa using z
        rw [decide_eq_false z]
        clear z
        simp only [Bool.false_and]
        go_enter Try.func43, Try.ntmps43
        go_wp2_with (first | (go_at_call 48; refine (in_calls _ _ _ _).mono ?_; rintro e w1 ⟨rfl, rfl⟩) | (go_at_call 47; refine (isSide_calls _ _).mono ?_; rintro e w1 ⟨rfl, rfl⟩))
        go_ret
        exact ⟨by first | (simp; done) | (simp; rfl), Below.alloc (Below.refl _ _) (Nat.le_refl _) _⟩
    · have e2 : (o.k == 2) = false := by simpa using k2
      rw [if_neg k2]
      clear k2
      simp only [Bool.false_and]
      go_enter Try.func43, Try.ntmps43
      go_wp2_with (first | (go_at_call 48; refine (in_calls _ _ _ _).mono ?_; rintro e w1 ⟨rfl, rfl⟩) | (go_at_call 47; refine (isSide_calls _ _).mono ?_; rintro e w1 ⟨rfl, rfl⟩))
      go_ret
      exact ⟨by first | (simp; done) | (simp; rfl), Below.alloc (Below.refl _ _) (Nat.le_refl _) _⟩
end Go.Proofs.Ytdjhpldiifdifaa
