/- Enter. -/
import Derived.Test.YtnnbdjfeagcbdaaMake2
namespace Go.Proofs.Ytnnbdjfeagcbdaa
set_option linter.unusedSimpArgs false
set_option linter.unusedVariables false
open Go.RowKit Go.Shelf
attribute [local go_sem] Oper.semAt_some

theorem Turned.after {sB vB : Nat} {w w1 w2 : World} (h : Below w.heap.size w w1) (t : Turned sB vB w1 w2) : Turned sB vB w w2 :=
  ⟨t.os.trans h.os, t.tape.trans h.tape, t.output.trans h.output, Nat.le_trans h.size t.size, fun k hk h1 h2 => (t.block k (Nat.lt_of_lt_of_le hk h.size) h1 h2).trans (h.block k hk)⟩
/-- A change of a register: the error, or the next version. -/
def Stepped (w : World) (sB vB : Nat) (vs : List T) (last : T) (r a c : Int) (g : Cl → Cl) (e : Ending) (w' : World) : Prop :=
  e = .returned (.int .i64 r) ∧ (r ≠ 0 → Below w.heap.size w w') ∧ (r = 0 → ∃ (t' : T) (uB : Nat), StAt w' sB uB (vs ++ [t']) ∧ t'.Ok ∧ t'.toList = changedP last.toList a c g ∧ (uB = vB ∨ w.heap.size ≤ uB) ∧ Turned sB vB w w')
theorem Stepped.error {w : World} {sB vB : Nat} {vs : List T} {last : T} {r a c : Int} {g : Cl → Cl} {w' : World} (hr : r ≠ 0) (hb : Below w.heap.size w w') : Stepped w sB vB vs last r a c g (.returned (.int .i64 r)) w' := ⟨rfl, fun _ => hb, fun h => absurd h hr⟩
theorem Stepped.after {w w1 : World} {sB vB : Nat} {vs : List T} {last : T} {a c : Int} {g : Cl → Cl} {e : Ending} {w' : World} (hb : Below w.heap.size w w1) (t' : T) (uB : Nat) (he : e = .returned (.int .i64 0))
    (h1 : StAt w' sB uB (vs ++ [t'])) (h2 : t'.Ok) (h3 : t'.toList = changedP last.toList a c g) (h4 : uB = vB ∨ w1.heap.size ≤ uB) (h5 : Turned sB vB w1 w') : Stepped w sB vB vs last 0 a c g e w' :=
  ⟨he, fun h => absurd rfl h, fun _ => ⟨t', uB, h1, h2, h3, h4.imp id (fun h => Nat.le_trans hb.size h), Turned.after hb h5⟩⟩
theorem ints_one (w : World) (x : Int) (ty : TypeId) : IntsAt (w.alloc (.cells #[.int .i64 x] ty)) (.slice (some ⟨w.heap.size, 0, none⟩) 1 1) [x] := by
  refine ⟨by simp, .inr ⟨w.heap.size, 0, 1, rfl, by simp, fun k hk => ?_⟩⟩
  have : k = 0 := by simpa using hk
  subst this
  simp [(Cells.new w #[.int .i64 x] ty).cell]
theorem ints_two (w : World) (x y : Int) (ty : TypeId) : IntsAt (w.alloc (.cells #[.int .i64 x, .int .i64 y] ty)) (.slice (some ⟨w.heap.size, 0, none⟩) 2 2) [x, y] := by
  refine ⟨by simp, .inr ⟨w.heap.size, 0, 2, rfl, by simp, fun k hk => ?_⟩⟩
  have : k = 0 ∨ k = 1 := by simp at hk; omega
  rcases this with rfl | rfl <;> simp [(Cells.new w #[.int .i64 x, .int .i64 y] ty).cell]
theorem all_one (m x : Int) : [x].all (inB m) = inB m x := by simp
theorem all_two (m x y : Int) : [x, y].all (inB m) = (inB m x && inB m y) := by simp

/-- The last tree is as trees are. -/
structure Fine (t : T) : Prop where
  ok : t.Ok
  sorted : Sorted t.toList
  few : t.toList.length ≤ 10000000
theorem Fine.good {t : T} (h : Fine t) : t.Good := good_iff t h.sorted.good

theorem last_of {vs : List T} {t : T} (h : vs.getLast? = some t) (hf : vs ≠ []) : t = vs.getLast hf := by
  rw [List.getLast?_eq_some_getLast hf] at h; exact (Option.some.inj h).symm
theorem now_at {w : World} {sB vB : Nat} {vs : List T} {t : T} (h : StAt w sB vB vs) (hn : vs.length ≤ 1000) (ht : vs.getLast? = some t) : NowAt w sB t := by
  rw [last_of ht h.full]; exact h.now (by omega)
theorem make_last (w : World) (sB vB : Nat) (vs : List T) (t : T) (hst : StAt w sB vB vs) (hn : vs.length ≤ 1000) (ht : vs.getLast? = some t) (fi : Fine t)
    (a c : Int) (hac : 1 ≤ a ∧ 1 ≤ c ∧ a + c - 1 ≤ 1000000) (wf : FuncId) (caps : Array Value) (g : Cl → Cl)
    (hwf : MapsOf wf caps g w) (eg : ∀ args w, (callFunc wf args).run Try.prog w = .ok (.enter wf args) w) :
    Calls Try.prog 56 #[.pointer (some ⟨sB, 0, none⟩), .agg #[.int .i64 a, .int .i64 c], .func (.func wf) #[] caps] w fun e w' =>
      e = .returned (.int .i64 0) ∧ ∃ (t' : T) (uB : Nat), StAt w' sB uB (vs ++ [t']) ∧ t'.Ok ∧ t'.toList = changedP t.toList a c g ∧ (uB = vB ∨ w.heap.size ≤ uB) ∧ Turned sB vB w w' := by
  have e := last_of ht hst.full
  subst e
  exact make_calls w sB vB vs hst hn fi.ok fi.sorted fi.few a c hac wf caps g hwf eg

def enterR (t : T) (a c lot owner : Int) : Int := if okSpan a c = true ∧ inB 1000000 lot = true ∧ inB 1000 owner = true then firstE enterE (visL t a (a + c - 1)) else 1

set_option maxRecDepth 100000 in
set_option maxHeartbeats 4000000 in
theorem enter_calls (w : World) (sB vB : Nat) (vs : List T) (t : T) (hst : StAt w sB vB vs) (hn : vs.length ≤ 1000) (ht : vs.getLast? = some t) (hfine : Fine t) (a c lot owner : Int) :
    Calls Try.prog 20 #[.pointer (some ⟨sB, 0, none⟩), .agg #[.int .i64 a, .int .i64 c], .int .i64 lot, .int .i64 owner] w
      (Stepped w sB vB vs t (enterR t a c lot owner) a c (enterG lot owner)) := by
  have hmf : ∀ (fn : Fn) (first cap : Array Value) (w : World), (Instr.makeFunc fn first cap).run Try.prog w = .ok (.func fn first cap) w := fun _ _ _ _ => rfl
  have hlt := hst.lt.1
  have ST := hid hst
  have FI := hid hfine
  have HTT := hid ht
  have W0 := hid (((((Below.refl w.heap.size w).alloc (Nat.le_refl _) (.cells #[.int .i64 a, .int .i64 c] 37)).alloc (by simp) (.cells #[.int .i64 lot] 3)).alloc (by simp; omega) (.cells #[.int .i64 owner] 3)))
  have C0 := hid (((Cells.new w #[.int .i64 a, .int .i64 c] 37).alloc (.cells #[.int .i64 lot] 3)).alloc (.cells #[.int .i64 owner] 3))
  have C1 := hid (show Cells (((w.alloc (.cells #[.int .i64 a, .int .i64 c] 37)).alloc (.cells #[.int .i64 lot] 3)).alloc (.cells #[.int .i64 owner] 3)) (w.heap.size + 1) #[.int .i64 lot] 3 by
    have := (Cells.new (w.alloc (.cells #[.int .i64 a, .int .i64 c] 37)) #[.int .i64 lot] 3).alloc (.cells #[.int .i64 owner] 3)
    rwa [World.size_alloc] at this)
  have C2 := hid (show Cells (((w.alloc (.cells #[.int .i64 a, .int .i64 c] 37)).alloc (.cells #[.int .i64 lot] 3)).alloc (.cells #[.int .i64 owner] 3)) (w.heap.size + 1 + 1) #[.int .i64 owner] 3 by
    have := Cells.new ((w.alloc (.cells #[.int .i64 a, .int .i64 c] 37)).alloc (.cells #[.int .i64 lot] 3)) #[.int .i64 owner] 3
    rwa [World.size_alloc, World.size_alloc] at this)
  clear hst hfine ht
  go_enter Try.func20, Try.ntmps20
  go_wp2_with fail
  refine (isSpan_calls a c _).mono ?_
  rintro e w1 ⟨rfl, hb1⟩
  obtain ⟨hc1, hf1⟩ := bcell hb1
  have B1 := hid (W0.out.trans (hb1.mono (by simp; omega)))
  have D0 := hid (C0.out.below hb1 C0.out.lt)
  have D1 := hid (C1.out.below hb1 C1.out.lt)
  have D2 := hid (C2.out.below hb1 C2.out.lt)
  clear hb1 hc1 hf1
  have k1 : w1.cell? ⟨w.heap.size + 1, 0, none⟩ = some (.int .i64 lot) := by simp [D1.out.cell]
  have l1 := D1.out.lt
  cases h1 : okSpan a c
  · have e := hid (show enterR t a c lot owner = 1 by simp [enterR, h1])
    go_wp2
    go_ret
    rw [e.out]
    exact Stepped.error (r := 1) (by decide) B1.out
  · go_wp2_with fail
    refine (are_calls 1000000 _ _ [lot] (ints_one w1 lot _)).mono ?_
    rintro e w2 ⟨rfl, hb2⟩
    rw [all_one]
    have B2 := hid (B1.out.trans (((Below.refl w1.heap.size w1).alloc (Nat.le_refl _) (.cells #[.int .i64 lot] 3)).trans (hb2.mono (by simp)) |>.mono B1.out.size))
    have E0 := hid ((D0.out.alloc (.cells #[.int .i64 lot] 3)).below hb2 (D0.out.alloc _).lt)
    have E1 := hid ((D1.out.alloc (.cells #[.int .i64 lot] 3)).below hb2 (D1.out.alloc _).lt)
    have E2 := hid ((D2.out.alloc (.cells #[.int .i64 lot] 3)).below hb2 (D2.out.alloc _).lt)
    clear hb2 k1 l1
    have k2 : w2.cell? ⟨w.heap.size + 1 + 1, 0, none⟩ = some (.int .i64 owner) := by simp [E2.out.cell]
    have l2 := E2.out.lt
    cases h2 : inB 1000000 lot
    · have e := hid (show enterR t a c lot owner = 1 by simp [enterR, h2])
      go_wp2
      go_ret
      rw [e.out]
      exact Stepped.error (r := 1) (by decide) B2.out
    · go_wp2_with fail
      refine (are_calls 1000 _ _ [owner] (ints_one w2 owner _)).mono ?_
      rintro e w3 ⟨rfl, hb3⟩
      rw [all_one]
      have B3 := hid (B2.out.trans (((Below.refl w2.heap.size w2).alloc (Nat.le_refl _) (.cells #[.int .i64 owner] 3)).trans (hb3.mono (by simp)) |>.mono B2.out.size))
      have F0 := hid ((E0.out.alloc (.cells #[.int .i64 owner] 3)).below hb3 (E0.out.alloc _).lt)
      have F1 := hid ((E1.out.alloc (.cells #[.int .i64 owner] 3)).below hb3 (E1.out.alloc _).lt)
      have F2 := hid ((E2.out.alloc (.cells #[.int .i64 owner] 3)).below hb3 (E2.out.alloc _).lt)
      clear hb3 k2 l2
      have k30 : w3.cell? ⟨w.heap.size, 0, none⟩ = some (.int .i64 a) := by simp [F0.out.cell]
      have k31 : w3.cell? ⟨w.heap.size, 1, none⟩ = some (.int .i64 c) := by simp [F0.out.cell]
      have l3 := F0.out.lt
      cases h3 : inB 1000 owner
      · have e := hid (show enterR t a c lot owner = 1 by simp [enterR, h3])
        go_wp2
        go_ret
        rw [e.out]
        exact Stepped.error (r := 1) (by decide) B3.out
      · have hac := (okSpan_iff a c).1 h1
        obtain ⟨r, hr⟩ : ∃ r, r = firstE enterE (visL t a (a + c - 1)) := ⟨_, rfl⟩
        have E := hid (show enterR t a c lot owner = r by rw [hr]; simp [enterR, h1, h2, h3])
        go_wp2_with fail
        refine (each_calls w3 sB t (now_at (ST.out.below B3.out) hn HTT.out) FI.out.good a c hac 55 #[] enterE (fun d W _ => enter1_calls d W) (enters_of Try.func55 (by kernel_rfl) rfl)).mono ?_
        rintro e w4 ⟨rfl, hb4⟩
        have B4 := hid (B3.out.trans (hb4.mono B3.out.size))
        have G0 := hid (F0.out.below hb4 F0.out.lt)
        have G1 := hid (F1.out.below hb4 F1.out.lt)
        have G2 := hid (F2.out.below hb4 F2.out.lt)
        clear hb4 k30 k31 l3
        have k40 : w4.cell? ⟨w.heap.size, 0, none⟩ = some (.int .i64 a) := by simp [G0.out.cell]
        have k41 : w4.cell? ⟨w.heap.size, 1, none⟩ = some (.int .i64 c) := by simp [G0.out.cell]
        have l4 := G0.out.lt
        rw [← hr]
        clear hr
        by_cases hz : r = 0
        · subst hz
          go_wp2_with fail
          refine (make_last w4 sB vB vs t (ST.out.below B4.out) hn HTT.out FI.out a c hac 57 #[.pointer (some ⟨w.heap.size + 1, 0, none⟩), .pointer (some ⟨w.heap.size + 1 + 1, 0, none⟩)] (enterG lot owner) ?_ (enters_of Try.func57 (by kernel_rfl) rfl)).mono ?_
          · intro d W hb
            refine enter2_calls d lot owner _ _ W ?_ ?_
            · rw [(G1.out.below hb G1.out.lt).cell]; rfl
            · rw [(G2.out.below hb G2.out.lt).cell]; rfl
          · rintro e w5 ⟨rfl, t', uB, p1, p2, p3, p4, p5⟩
            have P := hid (And.intro p1 (And.intro p2 (And.intro p3 (And.intro p4 p5))))
            clear p1 p2 p3 p4 p5
            go_wp2
            go_ret
            rw [E.out]
            exact Stepped.after B4.out t' uB rfl P.out.1 P.out.2.1 P.out.2.2.1 P.out.2.2.2.1 P.out.2.2.2.2
        · have hz' : (r != 0) = true := by simp [hz]
          have HZ := hid hz
          clear hz
          go_wp2
          go_ret
          rw [E.out]
          exact Stepped.error (r := r) HZ.out B4.out
end Go.Proofs.Ytnnbdjfeagcbdaa
