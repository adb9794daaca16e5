/- Move, Pledge, Leave, held, Release, Seize. -/
import Derived.Test.YtnnbdjfeagcbdaaChg0
namespace Go.Proofs.Ytnnbdjfeagcbdaa
set_option linter.unusedSimpArgs false
set_option linter.unusedVariables false
open Go.RowKit Go.Shelf
attribute [local go_sem] Oper.semAt_some

def moveR (t : T) (a c o to : Int) : Int := if okSpan a c = true ∧ (inB 1000 o && inB 1000 to) = true ∧ o ≠ to then firstE (ownedE o) (visL t a (a + c - 1)) else 1
def pledgeR (t : T) (a c o to : Int) : Int := if okSpan a c = true ∧ (inB 1000 o && inB 1000 to) = true then firstE (ownedE o) (visL t a (a + c - 1)) else 1
def leaveR (t : T) (a c o : Int) : Int := if okSpan a c = true ∧ inB 1000 o = true then firstE (ownedE o) (visL t a (a + c - 1)) else 1
def heldR (t : T) (a c o : Int) : Int := if okSpan a c = true ∧ inB 1000 o = true then firstE (heldE o) (visL t a (a + c - 1)) else 1

set_option maxRecDepth 100000 in
set_option maxHeartbeats 4000000 in
theorem move_calls (w : World) (sB vB : Nat) (vs : List T) (t : T) (hst : StAt w sB vB vs) (hn : vs.length ≤ 1000) (ht : vs.getLast? = some t) (hfine : Fine t) (a c o to : Int) :
    Calls Try.prog 21 #[.pointer (some ⟨sB, 0, none⟩), .agg #[.int .i64 a, .int .i64 c], .int .i64 o, .int .i64 to] w
      (Stepped w sB vB vs t (moveR t a c o to) a c (moveG to)) := by
  have hmf : ∀ (fn : Fn) (first cap : Array Value) (w : World), (Instr.makeFunc fn first cap).run Try.prog w = .ok (.func fn first cap) w := fun _ _ _ _ => rfl
  have hlt := hst.lt.1
  have ST := hid hst
  have FI := hid hfine
  have HTT := hid ht
  have W0 := hid (((Below.refl w.heap.size w).alloc (Nat.le_refl _) (.cells #[.int .i64 a, .int .i64 c] 37)).alloc (by simp) (.cells #[.int .i64 to] 3))
  have C0 := hid ((Cells.new w #[.int .i64 a, .int .i64 c] 37).alloc (.cells #[.int .i64 to] 3))
  have C1 := hid (show Cells ((w.alloc (.cells #[.int .i64 a, .int .i64 c] 37)).alloc (.cells #[.int .i64 to] 3)) (w.heap.size + 1) #[.int .i64 to] 3 by
    have := Cells.new (w.alloc (.cells #[.int .i64 a, .int .i64 c] 37)) #[.int .i64 to] 3
    rwa [World.size_alloc] at this)
  clear hst hfine ht
  go_enter Try.func21, Try.ntmps21
  go_wp2_with fail
  refine (isSpan_calls a c _).mono ?_
  rintro e w1 ⟨rfl, hb1⟩
  have B1 := hid (W0.out.trans (hb1.mono (by simp; try omega)))
  have D0 := hid (C0.out.below hb1 C0.out.lt)
  have D1 := hid (C1.out.below hb1 C1.out.lt)
  have k1 : w1.cell? ⟨w.heap.size + 1, 0, none⟩ = some (.int .i64 to) := by simp [D1.out.cell]
  have l1 := D1.out.lt
  clear hb1
  cases h1 : okSpan a c
  · have e := hid (show moveR t a c o to = 1 by simp [moveR, h1])
    go_wp2
    go_ret
    rw [e.out]
    exact Stepped.error (r := 1) (by decide) B1.out
  · go_wp2_with fail
    refine (are_calls 1000 _ _ [o, to] (ints_two w1 o to _)).mono ?_
    rintro e w2 ⟨rfl, hb2⟩
    rw [all_two]
    have B2 := hid (B1.out.trans (((Below.refl w1.heap.size w1).alloc (Nat.le_refl _) (.cells #[.int .i64 o, .int .i64 to] 3)).trans (hb2.mono (by simp)) |>.mono B1.out.size))
    have E0 := hid ((D0.out.alloc (.cells #[.int .i64 o, .int .i64 to] 3)).below hb2 (D0.out.alloc _).lt)
    have k20 : w2.cell? ⟨w.heap.size, 0, none⟩ = some (.int .i64 a) := by simp [E0.out.cell]
    have k21 : w2.cell? ⟨w.heap.size, 1, none⟩ = some (.int .i64 c) := by simp [E0.out.cell]
    have l2 := E0.out.lt
    have E1 := hid ((D1.out.alloc (.cells #[.int .i64 o, .int .i64 to] 3)).below hb2 (D1.out.alloc _).lt)
    have k22 : w2.cell? ⟨w.heap.size + 1, 0, none⟩ = some (.int .i64 to) := by simp [E1.out.cell]
    have l22 := E1.out.lt
    clear k1 l1
    clear hb2
    cases h2 : (inB 1000 o && inB 1000 to)
    · have e := hid (show moveR t a c o to = 1 by rw [moveR, h2]; simp)
      go_wp2
      go_ret
      rw [e.out]
      exact Stepped.error (r := 1) (by decide) B2.out
    · by_cases h3 : o = to
      · have e := hid (show moveR t a c o to = 1 by simp [moveR, h3])
        have hq : (o == to) = true := by simp [h3]
        clear h3 h2
        go_wp2
        go_ret
        rw [e.out]
        exact Stepped.error (r := 1) (by decide) B2.out
      · have hac := (okSpan_iff a c).1 h1
        obtain ⟨r, hr⟩ : ∃ r, r = firstE (ownedE o) (visL t a (a + c - 1)) := ⟨_, rfl⟩
        have E := hid (show moveR t a c o to = r by rw [hr, moveR, h2]; simp [h1, h3])
        have hq : (o == to) = false := by simp [h3]
        clear h3 h2
        go_wp2_with fail
        refine (owned_calls w2 sB t (now_at (ST.out.below B2.out) hn HTT.out) FI.out.good a c hac o).mono ?_
        rintro e w4 ⟨rfl, hb4⟩
        have B4 := hid (B2.out.trans (hb4.mono B2.out.size))
        have G0 := hid (E0.out.below hb4 E0.out.lt)
        have G1 := hid (E1.out.below hb4 E1.out.lt)
        clear k22 l22
        clear hb4 k20 k21 l2
        have k40 : w4.cell? ⟨w.heap.size, 0, none⟩ = some (.int .i64 a) := by simp [G0.out.cell]
        have k41 : w4.cell? ⟨w.heap.size, 1, none⟩ = some (.int .i64 c) := by simp [G0.out.cell]
        have l4 := G0.out.lt
        rw [← hr]
        clear hr
        by_cases hz : r = 0
        · subst hz
          go_wp2_with fail
          refine (make_last w4 sB vB vs t (ST.out.below B4.out) hn HTT.out FI.out a c hac 59 #[.pointer (some ⟨w.heap.size + 1, 0, none⟩)] (moveG to) (fun d W hb => move1_calls d to _ W (by rw [(G1.out.below hb G1.out.lt).cell]; rfl)) (enters_of Try.func59 (by kernel_rfl) rfl)).mono ?_
          rintro e w5 ⟨rfl, t', uB, p1, p2, p3, p4, p5⟩
          have P := hid (And.intro p1 (And.intro p2 (And.intro p3 (And.intro p4 p5))))
          clear p1 p2 p3 p4 p5
          go_wp2
          go_ret
          rw [E.out]
          exact Stepped.after B4.out t' uB rfl P.out.1 P.out.2.1 P.out.2.2.1 P.out.2.2.2.1 P.out.2.2.2.2
        · have hz' : (r != 0) = true := by simp [hz]
          have HZ := hid hz
          clear hz
          go_wp2
          go_ret
          rw [E.out]
          exact Stepped.error (r := r) HZ.out B4.out

set_option maxRecDepth 100000 in
set_option maxHeartbeats 4000000 in
theorem pledge_calls (w : World) (sB vB : Nat) (vs : List T) (t : T) (hst : StAt w sB vB vs) (hn : vs.length ≤ 1000) (ht : vs.getLast? = some t) (hfine : Fine t) (a c o to : Int) :
    Calls Try.prog 22 #[.pointer (some ⟨sB, 0, none⟩), .agg #[.int .i64 a, .int .i64 c], .int .i64 o, .int .i64 to] w
      (Stepped w sB vB vs t (pledgeR t a c o to) a c (pledgeG to)) := by
  have hmf : ∀ (fn : Fn) (first cap : Array Value) (w : World), (Instr.makeFunc fn first cap).run Try.prog w = .ok (.func fn first cap) w := fun _ _ _ _ => rfl
  have hlt := hst.lt.1
  have ST := hid hst
  have FI := hid hfine
  have HTT := hid ht
  have W0 := hid (((Below.refl w.heap.size w).alloc (Nat.le_refl _) (.cells #[.int .i64 a, .int .i64 c] 37)).alloc (by simp) (.cells #[.int .i64 to] 3))
  have C0 := hid ((Cells.new w #[.int .i64 a, .int .i64 c] 37).alloc (.cells #[.int .i64 to] 3))
  have C1 := hid (show Cells ((w.alloc (.cells #[.int .i64 a, .int .i64 c] 37)).alloc (.cells #[.int .i64 to] 3)) (w.heap.size + 1) #[.int .i64 to] 3 by
    have := Cells.new (w.alloc (.cells #[.int .i64 a, .int .i64 c] 37)) #[.int .i64 to] 3
    rwa [World.size_alloc] at this)
  clear hst hfine ht
  go_enter Try.func22, Try.ntmps22
  go_wp2_with fail
  refine (isSpan_calls a c _).mono ?_
  rintro e w1 ⟨rfl, hb1⟩
  have B1 := hid (W0.out.trans (hb1.mono (by simp; try omega)))
  have D0 := hid (C0.out.below hb1 C0.out.lt)
  have D1 := hid (C1.out.below hb1 C1.out.lt)
  have k1 : w1.cell? ⟨w.heap.size + 1, 0, none⟩ = some (.int .i64 to) := by simp [D1.out.cell]
  have l1 := D1.out.lt
  clear hb1
  cases h1 : okSpan a c
  · have e := hid (show pledgeR t a c o to = 1 by simp [pledgeR, h1])
    go_wp2
    go_ret
    rw [e.out]
    exact Stepped.error (r := 1) (by decide) B1.out
  · go_wp2_with fail
    refine (are_calls 1000 _ _ [o, to] (ints_two w1 o to _)).mono ?_
    rintro e w2 ⟨rfl, hb2⟩
    rw [all_two]
    have B2 := hid (B1.out.trans (((Below.refl w1.heap.size w1).alloc (Nat.le_refl _) (.cells #[.int .i64 o, .int .i64 to] 3)).trans (hb2.mono (by simp)) |>.mono B1.out.size))
    have E0 := hid ((D0.out.alloc (.cells #[.int .i64 o, .int .i64 to] 3)).below hb2 (D0.out.alloc _).lt)
    have k20 : w2.cell? ⟨w.heap.size, 0, none⟩ = some (.int .i64 a) := by simp [E0.out.cell]
    have k21 : w2.cell? ⟨w.heap.size, 1, none⟩ = some (.int .i64 c) := by simp [E0.out.cell]
    have l2 := E0.out.lt
    have E1 := hid ((D1.out.alloc (.cells #[.int .i64 o, .int .i64 to] 3)).below hb2 (D1.out.alloc _).lt)
    have k22 : w2.cell? ⟨w.heap.size + 1, 0, none⟩ = some (.int .i64 to) := by simp [E1.out.cell]
    have l22 := E1.out.lt
    clear k1 l1
    clear hb2
    cases h2 : (inB 1000 o && inB 1000 to)
    · have e := hid (show pledgeR t a c o to = 1 by rw [pledgeR, h2]; simp)
      go_wp2
      go_ret
      rw [e.out]
      exact Stepped.error (r := 1) (by decide) B2.out
    · have hac := (okSpan_iff a c).1 h1
      obtain ⟨r, hr⟩ : ∃ r, r = firstE (ownedE o) (visL t a (a + c - 1)) := ⟨_, rfl⟩
      have E := hid (show pledgeR t a c o to = r by rw [hr, pledgeR, h2]; simp [h1])
      clear h2
      go_wp2_with fail
      refine (owned_calls w2 sB t (now_at (ST.out.below B2.out) hn HTT.out) FI.out.good a c hac o).mono ?_
      rintro e w4 ⟨rfl, hb4⟩
      have B4 := hid (B2.out.trans (hb4.mono B2.out.size))
      have G0 := hid (E0.out.below hb4 E0.out.lt)
      have G1 := hid (E1.out.below hb4 E1.out.lt)
      clear k22 l22
      clear hb4 k20 k21 l2
      have k40 : w4.cell? ⟨w.heap.size, 0, none⟩ = some (.int .i64 a) := by simp [G0.out.cell]
      have k41 : w4.cell? ⟨w.heap.size, 1, none⟩ = some (.int .i64 c) := by simp [G0.out.cell]
      have l4 := G0.out.lt
      rw [← hr]
      clear hr
      by_cases hz : r = 0
      · subst hz
        go_wp2_with fail
        refine (make_last w4 sB vB vs t (ST.out.below B4.out) hn HTT.out FI.out a c hac 60 #[.pointer (some ⟨w.heap.size + 1, 0, none⟩)] (pledgeG to) (fun d W hb => pledge1_calls d to _ W (by rw [(G1.out.below hb G1.out.lt).cell]; rfl)) (enters_of Try.func60 (by kernel_rfl) rfl)).mono ?_
        rintro e w5 ⟨rfl, t', uB, p1, p2, p3, p4, p5⟩
        have P := hid (And.intro p1 (And.intro p2 (And.intro p3 (And.intro p4 p5))))
        clear p1 p2 p3 p4 p5
        go_wp2
        go_ret
        rw [E.out]
        exact Stepped.after B4.out t' uB rfl P.out.1 P.out.2.1 P.out.2.2.1 P.out.2.2.2.1 P.out.2.2.2.2
      · have hz' : (r != 0) = true := by simp [hz]
        have HZ := hid hz
        clear hz
        go_wp2
        go_ret
        rw [E.out]
        exact Stepped.error (r := r) HZ.out B4.out

set_option maxRecDepth 100000 in
set_option maxHeartbeats 4000000 in
theorem leave_calls (w : World) (sB vB : Nat) (vs : List T) (t : T) (hst : StAt w sB vB vs) (hn : vs.length ≤ 1000) (ht : vs.getLast? = some t) (hfine : Fine t) (a c o : Int) :
    Calls Try.prog 25 #[.pointer (some ⟨sB, 0, none⟩), .agg #[.int .i64 a, .int .i64 c], .int .i64 o] w
      (Stepped w sB vB vs t (leaveR t a c o) a c leaveG) := by
  have hmf : ∀ (fn : Fn) (first cap : Array Value) (w : World), (Instr.makeFunc fn first cap).run Try.prog w = .ok (.func fn first cap) w := fun _ _ _ _ => rfl
  have hlt := hst.lt.1
  have ST := hid hst
  have FI := hid hfine
  have HTT := hid ht
  have W0 := hid ((Below.refl w.heap.size w).alloc (Nat.le_refl _) (.cells #[.int .i64 a, .int .i64 c] 37))
  have C0 := hid (Cells.new w #[.int .i64 a, .int .i64 c] 37)
  clear hst hfine ht
  go_enter Try.func25, Try.ntmps25
  go_wp2_with fail
  refine (isSpan_calls a c _).mono ?_
  rintro e w1 ⟨rfl, hb1⟩
  have B1 := hid (W0.out.trans (hb1.mono (by simp; try omega)))
  have D0 := hid (C0.out.below hb1 C0.out.lt)
  clear hb1
  cases h1 : okSpan a c
  · have e := hid (show leaveR t a c o = 1 by simp [leaveR, h1])
    go_wp2
    go_ret
    rw [e.out]
    exact Stepped.error (r := 1) (by decide) B1.out
  · go_wp2_with fail
    refine (are_calls 1000 _ _ [o] (ints_one w1 o _)).mono ?_
    rintro e w2 ⟨rfl, hb2⟩
    rw [all_one]
    have B2 := hid (B1.out.trans (((Below.refl w1.heap.size w1).alloc (Nat.le_refl _) (.cells #[.int .i64 o] 3)).trans (hb2.mono (by simp)) |>.mono B1.out.size))
    have E0 := hid ((D0.out.alloc (.cells #[.int .i64 o] 3)).below hb2 (D0.out.alloc _).lt)
    have k20 : w2.cell? ⟨w.heap.size, 0, none⟩ = some (.int .i64 a) := by simp [E0.out.cell]
    have k21 : w2.cell? ⟨w.heap.size, 1, none⟩ = some (.int .i64 c) := by simp [E0.out.cell]
    have l2 := E0.out.lt
    clear hb2
    cases h2 : inB 1000 o
    · have e := hid (show leaveR t a c o = 1 by rw [leaveR, h2]; simp)
      go_wp2
      go_ret
      rw [e.out]
      exact Stepped.error (r := 1) (by decide) B2.out
    · have hac := (okSpan_iff a c).1 h1
      obtain ⟨r, hr⟩ : ∃ r, r = firstE (ownedE o) (visL t a (a + c - 1)) := ⟨_, rfl⟩
      have E := hid (show leaveR t a c o = r by rw [hr, leaveR, h2]; simp [h1])
      clear h2
      go_wp2_with fail
      refine (owned_calls w2 sB t (now_at (ST.out.below B2.out) hn HTT.out) FI.out.good a c hac o).mono ?_
      rintro e w4 ⟨rfl, hb4⟩
      have B4 := hid (B2.out.trans (hb4.mono B2.out.size))
      have G0 := hid (E0.out.below hb4 E0.out.lt)
      clear hb4 k20 k21 l2
      have k40 : w4.cell? ⟨w.heap.size, 0, none⟩ = some (.int .i64 a) := by simp [G0.out.cell]
      have k41 : w4.cell? ⟨w.heap.size, 1, none⟩ = some (.int .i64 c) := by simp [G0.out.cell]
      have l4 := G0.out.lt
      rw [← hr]
      clear hr
      by_cases hz : r = 0
      · subst hz
        go_wp2_with fail
        refine (make_last w4 sB vB vs t (ST.out.below B4.out) hn HTT.out FI.out a c hac 64 #[] leaveG (fun d W hb => leave1_calls d W) (enters_of Try.func64 (by kernel_rfl) rfl)).mono ?_
        rintro e w5 ⟨rfl, t', uB, p1, p2, p3, p4, p5⟩
        have P := hid (And.intro p1 (And.intro p2 (And.intro p3 (And.intro p4 p5))))
        clear p1 p2 p3 p4 p5
        go_wp2
        go_ret
        rw [E.out]
        exact Stepped.after B4.out t' uB rfl P.out.1 P.out.2.1 P.out.2.2.1 P.out.2.2.2.1 P.out.2.2.2.2
      · have hz' : (r != 0) = true := by simp [hz]
        have HZ := hid hz
        clear hz
        go_wp2
        go_ret
        rw [E.out]
        exact Stepped.error (r := r) HZ.out B4.out

set_option maxRecDepth 100000 in
set_option maxHeartbeats 4000000 in
theorem held_calls (w : World) (sB : Nat) (t : T) (hs : NowAt w sB t) (hg : t.Good) (a c o : Int) :
    Calls Try.prog 61 #[.pointer (some ⟨sB, 0, none⟩), .agg #[.int .i64 a, .int .i64 c], .int .i64 o] w fun e w' => e = .returned (.int .i64 (heldR t a c o)) ∧ Below w.heap.size w w' := by
  have hmf : ∀ (fn : Fn) (first cap : Array Value) (w : World), (Instr.makeFunc fn first cap).run Try.prog w = .ok (.func fn first cap) w := fun _ _ _ _ => rfl
  have HS := hid hs
  have W0 := hid (((Below.refl w.heap.size w).alloc (Nat.le_refl _) (.cells #[.int .i64 a, .int .i64 c] 37)).alloc (by simp) (.cells #[.int .i64 o] 3))
  have C0 := hid ((Cells.new w #[.int .i64 a, .int .i64 c] 37).alloc (.cells #[.int .i64 o] 3))
  have C1 := hid (show Cells ((w.alloc (.cells #[.int .i64 a, .int .i64 c] 37)).alloc (.cells #[.int .i64 o] 3)) (w.heap.size + 1) #[.int .i64 o] 3 by
    have := Cells.new (w.alloc (.cells #[.int .i64 a, .int .i64 c] 37)) #[.int .i64 o] 3
    rwa [World.size_alloc] at this)
  clear hs
  have l0 : w.heap.size < w.heap.size + 1 + 1 := by omega
  go_enter Try.func61, Try.ntmps61
  go_wp2_with fail
  refine (isSpan_calls a c _).mono ?_
  rintro e w1 ⟨rfl, hb1⟩
  have B1 := hid (W0.out.trans (hb1.mono (by simp; try omega)))
  have D0 := hid (C0.out.below hb1 C0.out.lt)
  have D1 := hid (C1.out.below hb1 C1.out.lt)
  have k1 : w1.cell? ⟨w.heap.size + 1, 0, none⟩ = some (.int .i64 o) := by simp [D1.out.cell]
  have l1 := D1.out.lt
  clear hb1
  cases h1 : okSpan a c
  · have e := hid (show heldR t a c o = 1 by simp [heldR, h1])
    go_wp2
    go_ret
    exact ⟨by rw [e.out]; rfl, B1.out⟩
  · go_wp2_with fail
    refine (are_calls 1000 _ _ [o] (ints_one w1 o _)).mono ?_
    rintro e w2 ⟨rfl, hb2⟩
    rw [all_one]
    have B2 := hid (B1.out.trans (((Below.refl w1.heap.size w1).alloc (Nat.le_refl _) (.cells #[.int .i64 o] 3)).trans (hb2.mono (by simp)) |>.mono B1.out.size))
    have E0 := hid ((D0.out.alloc (.cells #[.int .i64 o] 3)).below hb2 (D0.out.alloc _).lt)
    have E1 := hid ((D1.out.alloc (.cells #[.int .i64 o] 3)).below hb2 (D1.out.alloc _).lt)
    have k20 : w2.cell? ⟨w.heap.size, 0, none⟩ = some (.int .i64 a) := by simp [E0.out.cell]
    have k21 : w2.cell? ⟨w.heap.size, 1, none⟩ = some (.int .i64 c) := by simp [E0.out.cell]
    have l2 := E0.out.lt
    clear hb2 k1 l1
    cases h2 : inB 1000 o
    · have e := hid (show heldR t a c o = 1 by simp [heldR, h2])
      go_wp2
      go_ret
      exact ⟨by rw [e.out]; rfl, B2.out⟩
    · have hac := (okSpan_iff a c).1 h1
      have E := hid (show heldR t a c o = firstE (heldE o) (visL t a (a + c - 1)) by simp [heldR, h1, h2])
      clear h2
      go_wp2_with fail
      refine (each_calls w2 sB t (HS.out.below B2.out) hg a c hac 101 #[.pointer (some ⟨w.heap.size + 1, 0, none⟩)] (heldE o) (fun d W hb => held1_calls d o _ W (by rw [(E1.out.below hb E1.out.lt).cell]; rfl)) (enters_of Try.func101 (by kernel_rfl) rfl)).mono ?_
      rintro e w4 ⟨rfl, hb4⟩
      have B4 := hid (B2.out.trans (hb4.mono B2.out.size))
      clear hb4 k20 k21 l2
      go_wp2
      go_ret
      exact ⟨by rw [E.out]; rfl, B4.out⟩

theorem heldR_ok {t : T} {a c o : Int} (h : heldR t a c o = 0) : 1 ≤ a ∧ 1 ≤ c ∧ a + c - 1 ≤ 1000000 := by
  unfold heldR at h
  split at h
  · rename_i h1; exact (okSpan_iff a c).1 h1.1
  · exact absurd h (by decide)

set_option maxRecDepth 100000 in
set_option maxHeartbeats 4000000 in
theorem release_calls (w : World) (sB vB : Nat) (vs : List T) (t : T) (hst : StAt w sB vB vs) (hn : vs.length ≤ 1000) (ht : vs.getLast? = some t) (hfine : Fine t) (a c o : Int) :
    Calls Try.prog 23 #[.pointer (some ⟨sB, 0, none⟩), .agg #[.int .i64 a, .int .i64 c], .int .i64 o] w
      (Stepped w sB vB vs t (heldR t a c o) a c releaseG) := by
  have hmf : ∀ (fn : Fn) (first cap : Array Value) (w : World), (Instr.makeFunc fn first cap).run Try.prog w = .ok (.func fn first cap) w := fun _ _ _ _ => rfl
  have ST := hid hst
  have FI := hid hfine
  have HTT := hid ht
  have W0 := hid ((Below.refl w.heap.size w).alloc (Nat.le_refl _) (.cells #[.int .i64 a, .int .i64 c] 37))
  have C0 := hid (Cells.new w #[.int .i64 a, .int .i64 c] 37)
  clear hst hfine ht
  go_enter Try.func23, Try.ntmps23
  go_wp2_with fail
  refine (held_calls _ sB t (now_at (ST.out.below W0.out) hn HTT.out) FI.out.good a c o).mono ?_
  rintro e w4 ⟨rfl, hb4⟩
  have B4 := hid (W0.out.trans (hb4.mono W0.out.size))
  have G0 := hid (C0.out.below hb4 C0.out.lt)
  have k40 : w4.cell? ⟨w.heap.size, 0, none⟩ = some (.int .i64 a) := by simp [G0.out.cell]
  have k41 : w4.cell? ⟨w.heap.size, 1, none⟩ = some (.int .i64 c) := by simp [G0.out.cell]
  have l4 := G0.out.lt
  clear hb4
  obtain ⟨r, hr⟩ : ∃ r, r = heldR t a c o := ⟨_, rfl⟩
  have E := hid hr
  rw [← hr]
  clear hr
  by_cases hz : r = 0
  · subst hz
    have hac := heldR_ok E.out.symm
    go_wp2_with fail
    refine (make_last w4 sB vB vs t (ST.out.below B4.out) hn HTT.out FI.out a c hac 62 #[] releaseG (fun d W hb => release1_calls d W) (enters_of Try.func62 (by kernel_rfl) rfl)).mono ?_
    rintro e w5 ⟨rfl, t', uB, p1, p2, p3, p4, p5⟩
    have P := hid (And.intro p1 (And.intro p2 (And.intro p3 (And.intro p4 p5))))
    clear p1 p2 p3 p4 p5
    go_wp2
    go_ret
    rw [← E.out]
    exact Stepped.after B4.out t' uB rfl P.out.1 P.out.2.1 P.out.2.2.1 P.out.2.2.2.1 P.out.2.2.2.2
  · have hz' : (r != 0) = true := by simp [hz]
    have HZ := hid hz
    clear hz
    go_wp2
    go_ret
    rw [← E.out]
    exact Stepped.error (r := r) HZ.out B4.out

set_option maxRecDepth 100000 in
set_option maxHeartbeats 4000000 in
theorem seize_calls (w : World) (sB vB : Nat) (vs : List T) (t : T) (hst : StAt w sB vB vs) (hn : vs.length ≤ 1000) (ht : vs.getLast? = some t) (hfine : Fine t) (a c o : Int) :
    Calls Try.prog 24 #[.pointer (some ⟨sB, 0, none⟩), .agg #[.int .i64 a, .int .i64 c], .int .i64 o] w
      (Stepped w sB vB vs t (heldR t a c o) a c (seizeG o)) := by
  have hmf : ∀ (fn : Fn) (first cap : Array Value) (w : World), (Instr.makeFunc fn first cap).run Try.prog w = .ok (.func fn first cap) w := fun _ _ _ _ => rfl
  have ST := hid hst
  have FI := hid hfine
  have HTT := hid ht
  have W0 := hid (((Below.refl w.heap.size w).alloc (Nat.le_refl _) (.cells #[.int .i64 a, .int .i64 c] 37)).alloc (by simp) (.cells #[.int .i64 o] 3))
  have C0 := hid ((Cells.new w #[.int .i64 a, .int .i64 c] 37).alloc (.cells #[.int .i64 o] 3))
  have C1 := hid (show Cells ((w.alloc (.cells #[.int .i64 a, .int .i64 c] 37)).alloc (.cells #[.int .i64 o] 3)) (w.heap.size + 1) #[.int .i64 o] 3 by
    have := Cells.new (w.alloc (.cells #[.int .i64 a, .int .i64 c] 37)) #[.int .i64 o] 3
    rwa [World.size_alloc] at this)
  have l0 : w.heap.size < w.heap.size + 1 + 1 := by omega
  clear hst hfine ht
  go_enter Try.func24, Try.ntmps24
  go_wp2_with fail
  refine (held_calls _ sB t (now_at (ST.out.below W0.out) hn HTT.out) FI.out.good a c o).mono ?_
  rintro e w4 ⟨rfl, hb4⟩
  have B4 := hid (W0.out.trans (hb4.mono W0.out.size))
  have G0 := hid (C0.out.below hb4 C0.out.lt)
  have G1 := hid (C1.out.below hb4 C1.out.lt)
  have k40 : w4.cell? ⟨w.heap.size, 0, none⟩ = some (.int .i64 a) := by simp [G0.out.cell]
  have k41 : w4.cell? ⟨w.heap.size, 1, none⟩ = some (.int .i64 c) := by simp [G0.out.cell]
  have l4 := G0.out.lt
  clear hb4
  obtain ⟨r, hr⟩ : ∃ r, r = heldR t a c o := ⟨_, rfl⟩
  have E := hid hr
  rw [← hr]
  clear hr
  by_cases hz : r = 0
  · subst hz
    have hac := heldR_ok E.out.symm
    go_wp2_with fail
    refine (make_last w4 sB vB vs t (ST.out.below B4.out) hn HTT.out FI.out a c hac 63 #[.pointer (some ⟨w.heap.size + 1, 0, none⟩)] (seizeG o) (fun d W hb => seize1_calls d o _ W (by rw [(G1.out.below hb G1.out.lt).cell]; rfl)) (enters_of Try.func63 (by kernel_rfl) rfl)).mono ?_
    rintro e w5 ⟨rfl, t', uB, p1, p2, p3, p4, p5⟩
    have P := hid (And.intro p1 (And.intro p2 (And.intro p3 (And.intro p4 p5))))
    clear p1 p2 p3 p4 p5
    go_wp2
    go_ret
    rw [← E.out]
    exact Stepped.after B4.out t' uB rfl P.out.1 P.out.2.1 P.out.2.2.1 P.out.2.2.2.1 P.out.2.2.2.2
  · have hz' : (r != 0) = true := by simp [hz]
    have HZ := hid hz
    clear hz
    go_wp2
    go_ret
    rw [← E.out]
    exact Stepped.error (r := r) HZ.out B4.out

end Go.Proofs.Ytnnbdjfeagcbdaa
