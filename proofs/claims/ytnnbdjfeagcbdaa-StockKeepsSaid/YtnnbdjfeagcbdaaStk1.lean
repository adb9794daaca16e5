/- each: the first error that a closure returns for a pocket of a span. -/
import Derived.Test.YtnnbdjfeagcbdaaStk0
namespace Go.Proofs.Ytnnbdjfeagcbdaa
set_option linter.unusedSimpArgs false
set_option linter.unusedVariables false
open Go.RowKit Go.Shelf
attribute [local go_sem] Oper.semAt_some
attribute [local go_sem ↓] Go.wp_at_zero Go.wp_at_succ

def firstE (wr : Cl → Int) : List Pc → Int
  | [] => 0
  | p :: ps => if wr p.cell ≠ 0 then wr p.cell else firstE wr ps
theorem firstE_snoc (wr : Cl → Int) (l : List Pc) (p : Pc) (h : firstE wr l = 0) : firstE wr (l ++ [p]) = wr p.cell := by
  induction l with
  | nil => simp only [List.nil_append, firstE]; split <;> simp_all
  | cons a l ih =>
    simp only [firstE] at h
    split at h
    · rename_i hz; exact absurd h hz
    · rename_i hz; simp only [List.cons_append, firstE, hz, if_false]; exact ih h
theorem firstE_prefix (wr : Cl → Int) (l m : List Pc) (h : l <+: m) (hn : firstE wr l ≠ 0) : firstE wr m = firstE wr l := by
  obtain ⟨r, rfl⟩ := h
  induction l with
  | nil => exact absurd rfl hn
  | cons a l ih =>
    simp only [List.cons_append, firstE] at hn ⊢
    split
    · rfl
    · rename_i hz; rw [if_neg hz] at hn; exact ih hn
/-- A closure that reads a cell and returns a number. -/
def TellsOf (wf : FuncId) (caps : Array Value) (wr : Cl → Int) (w : World) : Prop :=
  ∀ (c : Cl) (W : World), Below w.heap.size w W → Calls Try.prog wf (#[c.val] ++ caps) W fun e W' => e = .returned (.int .i64 (wr c)) ∧ Below W.heap.size W W'

set_option maxRecDepth 100000 in
set_option maxHeartbeats 4000000 in
theorem each_calls (w : World) (sB : Nat) (t : T) (hs : NowAt w sB t) (hg : t.Good) (a c : Int) (hac : 1 ≤ a ∧ 1 ≤ c ∧ a + c - 1 ≤ 1000000) (wf : FuncId) (caps : Array Value) (wr : Cl → Int)
    (hwf : TellsOf wf caps wr w) (eg : ∀ args w, (callFunc wf args).run Try.prog w = .ok (.enter wf args) w) :
    Calls Try.prog 54 #[.pointer (some ⟨sB, 0, none⟩), .agg #[.int .i64 a, .int .i64 c], .func (.func wf) #[] caps] w fun e w' =>
      e = .returned (.int .i64 (firstE wr (visL t a (a + c - 1)))) ∧ Below w.heap.size w w' := by
  have HW := hid hwf
  have HS := hid hs
  have hw1 : IntKind.i64.wrap (a + c) = a + c := IntWalk.i64_in _ (by omega)
  have hw2 : IntKind.i64.wrap (a + c - 1) = a + c - 1 := IntWalk.i64_in _ (by omega)
  have l3 : w.heap.size < w.heap.size + 1 + 1 + 1 := by omega
  clear hwf hs
  have cA : Cells (((w.alloc (.cells #[.int .i64 a, .int .i64 c] 37)).alloc (.cells #[.func (.func wf) #[] caps] 126)).alloc (.cells #[.int .i64 0] 24)) (w.heap.size + 1) #[.func (.func wf) #[] caps] 126 := by
    have := (Cells.new (w.alloc (.cells #[.int .i64 a, .int .i64 c] 37)) #[.func (.func wf) #[] caps] 126).alloc (.cells #[.int .i64 0] 24)
    rw [World.size_alloc] at this
    exact this
  have cE : Cells (((w.alloc (.cells #[.int .i64 a, .int .i64 c] 37)).alloc (.cells #[.func (.func wf) #[] caps] 126)).alloc (.cells #[.int .i64 0] 24)) (w.heap.size + 1 + 1) #[.int .i64 0] 24 := by
    have := Cells.new ((w.alloc (.cells #[.int .i64 a, .int .i64 c] 37)).alloc (.cells #[.func (.func wf) #[] caps] 126)) #[.int .i64 0] 24
    rw [World.size_alloc, World.size_alloc] at this
    exact this
  have CA := hid cA
  have CE := hid cE
  have EG := hid eg
  clear cA cE eg
  obtain ⟨F, hFe⟩ : ∃ F, F = Fence.wide := ⟨_, rfl⟩
  have hF : Free F Try.prog := hFe ▸ free_wide _
  have hro : F.round = none := by rw [hFe]; rfl
  have FE := hid hFe
  clear hFe
  refine (callsIn_wide (n := 6)).1 ?_
  rw [← FE.out]
  refine callsIn_of_wp_marks Try.func54 rfl (hF.fn _) ?_ hro
  rw [FE.out]
  refine wpIn_wide.2 ?_
  simp only [Try.ntmps54, List.size_toArray, List.length_cons, List.length_nil, Nat.reduceAdd, Nat.reduceSub, Array.replicate_succ, Array.replicate_zero, List.push_toArray, List.append_toArray, List.nil_append, List.cons_append]
  go_wp2
  go_region_held3 (fun w' => w'.cell? ⟨w.heap.size, 0, none⟩ = some (.int .i64 a) ∧ w'.cell? ⟨w.heap.size, 1, none⟩ = some (.int .i64 c)) (go_keep)
    (first | ((with_reducible refine (now_calls _ sB t (HS.out.below (by repeat (first | exact Below.refl _ _ | refine Below.drew ?_ | refine Below.alloc ?_ (by simp; try omega) _)))).mono ?_); rintro e w1 ⟨p, rfl, ht1, hb1⟩; obtain ⟨hc1, hf1⟩ := bcell hb1; have lo1 : w.heap.size < w1.heap.size := (by have := hb1.size; (try simp at this); omega)) | ((with_reducible refine (within_made p a (a + c - 1) _).mono ?_); rintro e w2 ⟨v, rfl, hi2, hb2⟩; obtain ⟨hc2, hf2⟩ := bcell hb2))
  obtain ⟨B0, B1, B2, rfl, hB0, hB1, hB2⟩ := hi2
  have up1 : Below w.heap.size w w1 := Below.trans (by repeat (first | exact Below.refl _ _ | refine Below.drew ?_ | refine Below.alloc ?_ (by simp; try omega) _)) (hb1.mono (by simp; omega))
  have up2 : Below w.heap.size w w2 := up1.trans (hb2.mono up1.size)
  have kA : Cells w2 (w.heap.size + 1) #[.func (.func wf) #[] caps] 126 := (CA.out.drew.below hb1 (by simp)).below hb2 (by have := hb1.size; simp at this; omega)
  have kE : Cells w2 (w.heap.size + 1 + 1) #[.int .i64 0] 24 := (CE.out.drew.below hb1 (by simp)).below hb2 (by have := hb1.size; simp at this; omega)
  have ls2 : w.heap.size + 1 + 1 < w2.heap.size := kE.lt
  have KA := hid kA
  have KE := hid kE
  have UP := hid up2
  have T2 := hid (ht1.below hb2)
  clear kA kE up1 up2 hc1 hf1 hc2 hf2 hb1 hb2 ht1 lo1
  go_wp2
  refine (wpIn_wide (n := 6)).1 ?_
  rw [← FE.out]
  refine wpIn_rangeFunc_ownH hro (by omega) (gf := 102) (lb := #[.pointer (some ⟨B0, 0, none⟩), .pointer (some ⟨B1, 0, none⟩), .pointer (some ⟨B2, 0, none⟩)]) rfl (hF.fn _) (enters_of Try.func102 (by kernel_rfl) rfl)
    (within_stops F hF hro _ B0 B1 B2 w2.heap.size p t hg a (a + c - 1) ⟨hac.1, by omega, hac.2.2⟩ w2 hB0.lt hB1.lt hB2.lt (Nat.le_refl _) (by simp [hB0.cell]) (by simp [hB1.cell]) (by simp [hB2.cell]) (Tn.of_tree (Nat.le_refl _) (Below.refl _ _) T2.out))
    belowK_t (belowK_b (Nat.le_refl _)) (Below.refl _ _) (fun _ => rfl)
    (fun pre W => firstE wr (vals pre) = 0 ∧ Below w2.heap.size w2 W)
    (fun k pre W => k = Code.ret ∧ firstE wr (vals pre) ≠ 0 ∧ Cells W (w.heap.size + 1 + 1) #[.int .i64 (firstE wr (vals pre))] 24 ∧ Below w.heap.size w W)
    (OwnFrom.and (ownFrom_pure _ _) (ownFrom_below (Nat.le_refl _) (Nat.le_refl _)))
    (fun k => OwnFrom.and (ownFrom_pure _ _) (OwnFrom.and (ownFrom_pure _ _) (OwnFrom.and (fun s X Y row h hg hr => h.kept hg (fun r e => (hr r e).2)) (ownFrom_below (by omega) (by omega)))))
    ⟨rfl, Below.refl _ _⟩
    (fun x a' W => ∃ Bx, w2.heap.size ≤ Bx ∧ Cells W Bx x.1.vals 118 ∧ a' = { tmps := #[.pointer (some ⟨sB, 0, none⟩), .agg #[.int .i64 a, .int .i64 c], .func (.func wf) #[] caps, undef, .pointer (some ⟨w.heap.size, 0, none⟩), .pointer (some ⟨w.heap.size + 1, 0, none⟩), .pointer (some ⟨w.heap.size + 1 + 1, 0, none⟩), .pointer (some ⟨Bx, 0, none⟩), undef,
      .pointer (some ⟨sB, 0, none⟩), .pointer p, .pointer (some ⟨w.heap.size, 0, none⟩), .int .i64 a, .pointer (some ⟨w.heap.size, 0, none⟩), .int .i64 a, .pointer (some ⟨w.heap.size, 1, none⟩), .int .i64 c, .int .i64 (a + c), .int .i64 (a + c - 1),
      .func (.func 102) #[] #[.pointer (some ⟨B0, 0, none⟩), .pointer (some ⟨B1, 0, none⟩), .pointer (some ⟨B2, 0, none⟩)], x.1.val, undef, undef, undef, undef, undef, undef, undef], defers := [] })
    (fun x a' s X Y row h hg hr => by obtain ⟨Bx, h1, h2, h3⟩ := h; exact ⟨Bx, h1, h2.kept hg (fun r e => (hr r e).2), h3⟩) ?assign ?body ?done ?stop
  case assign =>
    rintro l pre x W K ⟨hi1, hi2⟩ hK
    gi_wp2
    exact hK _ _ ((KeepsOthers.alloc _ _).from _) ((Below.refl _ W).alloc hi2.size _) ⟨hi1, hi2.alloc hi2.size _⟩ ⟨W.heap.size, hi2.size, Cells.new _ _ _, rfl⟩
  case body =>
    rintro l pre x a' W hl _ ⟨hi1, hi2⟩ ⟨Bx, hBx, hcx, rfl⟩ hlt
    have k1 : W.cell? ⟨w.heap.size + 1, 0, none⟩ = some (.func (.func wf) #[] caps) := by
      have := (KA.out.below hi2 KA.out.lt).cell 0
      simpa using this
    obtain ⟨e0, e1, e2, e3, e4, e5⟩ := pc_facts hcx
    have hcE : Cells W (w.heap.size + 1 + 1) #[.int .i64 0] 24 := KE.out.below hi2 KE.out.lt
    have CEW := hid hcE
    have X2 := hid hcx
    have HI := hid (And.intro hi1 hi2)
    have hfw : (F.inRound l).fn wf := hF.fn _
    have hfw' : F.fn wf := hF.fn _
    have hdd : ∀ k : Nat, (F.depth.isSome = true → 1 ≤ k) := fun k h => by rw [hF.depth] at h; cases h
    have eg' := EG.out
    clear hi1 hi2 hcx hcE
    gi_wp2_with fail
    (try refine ⟨hdd _, ?_⟩)
    refine (CallsIn.inRound l (hF.calls _ _ _ _ _ (HW.out x.1.cell W ((UP.out.trans (HI.out.2.mono UP.out.size)))))).mono ?_
    rintro e W1 ⟨rfl, hb3⟩
    have hB3 := hid hb3
    have k6 : W1.cell? ⟨w.heap.size + 1 + 1, 0, none⟩ = some (.int .i64 0) := by
      have := (CEW.out.below hb3 CEW.out.lt).cell 0
      simpa using this
    have f6 : W1.frozen? ⟨w.heap.size + 1 + 1, 0, none⟩ = false := (CEW.out.below hb3 CEW.out.lt).frozen 0
    clear hb3 eg'
    by_cases hz : wr x.1.cell = 0
    · have hz' : (wr x.1.cell != 0) = false := by simp [hz]
      have HZ := hid hz
      clear hz
      gi_wp2
      exact ⟨keepsFrom_below hB3.out, hB3.out.mono HI.out.2.size, by rw [vals_append, firstE_snoc _ _ _ HI.out.1]; exact HZ.out, HI.out.2.trans (hB3.out.mono HI.out.2.size)⟩
    · have hz' : (wr x.1.cell != 0) = true := by simp [hz]
      have HZ := hid hz
      clear hz
      gi_wp2
      have ef : firstE wr (vals (pre ++ [x])) = wr x.1.cell := by rw [vals_append, firstE_snoc _ _ _ HI.out.1]
      have hUP := UP.out
      have hIB := HI.out.2
      refine ⟨(keepsFrom_below hB3.out).trans keepsFrom_set, rfl, by rw [ef]; exact HZ.out, ?_, ?_⟩
      · rw [ef]
        exact (CEW.out.below hB3.out CEW.out.lt).set 0 _
      · exact ((hUP.trans (hIB.mono hUP.size)).trans (hB3.out.mono (Nat.le_trans hUP.size hIB.size))).setCell (p := ⟨w.heap.size + 1 + 1, 0, none⟩) (by simp; omega) _
  case done =>
    rintro D ys W hD hS ⟨hi1, hi2⟩ hK
    have k6 : W.cell? ⟨w.heap.size + 1 + 1, 0, none⟩ = some (.int .i64 0) := by
      have := (KE.out.below hi2 KE.out.lt).cell 0
      simpa using this
    have f6 : W.frozen? ⟨w.heap.size + 1 + 1, 0, none⟩ = false := (KE.out.below hi2 KE.out.lt).frozen 0
    have HI := hid (And.intro hi1 hi2)
    have HD := hid hK
    clear hi1 hi2 hK
    go_wp2
    have hUP := UP.out
    have hIB := HI.out.2
    refine ⟨by simp, .inl ⟨_, _, rfl, run_takeDeferred (b := D) (ds := []) ?_, ?_⟩⟩
    · exact (KeepsOthers.setCell _ _ _).same D _ HD.out rfl
    · have hc := ((KE.out.below hIB KE.out.lt).set 0 (.int .i64 0)).put (l := D) (o := .deferred (some [])) ((KeepsOthers.setCell _ _ _).same D _ HD.out rfl) rfl (.deferred none)
      have hc0 := hc.cell 0
      simp at hc0
      refine ⟨.int .i64 0, by simp [results, Try.results54, go_sem, hc0], ?_, ?_⟩
      · rw [← hS, HI.out.1]
      · have b1 : Below w.heap.size w (W.setCell ⟨w.heap.size + 1 + 1, 0, none⟩ (.int .i64 0)) := (hUP.trans (hIB.mono hUP.size)).setCell (p := ⟨w.heap.size + 1 + 1, 0, none⟩) (by simp; omega) _
        exact b1.trans (belowK_b (w := w) (Nat.le_refl _) _ D _ _ (by have := hUP.size; omega) ((KeepsOthers.setCell _ _ _).same D _ HD.out rfl) rfl rfl)
  case stop =>
    rintro D k pre W hD hp ⟨rfl, hx, hcr, hbw⟩ hK
    have HI := hid (And.intro hx hcr)
    have HD := hid hK
    have HP := hid hp
    clear hx hcr hK hp
    gi_wp2
    have hUP := UP.out
    refine ⟨by simp, .inl ⟨_, _, rfl, run_takeDeferred (b := D) (ds := []) HD.out, ?_⟩⟩
    have hc := HI.out.2.put (l := D) (o := .deferred (some [])) HD.out rfl (.deferred none)
    have hc0 := hc.cell 0
    simp at hc0
    refine ⟨.int .i64 (firstE wr (vals pre)), by simp [results, Try.results54, go_sem, hc0], ?_, ?_⟩
    · rw [firstE_prefix wr _ _ HP.out HI.out.1]
    · exact hbw.trans (belowK_b (w := w) (Nat.le_refl _) _ D _ _ (by have := hUP.size; omega) HD.out rfl rfl)
end Go.Proofs.Ytnnbdjfeagcbdaa
