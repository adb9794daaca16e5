/- The third closure of call.price. call.price. call.price: walked. call.price: the walk. -/
import Derived.Test.YtjhelinbjlahiaaJZj
import Derived.Test.YtjhelinbjlahiaaJZnw
namespace Go.Proofs.Ytjhelinbjlahiaa
set_option linter.unusedSimpArgs false
set_option linter.unusedVariables false
open Go.RowKit Go.Shelf
attribute [local go_sem] Oper.semAt_some
attribute [local go_sem ↓] Go.wp_at_zero Go.wp_at_succ
/-- What the third closure stands on. -/
structure P3 (LB WB RB : Nat) (v : Value) (Z : List Zn) (ref : Int) (w : World) : Prop where
  left : Cells w LB #[v] 81
  row : RowZ 0 w v Z
  refc : Cells w RB #[.int .i64 ref] 2
  way : ∃ x, Cells w WB #[.int .i64 x] 3
structure P3J (LB WB RB : Nat) (v : Value) (Z : List Zn) (ref : Int) (w : World) : Prop where
  p3 : P3 LB WB RB v Z ref w
  way : Cells w WB #[.int .i64 (leanF Z)] 3
theorem leanF_val (Z : List Zn) : leanF Z = 1 ∨ leanF Z = -1 ∨ leanF Z = 0 := by
  unfold leanF
  split
  · exact .inl rfl
  · split
    · exact .inr (.inl rfl)
    · exact .inr (.inr rfl)
theorem P3.kept {X : Nat → Prop} {LB WB RB : Nat} {v : Value} {Z : List Zn} {ref : Int} {w w' : World} (h : P3 LB WB RB v Z ref w) (hk : Kept X w w') (h1 : ¬ X LB) (h2 : ¬ X RB) (h3 : ¬ X WB) (h4 : ∀ g, v.ownBlock = some g → ¬ X g) : P3 LB WB RB v Z ref w' := by
  obtain ⟨x, hx⟩ := h.way
  exact ⟨h.left.kept hk h1, OwnE.kept h.row hk h4, h.refc.kept hk h2, x, hx.kept hk h3⟩
theorem P3.below {LB WB RB : Nat} {v : Value} {Z : List Zn} {ref : Int} {w w' : World} (h : P3 LB WB RB v Z ref w) (hb : Below w.heap.size w w') : P3 LB WB RB v Z ref w' := h.kept (X := fun _ => False) (Kept.of_below hb) (fun h => h) (fun h => h) (fun h => h) (fun _ _ h => h)
theorem pk_bound {z : Zn} (hz : z.ok) {ref : Int} (way : Int) : 1 ≤ z.pk way ref ∧ z.pk way ref ≤ 1000000 := by
  obtain ⟨h1, h2, h3, _⟩ := hz
  unfold Zn.pk
  split
  · omega
  · split <;> omega

set_option maxRecDepth 100000 in
set_option maxHeartbeats 4000000 in
theorem p3_calls {w : World} {LB WB RB : Nat} {v : Value} {Z : List Zn} {ref : Int} (h : P3 LB WB RB v Z ref w) (hr : 1 ≤ ref ∧ ref ≤ 1000000) (hn : Z.length ≤ 5000) (hok : ∀ y ∈ Z, y.ok) (z : Zn) (hz : z.ok) :
    Calls Try.prog 57 #[.agg #[.int .i64 z.f, .int .i64 z.t, .int .i64 z.d, .int .i64 z.s], .pointer (some ⟨LB, 0, none⟩), .pointer (some ⟨WB, 0, none⟩), .pointer (some ⟨RB, 0, none⟩)] w fun e w' => e = .returned (.int .i64 (F3 (leanF Z) ref z)) ∧ P3J LB WB RB v Z ref w' ∧ Kept (fun k => k = WB) w w' := by
  obtain ⟨R, hR⟩ : ∃ R : Ending → World → Prop, R = fun e w' => e = .returned (.int .i64 (F3 (leanF Z) ref z)) ∧ P3J LB WB RB v Z ref w' ∧ Kept (fun k => k = WB) w w' := ⟨_, rfl⟩
  rw [← hR]
  have HR := hid hR
  obtain ⟨x0, hw0⟩ := h.way
  have hWL : WB ≠ LB := hw0.ne h.left (by decide)
  have hWR : WB ≠ RB := hw0.ne h.refc (by decide)
  have hWv : ∀ g, v.ownBlock = some g → ¬ g = WB := fun g hg e => by
    obtain ⟨cs, hcs⟩ := own_lt h.row hg
    exact hcs.ne hw0 (by decide) e
  obtain ⟨wb, hwb⟩ : ∃ wb, wb = w.alloc (.cells #[.int .i64 z.f, .int .i64 z.t, .int .i64 z.d, .int .i64 z.s] 85) := ⟨_, rfl⟩
  have b1 : Below w.heap.size w wb := by rw [hwb]; exact (Below.refl _ _).alloc (Nat.le_refl _) _
  have cz : Cells wb w.heap.size #[.int .i64 z.f, .int .i64 z.t, .int .i64 z.d, .int .i64 z.s] 85 := by rw [hwb]; exact Cells.new w _ _
  have pb := h.below b1
  have kl : wb.cell? ⟨LB, 0, none⟩ = some v := by rw [pb.left.cell]; rfl
  have ll := pb.left.lt
  have LN := hid (lean_calls (OwnE.reads encZn_len pb.row (by omega)) hn hok)
  have PB := hid pb
  have CZ := hid cz
  have lz := cz.lt
  have HW0 := hid (hw0.below b1 hw0.lt)
  have B1 := hid b1
  have HWB := hid hwb
  have HV := hid hWv
  have HOKZ := hid hz
  have HOK := hid hok
  have lW : WB < wb.heap.size := HW0.out.lt
  clear hR h hw0 hWv b1 cz pb hwb hok
  go_enter Try.func57, Try.ntmps57
  go_upto_region 1 with fail
  rw [← HWB.out]
  go_wp2_with fail
  refine LN.out.mono ?_
  rintro e w2 ⟨rfl, hb2⟩
  have P2 := hid (PB.out.below hb2)
  have C2 := hid (CZ.out.below hb2 lz)
  have W2 := hid (HW0.out.below hb2 lW)
  have B2 := hid hb2
  have lW2 := W2.out.lt
  have fW2 := W2.out.frozen 0
  have kW2 : w2.cell? ⟨WB, 0, none⟩ = some (.int .i64 x0) := by rw [W2.out.cell]; rfl
  clear hb2
  obtain ⟨y, hy⟩ : ∃ y, y = leanF Z := ⟨_, rfl⟩
  have HY := hid hy
  have hyv := leanF_val Z
  rw [← hy] at hyv ⊢
  obtain ⟨w3, hw3⟩ : ∃ w3, w3 = w2.setCell ⟨WB, 0, none⟩ (.int .i64 y) := ⟨_, rfl⟩
  have ks : Kept (fun k => k = WB) w2 w3 := by rw [hw3]; exact (Kept.refl (fun k => k = WB) w2).set (C := WB) rfl _ _
  have W3 : Cells w3 WB #[.int .i64 y] 3 := by rw [hw3]; exact W2.out.set 0 _
  have P3' : P3J LB WB RB v Z ref w3 := ⟨⟨P2.out.left.kept ks (Ne.symm hWL), OwnE.kept P2.out.row ks HV.out, P2.out.refc.kept ks (Ne.symm hWR), _, W3⟩, by rw [← hy]; exact W3⟩
  have hzW : w.heap.size ≠ WB := by
    intro e
    have h1 := C2.out
    rw [e] at h1
    exact absurd (cells_type h1 W2.out) (by decide)
  have C3 : Cells w3 w.heap.size #[.int .i64 z.f, .int .i64 z.t, .int .i64 z.d, .int .i64 z.s] 85 := C2.out.kept ks hzW
  have KK := hid (show Kept (fun k => k = WB) w w3 from ((Kept.of_below B1.out).trans (Kept.of_below (X := fun k => k = WB) B2.out) (fun _ _ e => e)).trans ks (fun _ _ e => e))
  have m0 : w3.cell? ⟨w.heap.size, 0, none⟩ = some (.int .i64 z.f) := by rw [C3.cell]; rfl
  have m1 : w3.cell? ⟨w.heap.size, 1, none⟩ = some (.int .i64 z.t) := by rw [C3.cell]; rfl
  have m2 : w3.cell? ⟨w.heap.size, 2, none⟩ = some (.int .i64 z.d) := by rw [C3.cell]; rfl
  have m3 : w3.cell? ⟨w.heap.size, 3, none⟩ = some (.int .i64 z.s) := by rw [C3.cell]; rfl
  have mW : w3.cell? ⟨WB, 0, none⟩ = some (.int .i64 y) := by rw [W3.cell]; rfl
  have mR : w3.cell? ⟨RB, 0, none⟩ = some (.int .i64 ref) := by rw [P3'.p3.refc.cell]; rfl
  have l1 := C3.lt
  have l2 := W3.lt
  have l3 := P3'.p3.refc.lt
  have HW3 := hid hw3
  have PJ := hid P3'
  clear hy hw3 ks W3 P3' C3
  go_upto_region 2 with fail
  rw [← HW3.out]
  by_cases hy0 : y = 0
  · subst hy0
    have hpk := pk_bound hz (ref := ref) 0
    obtain ⟨p, hp⟩ : ∃ p, p = z.pk 0 ref := ⟨_, rfl⟩
    have ew : IntKind.i64.wrap (p - ref) = p - ref := IntWalk.i64_in _ (by omega)
    have PK := hid (show ∀ wx, Calls Try.prog 59 #[.agg #[.int .i64 z.f, .int .i64 z.t, .int .i64 z.d, .int .i64 z.s], .int .i64 0, .int .i64 ref] wx fun e w' => e = .returned (.int .i64 p) ∧ Below wx.heap.size wx w' from fun wx => by rw [hp]; exact pick_calls z 0 ref wx)
    have SZ := hid (fun wx => sized_calls (p - ref) (by omega) wx)
    have FIN := hid (show ∀ w5, Below w3.heap.size w3 w5 → R (.returned (.int .i64 (siz (p - ref)))) w5 from fun w5 hb => by
      rw [HR.out]
      refine ⟨by unfold F3; rw [← HY.out, if_pos rfl, hp], ⟨PJ.out.p3.below hb, PJ.out.way.below hb l2⟩, KK.out.trans (Kept.of_below (X := fun k => k = WB) hb) (fun _ _ e => e)⟩)
    have CC := hid (show ∀ w', Below w3.drew.heap.size w3.drew w' → w'.cell? ⟨w.heap.size, 0, none⟩ = some (.int .i64 z.f) ∧ w'.cell? ⟨w.heap.size, 1, none⟩ = some (.int .i64 z.t) ∧ w'.cell? ⟨w.heap.size, 2, none⟩ = some (.int .i64 z.d) ∧ w'.cell? ⟨w.heap.size, 3, none⟩ = some (.int .i64 z.s) ∧ w'.cell? ⟨WB, 0, none⟩ = some (.int .i64 0) ∧ w'.cell? ⟨RB, 0, none⟩ = some (.int .i64 ref) from fun w' hk =>
      ⟨(hk.cell (p := ⟨w.heap.size, 0, none⟩) l1).trans m0, (hk.cell (p := ⟨w.heap.size, 1, none⟩) l1).trans m1, (hk.cell (p := ⟨w.heap.size, 2, none⟩) l1).trans m2, (hk.cell (p := ⟨w.heap.size, 3, none⟩) l1).trans m3, (hk.cell (p := ⟨WB, 0, none⟩) l2).trans mW, (hk.cell (p := ⟨RB, 0, none⟩) l3).trans mR⟩)
    clear hp hpk hyv
    go_upto_region 3 with fail
    go_region_held3 (fun wh => wh.cell? ⟨w.heap.size, 0, none⟩ = some (.int .i64 z.f) ∧ wh.cell? ⟨w.heap.size, 1, none⟩ = some (.int .i64 z.t) ∧ wh.cell? ⟨w.heap.size, 2, none⟩ = some (.int .i64 z.d) ∧ wh.cell? ⟨w.heap.size, 3, none⟩ = some (.int .i64 z.s) ∧ wh.cell? ⟨WB, 0, none⟩ = some (.int .i64 0) ∧ wh.cell? ⟨RB, 0, none⟩ = some (.int .i64 ref))
      (exact ⟨m0, m1, m2, m3, mW, mR⟩)
      (first | (go_at_call 59; (with_reducible refine (PK.out _).mono ?_); rintro e w5 ⟨rfl, hb5⟩; obtain ⟨m0, m1, m2, m3, mW, mR⟩ := CC.out _ hb5) | (go_at_call 55; (with_reducible refine (SZ.out _).mono ?_); rintro e w6 ⟨rfl, rfl⟩))
    all_goals (
      have FN := hid (FIN.out _ ((Below.refl w3.heap.size w3).drew.trans (hb5.mono (Below.refl w3.heap.size w3).drew.size)))
      clear hb5
      go_wp2
      first | exact FN.out | (go_ret; exact FN.out))
  · have e1 : (y == 0) = false := by simpa using hy0
    have ht : 1 ≤ z.t ∧ z.t ≤ 1000000 := by obtain ⟨a1, a2, a3, _⟩ := hz; omega
    have e2 : IntKind.i64.wrap (-y) = -y := IntWalk.i64_in _ (by omega)
    have e3 : IntKind.i64.wrap (-y * z.t) = -y * z.t := by
      refine IntWalk.i64_in _ ?_
      rcases hyv with h | h | h
      · subst h; omega
      · subst h; omega
      · exact absurd h hy0
    have FIN := hid (show R (.returned (.int .i64 (-y * z.t))) w3 by
      rw [HR.out]
      exact ⟨by unfold F3; rw [← HY.out, if_neg hy0], PJ.out, KK.out⟩)
    clear hyv hy0 ht
    go_wp2
    first | exact FIN.out | (go_ret; exact FIN.out)
end Go.Proofs.Ytjhelinbjlahiaa
namespace Go.Proofs.Ytjhelinbjlahiaa
set_option linter.unusedSimpArgs false
set_option linter.unusedVariables false
open Go.RowKit Go.Shelf
attribute [local go_sem] Oper.semAt_some
attribute [local go_sem ↓] Go.wp_at_zero Go.wp_at_succ
/-- The price of an auction over its zones; 0: there is none. -/
def priceZ (Z : List Zn) (ref : Int) : Int :=
  let Z2 := keptF F2 (keptF F1 Z)
  let way := leanF Z2
  let z := (keptF (F3 way ref) Z2).getD 0 ⟨0, 0, 0, 0⟩
  if z.vol = 0 then 0 else z.pk way ref
theorem leastF_mem (F : Zn → Int) {Z : List Zn} (hne : Z ≠ []) : ∃ z ∈ Z, F z = leastF F Z := by
  have key : ∀ (l : List Zn) (a : Int), (∃ z ∈ l, F z = minTo F l a) ∨ minTo F l a = a := by
    intro l
    induction l with
    | nil => exact fun a => .inr rfl
    | cons y l ih =>
      intro a
      have h1 : minTo F (y :: l) a = minTo F l (min a (F y)) := rfl
      rw [h1]
      rcases ih (min a (F y)) with ⟨z, hz, e⟩ | e
      · exact .inl ⟨z, List.mem_cons_of_mem _ hz, e⟩
      · rw [e]
        by_cases h2 : a ≤ F y
        · right; omega
        · left; exact ⟨y, List.mem_cons_self, by omega⟩
  unfold leastF
  cases Z with
  | nil => exact absurd rfl hne
  | cons y l =>
    rcases key (y :: l) (F ((y :: l).getD 0 ⟨0, 0, 0, 0⟩)) with ⟨z, hz, e⟩ | e
    · exact ⟨z, hz, e⟩
    · exact ⟨y, List.mem_cons_self, by rw [e]; rfl⟩
theorem keptF_ne (F : Zn → Int) {Z : List Zn} (hne : Z ≠ []) : keptF F Z ≠ [] := by
  obtain ⟨z, hz, e⟩ := leastF_mem F hne
  intro h
  have : z ∈ keptF F Z := by unfold keptF; exact List.mem_filter.2 ⟨hz, by simpa using e⟩
  rw [h] at this
  cases this
theorem keptF_sub (F : Zn → Int) {Z : List Zn} {z : Zn} (h : z ∈ keptF F Z) : z ∈ Z := (List.mem_filter.1 h).1
theorem keptF_len (F : Zn → Int) (Z : List Zn) : (keptF F Z).length ≤ Z.length := List.length_filter_le _ _
theorem zonesL_ok {l : List Bd} (hl : l.length ≤ 4096) (hok : ∀ b ∈ l, b.ok) : (∀ z ∈ zonesL l, z.ok) ∧ (zonesL l).length ≤ 4097 := by
  refine ⟨fun z hz => ?_, ?_⟩
  · unfold zonesL zTo at hz
    obtain ⟨i, hi, hz⟩ := List.mem_flatMap.1 hz
    rw [List.mem_range] at hi
    unfold zAt at hz
    split at hz
    · rename_i hle
      rw [List.mem_singleton] at hz
      subst hz
      have hb : ∀ x, 0 ≤ dem l x ∧ dem l x ≤ 5000000000000 ∧ 0 ≤ sup l x ∧ sup l x ≤ 5000000000000 := fun x => by
        have h1 := sumQ_bound (buyT x) hok
        have h2 := sumQ_bound (selT x) hok
        unfold dem sup
        omega
      have hx := starts_bound hok (x := (starts l).getD i 0) (by simp [hi])
      obtain ⟨q1, q2, q3, q4⟩ := hb ((starts l).getD i 0)
      refine ⟨hx.1, ?_, ?_, q1, q2, q3, q4⟩
      · show (starts l).getD i 0 ≤ if i + 1 < (starts l).length then (starts l).getD (i + 1) 0 - 1 else 1000000
        split
        · rename_i h1
          have := List.pairwise_iff_getElem.1 (starts_spec l).1 i (i + 1) hi h1 (by omega)
          simp [hi, h1]
          omega
        · exact hle
      · show (if i + 1 < (starts l).length then (starts l).getD (i + 1) 0 - 1 else 1000000) ≤ 1000000
        split
        · rename_i h1
          have := starts_bound hok (x := (starts l).getD (i + 1) 0) (by simp [h1])
          omega
        · omega
    · cases hz
  · have h1 := zTo_len l (starts l) (starts l).length
    have h2 := starts_len l
    unfold zonesL
    omega
theorem zonesL_ne {l : List Bd} (hok : ∀ b ∈ l, b.ok) : zonesL l ≠ [] := by
  have h0 := starts_ne l
  have h1 : (starts l).getD 0 0 = 1 := by
    have hm : (1 : Int) ∈ starts l := ((starts_spec l).2 1).2 (.inl rfl)
    obtain ⟨j, hj, e⟩ := List.getElem_of_mem hm
    have hb := starts_bound hok (x := (starts l)[0]) (List.getElem_mem _)
    rcases Nat.eq_zero_or_pos j with q | q
    · subst q
      simp [h0, e]
    · have := List.pairwise_iff_getElem.1 (starts_spec l).1 0 j h0 hj q
      omega
  intro h
  have : zAt l (starts l) 0 = [] := by
    refine List.eq_nil_iff_forall_not_mem.2 fun z hz => ?_
    have : z ∈ zonesL l := by unfold zonesL zTo; exact List.mem_flatMap.2 ⟨0, by simpa using h0, hz⟩
    rw [h] at this
    cases this
  unfold zAt at this
  rw [h1] at this
  simp at this
end Go.Proofs.Ytjhelinbjlahiaa
namespace Go.Proofs.Ytjhelinbjlahiaa
set_option linter.unusedSimpArgs false
set_option linter.unusedVariables false
open Go.RowKit Go.Shelf
attribute [local go_sem] Oper.semAt_some
attribute [local go_sem ↓] Go.wp_at_zero Go.wp_at_succ
/-- The zones that are left behind i steps. -/
def Zi (ref : Int) (Z : List Zn) : Nat → List Zn
  | 0 => Z
  | 1 => keptF F1 Z
  | 2 => keptF F2 (keptF F1 Z)
  | _ => keptF (F3 (leanF (keptF F2 (keptF F1 Z))) ref) (keptF F2 (keptF F1 Z))
structure PrS (w0 : World) (LB WB RB FB : Nat) (ref : Int) (Z : List Zn) (i : Nat) (w : World) : Prop where
  left : ∃ v, Cells w LB #[v] 81 ∧ RowZ w0.heap.size w v (Zi ref Z i)
  way : Cells w WB #[.int .i64 (if i = 3 then leanF (Zi ref Z 2) else 0)] 3
  refc : Cells w RB #[.int .i64 ref] 2
  fns : Cells w FB #[.func (.func 53) #[] #[], .func (.func 54) #[] #[], .func (.func 57) #[] #[.pointer (some ⟨LB, 0, none⟩), .pointer (some ⟨WB, 0, none⟩), .pointer (some ⟨RB, 0, none⟩)]] 87
  below : Below w0.heap.size w0 w
  ge : w0.heap.size ≤ LB ∧ w0.heap.size ≤ WB
theorem PrS.next {w0 : World} {LB WB RB FB : Nat} {ref : Int} {Z : List Zn} {i : Nat} {w w9 : World} {v' : Value} (h : PrS w0 LB WB RB FB ref Z i w) (hr : RowZ w.heap.size w9 v' (Zi ref Z (i + 1))) (hk : Kept (fun k => k = WB) w w9) (hw : Cells w9 WB #[.int .i64 (if i + 1 = 3 then leanF (Zi ref Z 2) else 0)] 3) :
    PrS w0 LB WB RB FB ref Z (i + 1) (w9.setCell ⟨LB, 0, none⟩ v') := by
  obtain ⟨v, hl, _⟩ := h.left
  have hWL : LB ≠ WB := hl.ne h.way (by decide)
  have hWR : RB ≠ WB := h.refc.ne h.way (by decide)
  have hWF : FB ≠ WB := h.fns.ne h.way (by decide)
  have l9 := hl.kept hk hWL
  have hs : Kept (fun k => k = LB) w9 (w9.setCell ⟨LB, 0, none⟩ v') := (Kept.refl (fun k => k = LB) w9).set (C := LB) rfl _ _
  refine ⟨⟨v', l9.set 0 _, ?_⟩, hw.kept hs (Ne.symm hWL), (h.refc.kept hk hWR).kept hs (h.refc.ne hl (by decide)), (h.fns.kept hk hWF).kept hs (h.fns.ne hl (by decide)), h.below.trans (((hk.mono (Y := fun k => w0.heap.size ≤ k) (fun k e => by rw [e]; exact h.ge.2)).trans hs (fun k _ e => by rw [e]; exact h.ge.1)).below h.below.size (fun k hk => hk)), h.ge⟩
  refine OwnE.kept (hr.mono h.below.size) hs fun b hb e => ?_
  obtain ⟨cs, hcs⟩ := own_lt hr hb
  exact hcs.ne l9 (by decide) e
theorem Zi_ok {l : List Bd} (hl : l.length ≤ 4096) (hok : ∀ b ∈ l, b.ok) (ref : Int) (i : Nat) : (∀ z ∈ Zi ref (zonesL l) i, z.ok) ∧ (Zi ref (zonesL l) i).length ≤ 4097 ∧ Zi ref (zonesL l) i ≠ [] := by
  obtain ⟨h1, h2⟩ := zonesL_ok hl hok
  have h3 := zonesL_ne hok
  have k1 : (∀ z ∈ keptF F1 (zonesL l), z.ok) ∧ (keptF F1 (zonesL l)).length ≤ 4097 ∧ keptF F1 (zonesL l) ≠ [] := ⟨fun z hz => h1 z (keptF_sub _ hz), Nat.le_trans (keptF_len _ _) h2, keptF_ne _ h3⟩
  have k2 : (∀ z ∈ keptF F2 (keptF F1 (zonesL l)), z.ok) ∧ (keptF F2 (keptF F1 (zonesL l))).length ≤ 4097 ∧ keptF F2 (keptF F1 (zonesL l)) ≠ [] := ⟨fun z hz => k1.1 z (keptF_sub _ hz), Nat.le_trans (keptF_len _ _) k1.2.1, keptF_ne _ k1.2.2⟩
  match i with
  | 0 => exact ⟨h1, h2, h3⟩
  | 1 => exact k1
  | 2 => exact k2
  | i + 3 => exact ⟨fun z hz => k2.1 z (keptF_sub _ hz), Nat.le_trans (keptF_len _ _) k2.2.1, keptF_ne _ k2.2.2⟩
/-- One round. -/
theorem PrS.round {w0 : World} {LB WB RB FB : Nat} {ref : Int} {l : List Bd} (hl : l.length ≤ 4096) (hok : ∀ b ∈ l, b.ok) (hr : 1 ≤ ref ∧ ref ≤ 1000000) {i : Nat} (hi : i < 3) {w : World} (h : PrS w0 LB WB RB FB ref (zonesL l) i w) :
    ∃ v fv, w.cell? ⟨LB, 0, none⟩ = some v ∧ w.cell? ⟨FB, i, none⟩ = some fv ∧ Calls Try.prog 48 #[v, fv] w fun e w' => ∃ v', e = .returned v' ∧ PrS w0 LB WB RB FB ref (zonesL l) (i + 1) (w'.setCell ⟨LB, 0, none⟩ v') ∧ (∃ p m c, v' = .slice p m c) ∧ (∃ u, w'.cell? ⟨LB, 0, none⟩ = some u) ∧ w'.frozen? ⟨LB, 0, none⟩ = false ∧ LB < w'.heap.size := by
  obtain ⟨v, hlc, hrow⟩ := h.left
  obtain ⟨zok, zlen, zne⟩ := Zi_ok hl hok ref i
  have hWL : LB ≠ WB := hlc.ne h.way (by decide)
  have hWR : RB ≠ WB := h.refc.ne h.way (by decide)
  have sform : ∀ {w' : World} {v' : Value} {L : List Zn}, RowZ w.heap.size w' v' L → ∃ p m c, v' = .slice p m c := fun h => by
    obtain ⟨p, c, h1, _⟩ := OwnE.form h
    exact ⟨p, _, c, h1⟩
  have tail : ∀ {w' : World}, Kept (fun k => k = WB) w w' → (∃ u, w'.cell? ⟨LB, 0, none⟩ = some u) ∧ w'.frozen? ⟨LB, 0, none⟩ = false ∧ LB < w'.heap.size := fun hk => by
    have l9 := hlc.kept hk hWL
    exact ⟨⟨v, by rw [l9.cell]; rfl⟩, l9.frozen 0, l9.lt⟩
  rcases (show i = 0 ∨ i = 1 ∨ i = 2 by omega) with rfl | rfl | rfl
  · refine ⟨v, _, by rw [hlc.cell]; rfl, by rw [h.fns.cell]; rfl, ?_⟩
    have fc := fnc_price1 (fun _ => True) (fun _ => True) (fun _ _ _ _ => trivial)
    refine (kept_calls hrow (by omega) zne fc (fun w z hi hz => fc.call w z hi hz) (fun _ _ _ _ => trivial) trivial zok (fun _ _ => trivial) (fun _ _ h => h)).mono ?_
    rintro e w' ⟨v', rfl, r', _, k'⟩
    have k2 := k'.mono (Y := fun k => k = WB) (fun _ h => h.elim)
    exact ⟨v', rfl, h.next r' k2 (h.way.kept k' (fun h => h)), sform r', tail k2⟩
  · refine ⟨v, _, by rw [hlc.cell]; rfl, by rw [h.fns.cell]; rfl, ?_⟩
    have fc := fnc_price2 (fun _ => True) (fun _ => True) (fun _ _ _ _ => trivial)
    refine (kept_calls hrow (by omega) zne fc (fun w z hi hz => fc.call w z hi hz) (fun _ _ _ _ => trivial) trivial zok (fun _ _ => trivial) (fun _ _ h => h)).mono ?_
    rintro e w' ⟨v', rfl, r', _, k'⟩
    have k2 := k'.mono (Y := fun k => k = WB) (fun _ h => h.elim)
    exact ⟨v', rfl, h.next r' k2 (h.way.kept k' (fun h => h)), sform r', tail k2⟩
  · refine ⟨v, _, by rw [hlc.cell]; rfl, by rw [h.fns.cell]; rfl, ?_⟩
    have p0 : P3 LB WB RB v (Zi ref (zonesL l) 2) ref w := ⟨hlc, hrow.mono (Nat.zero_le _), h.refc, _, h.way⟩
    have hlt : ∀ k, w.heap.size ≤ k → k ≠ LB ∧ k ≠ RB ∧ k ≠ WB ∧ ∀ g, v.ownBlock = some g → k ≠ g := fun k hk => ⟨by have := hlc.lt; omega, by have := h.refc.lt; omega, by have := h.way.lt; omega, fun g hg => by obtain ⟨cs, hcs⟩ := own_lt hrow hg; have := hcs.lt; omega⟩
    have st : ∀ w w' : World, P3 LB WB RB v (Zi ref (zonesL l) 2) ref w → Kept (fun k => k ≠ LB ∧ k ≠ RB ∧ k ≠ WB ∧ ∀ g, v.ownBlock = some g → k ≠ g) w w' → P3 LB WB RB v (Zi ref (zonesL l) 2) ref w' := fun w w' h hk => h.kept hk (fun h => h.1 rfl) (fun h => h.2.1 rfl) (fun h => h.2.2.1 rfl) (fun g hg h => h.2.2.2 g hg rfl)
    have fc : FnC (Value.int .i64) 57 #[.pointer (some ⟨LB, 0, none⟩), .pointer (some ⟨WB, 0, none⟩), .pointer (some ⟨RB, 0, none⟩)] (F3 (leanF (Zi ref (zonesL l) 2)) ref) (fun k => k = WB) (fun k => k ≠ LB ∧ k ≠ RB ∧ k ≠ WB ∧ ∀ g, v.ownBlock = some g → k ≠ g) (P3J LB WB RB v (Zi ref (zonesL l) 2) ref) Zn.ok := {
      eg := enters_of Try.func57 (by kernel_rfl) rfl
      call := fun w z hi hz => p3_calls hi.p3 hr (by omega) zok z hz
      stay := fun w w' hi hk => ⟨st w w' hi.p3 hk, hi.way.kept hk (fun h => h.2.2.1 rfl)⟩
      apart := fun k e h => h.2.2.1 e }
    refine (kept_calls hrow (by omega) zne fc (fun w z hi hz => p3_calls hi hr (by omega) zok z hz) st p0 zok hlt (fun g hg e => ?_)).mono ?_
    · obtain ⟨cs, hcs⟩ := own_lt hrow hg
      exact hcs.ne h.way (by decide) e
    · rintro e w' ⟨v', rfl, r', j', k'⟩
      exact ⟨v', rfl, h.next r' k' j'.way, sform r', tail k'⟩
end Go.Proofs.Ytjhelinbjlahiaa
namespace Go.Proofs.Ytjhelinbjlahiaa
set_option linter.unusedSimpArgs false
set_option linter.unusedVariables false
open Go.RowKit Go.Shelf
attribute [local go_sem] Oper.semAt_some
attribute [local go_sem ↓] Go.wp_at_zero Go.wp_at_succ
theorem ReadsE.below' {α : Type} {enc : α → List Value} {sz : Nat} {w w' : World} {v : Value} {l : List α} (h : ReadsE enc sz w v l) (hb : Below w.heap.size w w') : ReadsE enc sz w' v l := h.below hb

set_option maxRecDepth 100000 in
set_option maxHeartbeats 8000000 in
theorem price_calls {w : World} {v : Value} {l : List Bd} (hv : ReadsE encBd 3 w v l) (hl : l.length ≤ 4096) (hok : ∀ b ∈ l, b.ok) {ref : Int} (hr : 1 ≤ ref ∧ ref ≤ 1000000) :
    Calls Try.prog 41 #[v, .int .i64 ref] w fun e w' => e = .returned (.int .i64 (priceZ (zonesL l) ref)) ∧ Below w.heap.size w w' := by
  obtain ⟨R, hR⟩ : ∃ R : Ending → World → Prop, R = fun e w' => e = .returned (.int .i64 (priceZ (zonesL l) ref)) ∧ Below w.heap.size w w' := ⟨_, rfl⟩
  rw [← hR]
  have HR := hid hR
  obtain ⟨wb, hwb⟩ : ∃ wb, wb = w.alloc (.cells #[.int .i64 ref] 2) := ⟨_, rfl⟩
  have b1 : Below w.heap.size w wb := by rw [hwb]; exact (Below.refl _ _).alloc (Nat.le_refl _) _
  have cr : Cells wb w.heap.size #[.int .i64 ref] 2 := by rw [hwb]; exact Cells.new w _ _
  have ZC := hid (zones_calls (hv.below b1) hl hok)
  have ZO := hid (Zi_ok hl hok ref)
  have RD := hid (fun (LB WB RB FB i : Nat) (hi : i < 3) (wx : World) (h : PrS w LB WB RB FB ref (zonesL l) i wx) => h.round hl hok hr hi)
  have B1 := hid b1
  have CR := hid cr
  have lR := cr.lt
  have HWB := hid hwb
  have HRR := hid hr
  clear hR b1 cr hwb hok hv hr
  go_enter Try.func41, Try.ntmps41
  go_upto_region 1 with fail
  rw [← HWB.out]
  go_wp2_with fail
  refine ZC.out.mono ?_
  rintro e w2 ⟨v2, rfl, hz2, hb2⟩
  have B2 := hid hb2
  have Z2 := hid hz2
  have szb := hb2.size
  obtain ⟨p2, c2, hv2, _⟩ := hz2.form
  obtain ⟨n2, hn2⟩ : ∃ n2, n2 = (zonesL l).length := ⟨_, rfl⟩
  rw [← hn2] at hv2
  subst hv2
  clear hb2 hz2 hn2
  go_upto_region 3 with fail
  obtain ⟨w3, hw3⟩ : ∃ w3, w3 = (((w2.alloc (.cells #[.slice p2 n2 c2] 81)).alloc (.cells #[.int .i64 0] 3)).alloc (.cells #[.func (.func 53) #[] #[], .func (.func 54) #[] #[], .func (.func 57) #[] #[.pointer (some ⟨w2.heap.size, 0, none⟩), .pointer (some ⟨w2.heap.size + 1, 0, none⟩), .pointer (some ⟨w.heap.size, 0, none⟩)]] 87)) := ⟨_, rfl⟩
  have b3 : Below w2.heap.size w2 w3 := by rw [hw3]; exact (((Below.refl _ _).alloc (Nat.le_refl _) _).alloc (by simp) _).alloc (by simp; omega) _
  have a1 : Cells (w2.alloc (.cells #[.slice p2 n2 c2] 81)) w2.heap.size #[.slice p2 n2 c2] 81 := Cells.new w2 _ _
  have a2 := Cells.new (w2.alloc (.cells #[.slice p2 n2 c2] 81)) #[.int .i64 0] 3
  have a3 := Cells.new ((w2.alloc (.cells #[.slice p2 n2 c2] 81)).alloc (.cells #[.int .i64 0] 3)) #[.func (.func 53) #[] #[], .func (.func 54) #[] #[], .func (.func 57) #[] #[.pointer (some ⟨w2.heap.size, 0, none⟩), .pointer (some ⟨w2.heap.size + 1, 0, none⟩), .pointer (some ⟨w.heap.size, 0, none⟩)]] 87
  rw [World.size_alloc] at a2
  rw [World.size_alloc, World.size_alloc] at a3
  have S0 := hid (show PrS w w2.heap.size (w2.heap.size + 1) w.heap.size (w2.heap.size + 1 + 1) ref (zonesL l) 0 w3 by
    refine ⟨⟨_, by rw [hw3]; exact (a1.alloc _).alloc _, ?_⟩, by rw [hw3]; exact a2.alloc _, (CR.out.below B2.out lR).below b3 (by have := (CR.out.below B2.out lR).lt; omega), by rw [hw3]; exact a3, B1.out.trans ((B2.out.mono B1.out.size).trans (b3.mono (by have := B1.out.size; omega))), by have := B1.out.size; omega⟩
    exact (OwnE.below Z2.out b3).mono B1.out.size)
  rw [← hw3]
  have sz3 : w3.heap.size = w2.heap.size + 3 := by rw [hw3]; simp
  obtain ⟨LB, hLB⟩ : ∃ LB, LB = w2.heap.size := ⟨_, rfl⟩
  rw [← hLB] at S0 ⊢
  clear hw3 b3 a1 a2 a3 B2 Z2 CR hLB HWB B1 ZC
  go_upto_region 4 with fail
  go_loopg [16] 3 (fun k s16 wr => ∃ i : Nat, i + k = 3 ∧ s16 = .int .i64 i ∧ PrS w LB (LB + 1) w.heap.size (LB + 1 + 1) ref (zonesL l) i wr)
  case atStart => exact ⟨0, by omega, rfl, S0.out⟩
  case round =>
    obtain ⟨i, hik, rfl, ss⟩ := hrel
    have HIK := hid hik
    have SS := hid ss
    clear hik ss S0
    by_cases hin : i < 3
    · obtain ⟨v, fv, hc1, hc2, hcall⟩ := RD.out _ _ _ _ i hin wr SS.out
      have CALL := hid hcall
      obtain ⟨vv, hvc, _⟩ := SS.out.left
      have l1 := hvc.lt
      have l2 := SS.out.fns.lt
      have gi : (i : Int) < 3 := by omega
      have gi0 : (0 : Int) ≤ (i : Int) := by omega
      clear hcall hvc
      go_wp2_with fail
      refine CALL.out.mono ?_
      rintro e w5 ⟨v', rfl, ps, ⟨p5, m5, c5, rfl⟩, ⟨u5, hu5⟩, hf5, hl5⟩
      have PS := hid ps
      clear ps
      go_wp2
      go_roundg (3 - (i + 1))
      · exact ⟨i + 1, by omega, by go_num, PS.out⟩
      · have := HIK.out; omega
    · have hi3 : i = 3 := by have := HIK.out; omega
      subst hi3
      obtain ⟨v, hlc, hrow⟩ := SS.out.left
      obtain ⟨zok, zlen, zne⟩ := ZO.out 3
      obtain ⟨p6, cap6, hv6, hh6⟩ := hrow.form
      obtain ⟨n6, hn6⟩ : ∃ n6, n6 = (Zi ref (zonesL l) 3).length := ⟨_, rfl⟩
      rw [← hn6] at hv6
      rcases hh6 with ⟨_, h0⟩ | ⟨g, rfl, hgB, hgl⟩
      · exact absurd h0 zne
      subst hv6
      have hpos : 0 < (Zi ref (zonesL l) 3).length := List.length_pos_iff.2 zne
      obtain ⟨hnn6, _, _, hcell⟩ := OwnE.cellsAt encZn_len hrow
      obtain ⟨z, hz⟩ : ∃ z, z = (Zi ref (zonesL l) 3).getD 0 ⟨0, 0, 0, 0⟩ := ⟨_, rfl⟩
      have hz0 : z = (Zi ref (zonesL l) 3)[0] := by rw [hz]; simp [hpos]
      have zk : z.ok := by rw [hz0]; exact zok _ (List.getElem_mem _)
      have c0 := hcell 0 hpos 0 (by omega)
      have c1 := hcell 0 hpos 1 (by omega)
      have c2' := hcell 0 hpos 2 (by omega)
      have c3 := hcell 0 hpos 3 (by omega)
      simp [encZn] at c0 c1 c2' c3
      rw [← hz0] at c0 c1 c2' c3
      have p00 : (0 : Int) < (n6 : Int) := by omega
      have p01 : 0 < n6 := by omega
      have cw := SS.out.way
      rw [if_pos rfl] at cw
      obtain ⟨wy, hwy⟩ : ∃ wy, wy = leanF (Zi ref (zonesL l) 2) := ⟨_, rfl⟩
      rw [← hwy] at cw
      have m0 : wr.cell? ⟨LB, 0, none⟩ = some (.slice (some ⟨g, 0, none⟩) n6 cap6) := by rw [hlc.cell]; rfl
      have mW : wr.cell? ⟨LB + 1, 0, none⟩ = some (.int .i64 wy) := by rw [cw.cell]; rfl
      have mR : wr.cell? ⟨w.heap.size, 0, none⟩ = some (.int .i64 ref) := by rw [SS.out.refc.cell]; rfl
      have lL := hlc.lt
      have lW := cw.lt
      have lR3 := SS.out.refc.lt
      have VC := hid (fun wx => volume_calls z wx)
      unfold Zn.val at VC
      have PRI := hid (show priceZ (zonesL l) ref = if z.vol = 0 then 0 else z.pk wy ref by rw [hz, hwy]; rfl)
      have BB := hid SS.out.below
      obtain ⟨vo, hvo⟩ : ∃ vo, vo = z.vol := ⟨_, rfl⟩
      rw [← hvo] at VC PRI
      have CC := hid (show ∀ w', Below wr.heap.size wr w' → w'.cell? ⟨g, 0, none⟩ = some (.int .i64 z.f) ∧ w'.cell? ⟨g, 1, none⟩ = some (.int .i64 z.t) ∧ w'.cell? ⟨g, 2, none⟩ = some (.int .i64 z.d) ∧ w'.cell? ⟨g, 3, none⟩ = some (.int .i64 z.s) ∧ w'.cell? ⟨LB, 0, none⟩ = some (.slice (some ⟨g, 0, none⟩) n6 cap6) ∧ w'.cell? ⟨LB + 1, 0, none⟩ = some (.int .i64 wy) ∧ w'.cell? ⟨w.heap.size, 0, none⟩ = some (.int .i64 ref) from fun w' hk =>
        ⟨(hk.cell (p := ⟨g, 0, none⟩) hgl).trans c0, (hk.cell (p := ⟨g, 1, none⟩) hgl).trans c1, (hk.cell (p := ⟨g, 2, none⟩) hgl).trans c2', (hk.cell (p := ⟨g, 3, none⟩) hgl).trans c3, (hk.cell (p := ⟨LB, 0, none⟩) lL).trans m0, (hk.cell (p := ⟨LB + 1, 0, none⟩) lW).trans mW, (hk.cell (p := ⟨w.heap.size, 0, none⟩) lR3).trans mR⟩)
      clear hz hz0 hwy cw hlc hrow hcell zok hn6 hnn6 hpos hvo zk zlen
      go_upto_region 8 with fail
      go_wp2_with fail
      refine (VC.out _).mono ?_
      rintro e w5 ⟨rfl, hb5⟩
      obtain ⟨c0, c1, c2', c3, m0, mW, mR⟩ := CC.out _ hb5
      have B5 := hid hb5
      have s5 := hb5.size
      have hgl5 : g < w5.heap.size := by omega
      have lL5 : LB < w5.heap.size := by omega
      have lW5 : LB + 1 < w5.heap.size := by omega
      have lR5 : w.heap.size < w5.heap.size := by omega
      clear hb5
      by_cases hv0 : vo = 0
      · have e1 : (vo == 0) = true := by simpa using hv0
        have FIN := hid (show R (.returned (.int .i64 0)) w5 by
          rw [HR.out, PRI.out, if_pos hv0]
          exact ⟨rfl, BB.out.trans (B5.out.mono BB.out.size)⟩)
        clear hv0
        go_wp2
        first | exact FIN.out | (go_ret; exact FIN.out)
      · have e1 : (vo == 0) = false := by simpa using hv0
        have PK := hid (fun wx => pick_calls z wy ref wx)
        unfold Zn.val at PK
        have FIN := hid (show ∀ w6, Below w5.heap.size w5 w6 → R (.returned (.int .i64 (z.pk wy ref))) w6 from fun w6 hb => by
          rw [HR.out, PRI.out, if_neg hv0]
          exact ⟨rfl, BB.out.trans ((B5.out.mono BB.out.size).trans (hb.mono (Nat.le_trans BB.out.size B5.out.size)))⟩)
        have CC6 := hid (show ∀ w', Below w5.drew.heap.size w5.drew w' → w'.cell? ⟨g, 0, none⟩ = some (.int .i64 z.f) ∧ w'.cell? ⟨g, 1, none⟩ = some (.int .i64 z.t) ∧ w'.cell? ⟨g, 2, none⟩ = some (.int .i64 z.d) ∧ w'.cell? ⟨g, 3, none⟩ = some (.int .i64 z.s) ∧ w'.cell? ⟨LB, 0, none⟩ = some (.slice (some ⟨g, 0, none⟩) n6 cap6) ∧ w'.cell? ⟨LB + 1, 0, none⟩ = some (.int .i64 wy) ∧ w'.cell? ⟨w.heap.size, 0, none⟩ = some (.int .i64 ref) from fun w' hk =>
          ⟨(hk.cell (p := ⟨g, 0, none⟩) hgl5).trans c0, (hk.cell (p := ⟨g, 1, none⟩) hgl5).trans c1, (hk.cell (p := ⟨g, 2, none⟩) hgl5).trans c2', (hk.cell (p := ⟨g, 3, none⟩) hgl5).trans c3, (hk.cell (p := ⟨LB, 0, none⟩) lL5).trans m0, (hk.cell (p := ⟨LB + 1, 0, none⟩) lW5).trans mW, (hk.cell (p := ⟨w.heap.size, 0, none⟩) lR5).trans mR⟩)
        go_upto_region 10 with fail
        refine region_tail 5 (by kernel_rfl) (by kernel_rfl) ?_
        simp only [List.take_succ_cons, List.take_zero, List.drop_succ_cons, List.drop_zero]
        repeat still_step
        refine wpStill_nil ?_
        go_wp2_with fail
        refine (PK.out _).mono ?_
        rintro e w6 ⟨rfl, hb6⟩
        have FN := hid (show R (.returned (.int .i64 (z.pk wy ref))) w6 by
          first | exact FIN.out _ hb6 | exact FIN.out _ ((Below.refl w5.heap.size w5).drew.trans (hb6.mono (Below.refl w5.heap.size w5).drew.size)))
        clear hb6
        go_wp2
        first | exact FN.out | (go_ret; exact FN.out)
end Go.Proofs.Ytjhelinbjlahiaa
