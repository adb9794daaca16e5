/- Alpha. -/
import Derived.Test.YtnnbdjfeagcbdaaFn2
namespace Go.Proofs.Ytnnbdjfeagcbdaa
set_option linter.unusedSimpArgs false
set_option linter.unusedVariables false
open Go.RowKit Go.Shelf
attribute [local go_sem] Oper.semAt_some

/-- A slice value that reads as pairs. -/
def PairsAt (w : World) (v : Value) (xs : List (Int × Int)) : Prop :=
  xs.length ≤ 1000000000 ∧ ((∃ a cap, v = .slice a 0 cap ∧ xs = []) ∨ ∃ b off cap, v = .slice (some ⟨b, off, none⟩) xs.length cap ∧ b < w.heap.size ∧
    ∀ k, k < xs.length → w.cell? ⟨b, off + k * 2, none⟩ = some (.int .i64 (xs[k]?.getD (0, 0)).1) ∧ w.cell? ⟨b, off + k * 2 + 1, none⟩ = some (.int .i64 (xs[k]?.getD (0, 0)).2))
theorem PairsAt.below {w w' : World} {v : Value} {xs : List (Int × Int)} (h : PairsAt w v xs) (hb : Below w.heap.size w w') : PairsAt w' v xs := by
  refine ⟨h.1, h.2.imp id ?_⟩
  rintro ⟨b, off, cap, hv, hlt, hc⟩
  exact ⟨b, off, cap, hv, Nat.lt_of_lt_of_le hlt hb.size, fun k hk => ⟨(hb.cell (p := ⟨b, off + k * 2, none⟩) hlt).trans (hc k hk).1, (hb.cell (p := ⟨b, off + k * 2 + 1, none⟩) hlt).trans (hc k hk).2⟩⟩

def okT (x : Int × Int) : Prop := 1 ≤ x.1 ∧ x.1 ≤ 1000000000 ∧ 0 ≤ x.2 ∧ x.2 ≤ 3000
instance (x : Int × Int) : Decidable (okT x) := by unfold okT; infer_instance
def sumT (l : List (Int × Int)) : Int := (l.map fun x => x.1 * x.2).sum
def gramsT (l : List (Int × Int)) : Int := (l.map fun x => x.1).sum
theorem sumT_take (l : List (Int × Int)) (k : Nat) (h : k < l.length) : sumT (l.take (k + 1)) = sumT (l.take k) + (l[k]?.getD (0, 0)).1 * (l[k]?.getD (0, 0)).2 := by
  rw [List.take_succ_eq_append_getElem h, List.getElem?_eq_getElem h]; simp only [sumT, List.map_append, List.sum_append, List.map_cons, List.map_nil, List.sum_cons, List.sum_nil, Option.getD_some, Int.add_zero]
theorem gramsT_take (l : List (Int × Int)) (k : Nat) (h : k < l.length) : gramsT (l.take (k + 1)) = gramsT (l.take k) + (l[k]?.getD (0, 0)).1 := by
  rw [List.take_succ_eq_append_getElem h, List.getElem?_eq_getElem h]; simp only [gramsT, List.map_append, List.sum_append, List.map_cons, List.map_nil, List.sum_cons, List.sum_nil, Option.getD_some, Int.add_zero]
theorem prod_le (x : Int × Int) (h : okT x) : 0 ≤ x.1 * x.2 ∧ x.1 * x.2 ≤ 3000000000000 := by
  obtain ⟨h1, h2, h3, h4⟩ := h
  refine ⟨Int.mul_nonneg (by omega) h3, ?_⟩
  calc x.1 * x.2 ≤ 1000000000 * 3000 := Int.mul_le_mul h2 h4 h3 (by omega)
    _ = _ := by decide
theorem sums_le (l : List (Int × Int)) (h : ∀ x ∈ l, okT x) : 0 ≤ sumT l ∧ sumT l ≤ 3000000000000 * l.length ∧ l.length ≤ gramsT l ∧ gramsT l ≤ 1000000000 * l.length := by
  induction l with
  | nil => simp [sumT, gramsT]
  | cons x l ih =>
    have := ih (fun y hy => h y (by simp [hy]))
    have hx := h x (by simp)
    have hp := prod_le x hx
    unfold okT at hx
    simp only [sumT, gramsT, List.map_cons, List.sum_cons, List.length_cons] at this ⊢
    omega
/-- The mean: rounded to the nearest, of two equally near the even one. -/
def meanT (s g : Int) : Int := if 2 * s.tmod g > g ∨ (2 * s.tmod g = g ∧ (s.tdiv g).tmod 2 = 1) then s.tdiv g + 1 else s.tdiv g
def alphaP (l : List (Int × Int)) : Int × Int :=
  if l.length > 4096 then (0, 2) else if l.length = 0 then (0, 1) else if (∀ x ∈ l, okT x) then (meanT (sumT l) (gramsT l), 0) else (0, 1)
theorem alphaP_bad (l : List (Int × Int)) (k : Nat) (hn : l.length ≤ 4096) (hk : k < l.length) (hb : ¬ okT (l[k]?.getD (0, 0))) : alphaP l = (0, 1) := by
  unfold alphaP
  rw [if_neg (by omega), if_neg (by omega), if_neg]
  intro h
  apply hb
  rw [List.getElem?_eq_getElem hk]
  exact h _ (List.getElem_mem hk)
theorem all_take_succ (l : List (Int × Int)) (k : Nat) (hk : k < l.length) (h : ∀ x ∈ l.take k, okT x) (hx : okT (l[k]?.getD (0, 0))) : ∀ x ∈ l.take (k + 1), okT x := by
  rw [List.take_succ_eq_append_getElem hk]
  intro x hm
  rcases List.mem_append.1 hm with hm | hm
  · exact h x hm
  · rw [List.getElem?_eq_getElem hk] at hx
    simp at hm; rw [hm]; exact hx

set_option maxRecDepth 100000 in
set_option maxHeartbeats 4000000 in
theorem alpha_calls (w : World) (v : Value) (xs : List (Int × Int)) (hv : PairsAt w v xs) :
    Calls Try.prog 35 #[v] w fun e w' => e = .returned (.tuple #[.int .i64 (alphaP xs).1, .int .i64 (alphaP xs).2]) ∧ Below w.heap.size w w' := by
  obtain ⟨hm, ⟨a, cap, rfl, rfl⟩ | ⟨b, off, cap, rfl, hlt, hc⟩⟩ := hv
  · go_enter Try.func35, Try.ntmps35
    go_wp2
    refine bodyPost_ret (v := .tuple #[.int .i64 0, .int .i64 1]) (by simp [results, Try.results35, go_sem]) rfl ⟨rfl, Below.refl _ _⟩
  · have HC := hid hc
    clear hc
    obtain ⟨len, hl⟩ : ∃ len, len = xs.length := ⟨_, rfl⟩
    rw [← hl] at hm ⊢
    have HL := hid hl
    clear hl
    by_cases hbig : 4096 < len
    · have e := hid (show alphaP xs = (0, 2) by unfold alphaP; rw [if_pos (by rw [← HL.out]; exact hbig)])
      go_enter Try.func35, Try.ntmps35
      go_wp2
      refine bodyPost_ret (v := .tuple #[.int .i64 0, .int .i64 2]) (by simp [results, Try.results35, go_sem]) rfl ⟨by rw [e.out], Below.refl _ _⟩
    · by_cases hz : len = 0
      · have e := hid (show alphaP xs = (0, 1) by unfold alphaP; rw [if_neg (by rw [← HL.out]; exact hbig), if_pos (by rw [← HL.out]; exact hz)])
        go_enter Try.func35, Try.ntmps35
        go_wp2
        refine bodyPost_ret (v := .tuple #[.int .i64 0, .int .i64 1]) (by simp [results, Try.results35, go_sem]) rfl ⟨by rw [e.out], Below.refl _ _⟩
      · go_enter Try.func35, Try.ntmps35
        go_wp2
        go_loopw [4, 5, 18] (fun s g i wr => ∃ k : Nat, k ≤ len ∧ i = .int .i64 k ∧ s = .int .i64 (sumT (xs.take k)) ∧ g = .int .i64 (gramsT (xs.take k)) ∧ (∀ x ∈ xs.take k, okT x) ∧ Below w.heap.size w wr) (fun _ _ i _ => len - (intOf i).toNat)
        case atStart => exact ⟨0, Nat.zero_le _, rfl, rfl, rfl, by simp, Below.refl _ _⟩
        case round =>
          obtain ⟨k, hk, rfl, rfl, rfl, hok, hb⟩ := hrel
          have HB := hid hb
          have HOK := hid hok
          clear hb hok
          have hln : (xs.take k).length = k := by rw [List.length_take, ← HL.out]; omega
          have sl := sums_le (xs.take k) HOK.out
          rw [hln] at sl
          by_cases hlk : k < len
          · have c0 : wr.cell? ⟨b, off + k * 2, none⟩ = some (.int .i64 (xs[k]?.getD (0, 0)).1) := (HB.out.cell (p := ⟨b, off + k * 2, none⟩) hlt).trans (HC.out k (by rw [← HL.out]; exact hlk)).1
            have c1 : wr.cell? ⟨b, off + k * 2 + 1, none⟩ = some (.int .i64 (xs[k]?.getD (0, 0)).2) := (HB.out.cell (p := ⟨b, off + k * 2 + 1, none⟩) hlt).trans (HC.out k (by rw [← HL.out]; exact hlk)).2
            have ST := hid (sumT_take xs k (by rw [← HL.out]; exact hlk))
            have GT := hid (gramsT_take xs k (by rw [← HL.out]; exact hlk))
            have BAD := hid (alphaP_bad xs k (by rw [← HL.out]; omega) (by rw [← HL.out]; exact hlk))
            have ALL := hid (all_take_succ xs k (by rw [← HL.out]; exact hlk) HOK.out)
            have SL := hid sl
            clear sl hln
            obtain ⟨x, hx⟩ : ∃ x, x = xs[k]?.getD (0, 0) := ⟨_, rfl⟩
            rw [← hx] at c0 c1 ST GT BAD ALL
            clear hx
            obtain ⟨g, a⟩ := x
            simp only at c0 c1 ST GT
            obtain ⟨S, hS⟩ : ∃ S, S = sumT (xs.take k) := ⟨_, rfl⟩
            obtain ⟨G, hG⟩ : ∃ G, G = gramsT (xs.take k) := ⟨_, rfl⟩
            rw [← hS] at ST SL ⊢
            rw [← hG] at GT SL ⊢
            clear hS hG
            have lw : wr.heap.size < wr.heap.size + 1 := by omega
            by_cases g1 : g < 1
            · have e := hid (BAD.out (by unfold okT; simp only; omega))
              go_wp2
              refine bodyPost_ret (v := .tuple #[.int .i64 0, .int .i64 1]) (by simp [results, Try.results35, go_sem]) rfl ⟨by rw [e.out], (by have hbb := HB.out.size; have h0 := HB.out; repeat (first | exact h0 | refine Below.setCell ?_ (by first | omega | (simp; omega)) _ | refine Below.alloc ?_ (by first | omega | (simp; omega)) _))⟩
            by_cases g2 : 1000000000 < g
            · have e := hid (BAD.out (by unfold okT; simp only; omega))
              go_wp2
              refine bodyPost_ret (v := .tuple #[.int .i64 0, .int .i64 1]) (by simp [results, Try.results35, go_sem]) rfl ⟨by rw [e.out], (by have hbb := HB.out.size; have h0 := HB.out; repeat (first | exact h0 | refine Below.setCell ?_ (by first | omega | (simp; omega)) _ | refine Below.alloc ?_ (by first | omega | (simp; omega)) _))⟩
            by_cases g3 : a < 0
            · have e := hid (BAD.out (by unfold okT; simp only; omega))
              go_wp2
              refine bodyPost_ret (v := .tuple #[.int .i64 0, .int .i64 1]) (by simp [results, Try.results35, go_sem]) rfl ⟨by rw [e.out], (by have hbb := HB.out.size; have h0 := HB.out; repeat (first | exact h0 | refine Below.setCell ?_ (by first | omega | (simp; omega)) _ | refine Below.alloc ?_ (by first | omega | (simp; omega)) _))⟩
            by_cases g4 : 3000 < a
            · have e := hid (BAD.out (by unfold okT; simp only; omega))
              go_wp2
              refine bodyPost_ret (v := .tuple #[.int .i64 0, .int .i64 1]) (by simp [results, Try.results35, go_sem]) rfl ⟨by rw [e.out], (by have hbb := HB.out.size; have h0 := HB.out; repeat (first | exact h0 | refine Below.setCell ?_ (by first | omega | (simp; omega)) _ | refine Below.alloc ?_ (by first | omega | (simp; omega)) _))⟩
            have pl := prod_le (g, a) ⟨by simp only; omega, by simp only; omega, by simp only; omega, by simp only; omega⟩
            simp only at pl
            have h4 := SL.out
            obtain ⟨m, hm'⟩ : ∃ m, m = g * a := ⟨_, rfl⟩
            have e1 : IntKind.i64.wrap (g * a) = g * a := by rw [← hm']; rw [← hm'] at pl; exact IntWalk.i64_in _ (by omega)
            have e2 : IntKind.i64.wrap (S + g * a) = S + g * a := by rw [← hm']; rw [← hm'] at pl; exact IntWalk.i64_in _ (by omega)
            have e3 : IntKind.i64.wrap (G + g) = G + g := IntWalk.i64_in _ (by omega)
            have e4 : IntKind.i64.wrap ((k : Int) + 1) = (k : Int) + 1 := IntWalk.i64_in _ (by omega)
            clear h4 pl hm'
            go_wp2
            go_roundw
            case rel => exact ⟨k + 1, by omega, by go_num, by rw [ST.out], by rw [GT.out], ALL.out ⟨by simp only; omega, by simp only; omega, by simp only; omega, by simp only; omega⟩, (by have hbb := HB.out.size; have h0 := HB.out; repeat (first | exact h0 | refine Below.setCell ?_ (by first | omega | (simp; omega)) _ | refine Below.alloc ?_ (by first | omega | (simp; omega)) _))⟩
            case measure => simp [intOf]; omega
          · have hkl : k = len := by omega
            subst hkl
            have hall : xs.take k = xs := List.take_of_length_le (by rw [← HL.out]; exact Nat.le_refl _)
            rw [hall] at sl
            have SL := hid sl
            have AL := hid (show ∀ x ∈ xs, okT x by have := HOK.out; rw [hall] at this; exact this)
            clear sl hln
            rw [hall]
            obtain ⟨S, hS⟩ : ∃ S, S = sumT xs := ⟨_, rfl⟩
            obtain ⟨G, hG⟩ : ∃ G, G = gramsT xs := ⟨_, rfl⟩
            have RES := hid (show alphaP xs = (meanT S G, 0) by
              unfold alphaP
              rw [if_neg (by rw [← HL.out]; exact hbig), if_neg (by rw [← HL.out]; exact hz), if_pos AL.out, hS, hG])
            rw [← hS] at SL ⊢
            rw [← hG] at SL ⊢
            clear hS hG hall
            have h4 := SL.out
            have hG0 : G ≠ 0 := by omega
            have hG1 : (G == 0) = false := by simp [hG0]
            have q1 : 0 ≤ S.tdiv G := Int.tdiv_nonneg h4.1 (by omega)
            have q2 : S.tdiv G ≤ S := Int.tdiv_le_self _ h4.1
            have r1 : 0 ≤ S.tmod G := Int.tmod_nonneg _ h4.1
            have r2 : S.tmod G < G := Int.tmod_lt_of_pos _ (by omega)
            have e1 : IntKind.i64.wrap (S.tdiv G) = S.tdiv G := IntWalk.i64_in _ (by omega)
            have e2 : IntKind.i64.wrap (S.tmod G) = S.tmod G := IntWalk.i64_in _ (by omega)
            have e3 : IntKind.i64.wrap (2 * S.tmod G) = 2 * S.tmod G := IntWalk.i64_in _ (by omega)
            have e4 : IntKind.i64.wrap (S.tdiv G + 1) = S.tdiv G + 1 := IntWalk.i64_in _ (by omega)
            clear h4
            go_wp2
            go_quiet (fail)
            have em : S.tmod G = S % G := Int.tmod_eq_emod_of_nonneg SL.out.1
            have em2 : (S.tdiv G).tmod 2 = S.tdiv G % 2 := Int.tmod_eq_emod_of_nonneg q1
            have MT := hid (show meanT S G = if 2 * (S % G) > G ∨ (2 * (S % G) = G ∧ S.tdiv G % 2 = 1) then S.tdiv G + 1 else S.tdiv G by rw [meanT, em, em2])
            rw [em] at r1 r2 e2 e3
            clear em em2
            by_cases c1 : G < 2 * (S % G)
            · have M := hid (MT.out.trans (if_pos (.inl c1)))
              go_wp2
              refine bodyPost_ret (v := .tuple #[.int .i64 (S.tdiv G + 1), .int .i64 0]) (by simp [results, Try.results35, go_sem]) rfl ⟨by rw [RES.out, M.out], (Below.trans HB.out ((below_drewN (Below.refl _ _) _).mono HB.out.size))⟩
            · by_cases c2 : 2 * (S % G) = G
              · have b2 : (2 * (S % G) == G) = true := by simp [c2]
                by_cases c3 : S.tdiv G % 2 = 1
                · have b3 : (S.tdiv G % 2 == 1) = true := by simp [c3]
                  have M := hid (MT.out.trans (if_pos (.inr ⟨c2, c3⟩)))
                  clear c2 c3
                  go_wp2
                  refine bodyPost_ret (v := .tuple #[.int .i64 (S.tdiv G + 1), .int .i64 0]) (by simp [results, Try.results35, go_sem]) rfl ⟨by rw [RES.out, M.out], (Below.trans HB.out ((below_drewN (Below.refl _ _) _).mono HB.out.size))⟩
                · have b3 : (S.tdiv G % 2 == 1) = false := by simp [c3]
                  have M := hid (MT.out.trans (if_neg (by rintro (h | h); exact c1 h; exact c3 h.2)))
                  clear c2 c3
                  go_wp2
                  refine bodyPost_ret (v := .tuple #[.int .i64 (S.tdiv G), .int .i64 0]) (by simp [results, Try.results35, go_sem]) rfl ⟨by rw [RES.out, M.out], (Below.trans HB.out ((below_drewN (Below.refl _ _) _).mono HB.out.size))⟩
              · have b2 : (2 * (S % G) == G) = false := by simp [c2]
                have M := hid (MT.out.trans (if_neg (by rintro (h | h); exact c1 h; exact c2 h.1)))
                clear c2
                go_wp2
                refine bodyPost_ret (v := .tuple #[.int .i64 (S.tdiv G), .int .i64 0]) (by simp [results, Try.results35, go_sem]) rfl ⟨by rw [RES.out, M.out], (Below.trans HB.out ((below_drewN (Below.refl _ _) _).mono HB.out.size))⟩
end Go.Proofs.Ytnnbdjfeagcbdaa
