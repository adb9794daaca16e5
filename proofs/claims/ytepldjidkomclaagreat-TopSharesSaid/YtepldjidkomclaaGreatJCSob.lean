/- stableCmpFunc and SortStableFunc. Rows of encoded elements: append, parts. No function of the program in sight. -/
import Derived.Test.YtepldjidkomclaaGreatJCSo9
import Derived.Test.YtepldjidkomclaaGreatJMem
import Derived.Test.YtepldjidkomclaaGreatJCTol
namespace Go.Proofs.YtepldjidkomclaaGreat.Ca
set_option linter.unusedSimpArgs false
set_option linter.unusedVariables false
open Go.RowKit
attribute [local go_sem] Oper.semAt_some
attribute [local go_sem ↓] Go.wp_at_zero Go.wp_at_succ
def StP (g L : Nat) (f : Nat → Int) (cf : Int → Int → Int) (w : World) (e : Ending) (w' : World) : Prop :=
  e = .returned (.tuple #[]) ∧ ∃ f', Row w' g L f' ∧ Good (ltC cf) f f' 0 L ∧ Kept (fun k => k = g) w w'
set_option maxRecDepth 100000 in
set_option maxHeartbeats 8000000 in
theorem stable_calls {w : World} {g L : Nat} {f : Nat → Int} (h : Row w g L f) (hL : L ≤ 1000000) (cap : Nat) {fid : Nat} {cb : Array Value} {cf : Int → Int → Int} {dom : Int → Prop} (hc : CmpF fid cb cf dom g w) (hlt : Swo (ltC cf)) (hdom : ∀ k, k < L → dom (f k)) (hinc : ∀ i j, i < j → j < L → f i < f j) :
    Calls Tryz.prog 103 #[.slice (some ⟨g, 0, none⟩) L cap, .int .i64 L, .func (.func fid) #[] cb] w (StP g L f cf w) := by
  obtain ⟨R, hR⟩ : ∃ R, R = StP g L f cf w := ⟨_, rfl⟩
  have HR := hid hR
  rw [← hR]
  have S0 := hid (show SoS g L f f w w from ⟨h, Kept.refl _ _⟩)
  have HC := hid hc
  have HLT := hid hlt
  have HDOM := hid hdom
  have HINC := hid hinc
  have GD := hid (show ∀ f' x y, Good (ltC cf) f f' x y → y ≤ L → ∀ k, x ≤ k → k < y → dom (f' k) from fun f' x y h1 h2 => dom_of h1.perm (fun k _ k2 => hdom k (by omega)))
  have I0 := hid (Ins.start (lt := ltC cf) f L)
  clear hR h hc hlt hdom hinc
  go_enter Tryz.func103, Tryz.ntmps103
  go_wp2_with fail
  go_loopg [7, 8] (L + 20) (fun k s7 s8 wr => ∃ (a : Nat) (h : Nat → Int), s7 = .int .i64 a ∧ s8 = .int .i64 ((a + 20 : Nat) : Int) ∧ k = L + 20 - a ∧ Ins (ltC cf) f h L a ∧ SoS g L f h w wr)
  case atStart => exact ⟨0, f, rfl, rfl, by omega, I0.out, S0.out⟩
  case round =>
    obtain ⟨a, h, rfl, rfl, hk, ii, ss⟩ := hrel
    have HK := hid hk
    have II := hid ii
    have SS := hid ss
    have hal := ii.le
    obtain ⟨b, hb⟩ : ∃ b, b = a + 20 := ⟨_, rfl⟩
    rw [← hb]
    have HB := hid hb
    clear hk ii ss
    have HD := hid (show ∀ k, a ≤ k → k < L → dom (h k) from fun k k1 k2 => by rw [II.out.rest k k1]; exact HDOM.out k k2)
    have HI := hid (show ∀ i j, a ≤ i → i < j → j < L → h i < h j from fun i j i1 i2 i3 => by rw [II.out.rest i i1, II.out.rest j (by omega)]; exact HINC.out i j i2 i3)
    by_cases hle : b ≤ L
    · have g1 : (b : Int) ≤ (L : Int) := by omega
      have SW := hid (insertion_calls SS.out.row hL (a := a) (b := b) (by omega) hle cap (HC.out.at SS.out.kept) HLT.out (fun k k1 k2 => HD.out k k1 (by omega)) (fun i j i1 i2 i3 => HI.out i j i1 i2 (by omega)))
      have eb : IntKind.i64.wrap ((b : Int) + 20) = ((b + 20 : Nat) : Int) := IntWalk.i64_in _ (by omega)
      clear hb
      go_wp2_with fail
      refine SW.out.mono ?_
      rintro e w2 ⟨rfl, h2, hr2, hf2, hp2, hs2, hk2⟩
      have IX := hid (show Ins (ltC cf) f h2 L b by
        have hb := HB.out
        subst hb
        exact II.out.step hle hf2 hp2 hs2)
      have S2 := hid (show SoS g L f h2 w w2 from ⟨hr2, SS.out.kept.trans hk2 (fun _ _ e => e)⟩)
      clear hr2 hf2 hp2 hs2 hk2
      go_wp2
      go_roundg (L + 20 - b)
      · exact ⟨b, h2, rfl, by go_num, rfl, IX.out, S2.out⟩
      · have := HK.out; have := HB.out; omega
    · have g1 : ¬ (b : Int) ≤ (L : Int) := by omega
      have SW := hid (insertion_calls SS.out.row hL (a := a) (b := L) hal (Nat.le_refl _) cap (HC.out.at SS.out.kept) HLT.out HD.out HI.out)
      clear hb
      go_wp2_with fail
      refine SW.out.mono ?_
      rintro e w2 ⟨rfl, h2, hr2, hf2, hp2, hs2, hk2⟩
      have B2 := hid (show Blk (ltC cf) f h2 L 20 from II.out.last (by have := HB.out; omega) hf2 hp2 hs2)
      have S2 := hid (show SoS g L f h2 w w2 from ⟨hr2, SS.out.kept.trans hk2 (fun _ _ e => e)⟩)
      clear hr2 hf2 hp2 hs2 hk2 II SS SW HD HI I0 S0
      go_wp2_with fail
      go_loopg [6, 7, 8, 9] (L - 20) (fun k s6 s7 s8 s9 wr => ∃ (S : Nat) (h : Nat → Int), s6 = .int .i64 S ∧ 20 ≤ S ∧ k = L - S ∧ Blk (ltC cf) f h L S ∧ SoS g L f h w wr)
      case atStart => exact ⟨20, h2, rfl, Nat.le_refl _, by omega, B2.out, S2.out⟩
      case round =>
        obtain ⟨S, h3, rfl, hS, hk, bb, ss⟩ := hrel
        have HK := hid hk
        have BB := hid bb
        have SS := hid ss
        clear hk bb ss
        by_cases hlt : S < L
        · have g1 : (S : Int) < (L : Int) := by omega
          have P0 := hid (Pass.start (by omega) BB.out)
          have em : IntKind.i64.wrap (2 * (S : Int)) = ((2 * S : Nat) : Int) := IntWalk.i64_in _ (by omega)
          have em2 : IntKind.i64.wrap ((S : Int) * 2) = ((2 * S : Nat) : Int) := by rw [show (S : Int) * 2 = ((2 * S : Nat) : Int) by omega]; exact IntWalk.i64_in _ (by omega)
          obtain ⟨T, hT⟩ : ∃ T, T = 2 * S := ⟨_, rfl⟩
          rw [← hT] at em em2
          have HT := hid hT
          have hT6 : T ≤ 2000000 := by omega
          have hT40 : 40 ≤ T := by omega
          clear hT
          go_wp2_with fail
          go_loopg [7, 8] L (fun k s7 s8 wr => ∃ (a b : Nat) (h : Nat → Int), s7 = .int .i64 a ∧ s8 = .int .i64 b ∧ b = a + T ∧ k = L + T - b ∧ Pass (ltC cf) f h L S a ∧ SoS g L f h w wr)
          case atStart => exact ⟨0, T, h3, rfl, rfl, by omega, by omega, P0.out, SS.out⟩
          case round =>
            obtain ⟨a, b, h4, rfl, rfl, hb, hk2, pp, ss2⟩ := hrel
            have HK2 := hid hk2
            have HB2 := hid hb
            have PP := hid pp
            have S4 := hid ss2
            have hal2 := pp.le
            clear hk2 pp ss2 P0 SS
            obtain ⟨m, hm⟩ : ∃ m, m = a + S := ⟨_, rfl⟩
            have em3 : IntKind.i64.wrap ((a : Int) + (S : Int)) = (m : Int) := by rw [show (a : Int) + (S : Int) = (m : Int) by omega]; exact IntWalk.i64_in _ (by omega)
            have HM := hid hm
            by_cases hle2 : b ≤ L
            · have g2 : (b : Int) ≤ (L : Int) := by omega
              have eb : IntKind.i64.wrap ((b : Int) + (T : Int)) = ((b + T : Nat) : Int) := IntWalk.i64_in _ (by omega)
              have PR := hid (PP.out.parts (by have := HT.out; omega))
              rw [show a + S = m from hm.symm, show min (m + S) L = b by have := HT.out; omega] at PR
              have SW := hid (sym_said (b - a) (Nat.le_refl _) S4.out.row hL (a := a) (m := m) (b := b) (by omega) (by have := HT.out; omega) hle2 cap (HC.out.at S4.out.kept) HLT.out
                (fun k k1 k2 => by
                  by_cases q : k < m
                  · exact GD.out _ _ _ PR.out.1 (by have := HT.out; omega) k k1 q
                  · exact GD.out _ _ _ PR.out.2 hle2 k (by omega) k2)
                PR.out.1.srt PR.out.2.srt (Good.early (fun i j i1 i2 => HINC.out i j i1 (by omega)) PR.out.1 PR.out.2))
              clear hb hm
              go_wp2_with fail
              refine SW.out.mono ?_
              rintro e w5 ⟨rfl, h5, hr5, hm5, hk5⟩
              have P5 := hid (show Pass (ltC cf) f h5 L S b by
                have hb := HB2.out
                rw [HT.out] at hb
                subst hb
                exact PP.out.step (by omega) hle2 hm5)
              have S5 := hid (show SoS g L f h5 w w5 from ⟨hr5, S4.out.kept.trans hk5 (fun _ _ e => e)⟩)
              clear hr5 hm5 hk5
              go_wp2
              go_roundg (L + T - (b + T))
              · exact ⟨b, b + T, h5, rfl, by go_num, rfl, rfl, P5.out, S5.out⟩
              · have := HK2.out; have := HB2.out; omega
            · have g2 : ¬ (b : Int) ≤ (L : Int) := by omega
              by_cases hml : m < L
              · have g3 : (m : Int) < (L : Int) := by omega
                have PR := hid (PP.out.parts (by omega))
                rw [show a + S = m from hm.symm, show min (m + S) L = L by have := HT.out; omega] at PR
                have SW := hid (sym_said (L - a) (Nat.le_refl _) S4.out.row hL (a := a) (m := m) (b := L) (by omega) hml (Nat.le_refl _) cap (HC.out.at S4.out.kept) HLT.out
                  (fun k k1 k2 => by
                    by_cases q : k < m
                    · exact GD.out _ _ _ PR.out.1 (by omega) k k1 q
                    · exact GD.out _ _ _ PR.out.2 (Nat.le_refl _) k (by omega) k2)
                  PR.out.1.srt PR.out.2.srt (Good.early (fun i j i1 i2 => HINC.out i j i1 i2) PR.out.1 PR.out.2))
                have ham : a ≤ m := by omega
                clear hb hm
                go_wp2_with fail
                refine SW.out.mono ?_
                rintro e w5 ⟨rfl, h5, hr5, hm5, hk5⟩
                have B5 := hid (show Blk (ltC cf) f h5 L T by
                  rw [HT.out]
                  exact PP.out.last (by omega) (by have := HB2.out; have := HT.out; omega) (fun k k1 => hm5.far k (.inl k1)) (Good.merge ham (by omega) PR.out.1 PR.out.2 hm5))
                have S5 := hid (show SoS g L f h5 w w5 from ⟨hr5, S4.out.kept.trans hk5 (fun _ _ e => e)⟩)
                clear hr5 hm5 hk5
                go_wp2
                go_roundg (L - T)
                · exact ⟨T, h5, rfl, by omega, rfl, B5.out, S5.out⟩
                · have := HK.out; have := HT.out; omega
              · have g3 : ¬ (m : Int) < (L : Int) := by omega
                have B5 := hid (show Blk (ltC cf) f h4 L T by
                  rw [HT.out]
                  have h1 := PP.out.rest a (Nat.dvd_trans ⟨2, Nat.mul_comm _ _⟩ PP.out.dv) (Nat.le_refl _) hal2
                  rw [Nat.min_eq_right (by omega)] at h1
                  exact PP.out.last (by omega) (by have := HT.out; omega) (fun k k1 => rfl) h1)
                clear hb hm
                go_wp2
                go_roundg (L - T)
                · exact ⟨T, h4, rfl, by omega, rfl, B5.out, S4.out⟩
                · have := HK.out; have := HT.out; omega
        · have g1 : ¬ (S : Int) < (L : Int) := by omega
          have FN := hid (show R (.returned (.tuple #[])) wr by rw [HR.out]; exact ⟨rfl, h3, SS.out.row, BB.out.all (by omega), SS.out.kept⟩)
          go_wp2
          first | exact FN.out | (go_end0; exact FN.out)
set_option maxRecDepth 100000 in
set_option maxHeartbeats 1000000 in
theorem sortStable_calls {w : World} {g L : Nat} {f : Nat → Int} (h : Row w g L f) (hL : L ≤ 1000000) (cap : Nat) {fid : Nat} {cb : Array Value} {cf : Int → Int → Int} {dom : Int → Prop} (hc : CmpF fid cb cf dom g w) (hlt : Swo (ltC cf)) (hdom : ∀ k, k < L → dom (f k)) (hinc : ∀ i j, i < j → j < L → f i < f j) :
    Calls Tryz.prog 76 #[.slice (some ⟨g, 0, none⟩) L cap, .func (.func fid) #[] cb] w (StP g L f cf w) := by
  obtain ⟨R, hR⟩ : ∃ R, R = StP g L f cf w := ⟨_, rfl⟩
  have HR := hid hR
  rw [← hR]
  have SW := hid (fun w2 (hw : Below w.heap.size w w2) => stable_calls (h.below hw) hL cap (hc.at (Kept.of_below hw)) hlt hdom hinc)
  clear hR h hc hlt hdom hinc
  go_enter Tryz.func76, Tryz.ntmps76
  go_wp2_with fail
  refine (SW.out _ (Below.refl w.heap.size w)).mono ?_
  rintro e w2 ⟨rfl, h2, hr2, hg2, hk2⟩
  have FN := hid (show R (.returned (.tuple #[])) w2 by rw [HR.out]; exact ⟨rfl, h2, hr2, hg2, hk2⟩)
  clear hr2 hg2 hk2
  go_wp2
  first | exact FN.out | (go_end0; exact FN.out)
end Go.Proofs.YtepldjidkomclaaGreat.Ca
namespace Go.Proofs.YtepldjidkomclaaGreat.Ca
set_option linter.unusedSimpArgs false
set_option linter.unusedVariables false
open Go.RowKit
theorem _root_.Go.Proofs.YtepldjidkomclaaGreat.Kept.of_grown {w w' : World} {r : Option Nat} (h : w.grownBy w' r) : Kept (fun k => some k = r) w w' :=
  ⟨h.os, h.tape, h.output, h.size, fun k hk hx => h.block k hk hx⟩
theorem own_lt {α : Type} {enc : α → List Value} {sz B : Nat} {e : TypeId} {w : World} {v : Value} {l : List α} (h : OwnE enc sz e B w v l) {x : Nat} (hx : v.ownBlock = some x) : ∃ cs, Cells w x cs e := by
  rcases h.2 with ⟨rfl, _⟩ | ⟨g, cap, cur, rfl, _, hg, _⟩
  · cases hx
  · injection hx with hx
    subst hx
    exact ⟨cur, hg⟩
def SrcE {α : Type} (enc : α → List Value) (sz : Nat) (w : World) (u : Value) (m : List α) : Prop :=
  (u = .slice none 0 0 ∧ m = []) ∨ ∃ b off c, u = .slice (some ⟨b, off, none⟩) m.length c ∧ ∀ j x, (flatE enc m)[j]? = some x → w.cell? ⟨b, off + j, none⟩ = some x
theorem info_of {e : TypeId} {z : Value} {sz by' : Nat} (h : (Tryz.prog.info? e).map (fun i => (i.zero, i.size, i.bytes)) = some (some z, sz, by')) : ∃ i, Tryz.prog.info? e = some i ∧ i.zero = some z ∧ i.size = sz ∧ i.bytes = by' := by
  cases hi : Tryz.prog.info? e with
  | none => rw [hi] at h; cases h
  | some i =>
    rw [hi] at h
    simp only [Option.map_some, Option.some.injEq, Prod.mk.injEq] at h
    exact ⟨i, rfl, h.1, h.2.1, h.2.2⟩
theorem own_append {α : Type} {enc : α → List Value} {sz : Nat} {t e ty : TypeId} {z : Value} {by' : Nat} (ht : Tryz.prog.underlying t = some (.slice e)) (hi : (Tryz.prog.info? e).map (fun i => (i.zero, i.size, i.bytes)) = some (some z, sz, by')) (hz : z.cells.size = sz) (hsz : 0 < sz)
    (hen : ∀ a, (enc a).length = sz) (hone : ∀ a, ∀ u ∈ enc a, u.oneCell' = true) {B : Nat} {w : World} {v : Value} {l : List α} (h : OwnE enc sz e B w v l) (hB : B ≤ w.heap.size) {u : Value} {m : List α} (hu : SrcE enc sz w u m) (hn : l.length + m.length ≤ maxLen) (hby : (l.length + m.length) * by' ≤ 140737488355328) :
    ∃ v' w', (Builtin.append_ #[t, t] ty #[v, u]).run Tryz.prog w = .ok v' w' ∧ OwnE enc sz e B w' v' (l ++ m) ∧ Kept (fun k => some k = v.ownBlock) w w' ∧ (v'.ownBlock = v.ownBlock ∨ v'.ownBlock = some w.heap.size) := by
  obtain ⟨i, h1, h2, h3, h4⟩ := info_of hi
  rcases hu with ⟨rfl, rfl⟩ | ⟨b, off, c, rfl, hc⟩
  · refine ⟨v, w, run_append_owned_none (P := Tryz.prog) (w := w) B t ty e i sz ht h1 v l.length (flatE enc l) h, by rw [List.append_nil]; exact h, Kept.refl _ _, .inl rfl⟩
  · obtain ⟨v', w', r1, r2, r3, _, r5⟩ := run_append_own_at w B t ty e i z sz by' ht h1 h2 h3 h4 hz hsz v l.length (flatE enc l) h ⟨b, off, none⟩ m.length c (flatE enc m) (flatE_length hen m)
      (fun j x hx => by rw [show (⟨b, off, none⟩ : Addr).add j = ⟨b, off + j, none⟩ by unfold Addr.add; split <;> simp_all]; exact hc j x hx)
      (fun x hx => by obtain ⟨a, _, ha⟩ := List.mem_flatMap.1 hx; exact hone a x ha) hn hby hB
    refine ⟨v', w', r1, ?_, Kept.of_grown r3, r5⟩
    unfold OwnE
    rw [flatE_append, List.length_append]
    exact r2
theorem _root_.Go.Proofs.YtepldjidkomclaaGreat.OwnE.part {α : Type} {enc : α → List Value} {sz : Nat} (hen : ∀ a, (enc a).length = sz) {e : TypeId} {B : Nat} {w : World} {g cap : Nat} {n : Nat} {pre m post : List α} (h : OwnE enc sz e B w (.slice (some ⟨g, 0, none⟩) n cap) (pre ++ (m ++ post))) (hN : n = (pre ++ (m ++ post)).length) (off c : Nat) (ho : 0 < m.length → off = pre.length * sz) : SrcE enc sz w (.slice (some ⟨g, off, none⟩) m.length c) m := by
  subst hN
  refine .inr ⟨g, off, c, rfl, fun j x hx => ?_⟩
  have hj : j < m.length * sz := by rw [← flatE_length hen m]; exact (List.getElem?_eq_some_iff.1 hx).1
  have h0 : 0 < m.length := by
    rcases Nat.eq_zero_or_pos m.length with h | h
    · rw [h] at hj; omega
    · exact h
  rw [ho h0]
  have hlen : pre.length * sz + j < (pre ++ (m ++ post)).length * sz := by
    rw [List.length_append, List.length_append, Nat.add_mul, Nat.add_mul]; omega
  rw [World.ownsRow.cellAt h _ hlen]
  rw [flatE_append, flatE_append, List.getElem?_append_right (by rw [flatE_length hen]; omega), flatE_length hen, show pre.length * sz + j - pre.length * sz = j by omega, List.getElem?_append_left (by rw [flatE_length hen]; exact hj)]
  exact hx
theorem SrcE.one {α : Type} {enc : α → List Value} {sz : Nat} {w : World} {B : Nat} {a : α} {ty : TypeId} (h : Cells w B (enc a).toArray ty) : SrcE enc sz w (.slice (some ⟨B, 0, none⟩) 1 1) [a] := by
  refine .inr ⟨B, 0, 1, rfl, fun j x hx => ?_⟩
  rw [Nat.zero_add, h.cell]
  have e : flatE enc [a] = enc a := by simp [flatE]
  rw [e] at hx
  simpa using hx
theorem _root_.Go.Proofs.YtepldjidkomclaaGreat.OwnE.reads {α : Type} {enc : α → List Value} {sz : Nat} {e : TypeId} (hlen : ∀ a, (enc a).length = sz) {B : Nat} {W : World} {v : Value} {l : List α} (h : OwnE enc sz e B W v l) (hm : l.length ≤ 9223372036854775807) : ReadsE enc sz W v l := by
  rcases h.2 with ⟨h1, h2⟩ | ⟨g, cap, cur, hv, hb, hg, h3⟩
  · have : l = [] := List.length_eq_zero_iff.1 h2
    subst this; subst h1
    exact ReadsE.nil _ _ _
  · subst hv
    refine ⟨hm, _, cap, g, 0, rfl, fun _ => ⟨rfl, (Array.getElem?_eq_some_iff.1 hg).1⟩, fun k hk j hj => ?_⟩
    rw [Nat.zero_add, World.ownsRow.cellAt h _ (by have : k * sz + sz ≤ l.length * sz := by { rw [← Nat.succ_mul]; exact Nat.mul_le_mul_right _ hk }; omega), flatE_get hlen l k hk j hj]
theorem _root_.Go.Proofs.YtepldjidkomclaaGreat.OwnE.far {α : Type} {enc : α → List Value} {sz : Nat} {e : TypeId} {B : Nat} {w w' : World} {v : Value} {l : List α} (h : OwnE enc sz e B w v l) {r : Nat} {cs : Array Value} {ty : TypeId} (hr : Cells w r cs ty) (ht : e ≠ ty) (hk : Kept (fun k => k = r) w w') : OwnE enc sz e B w' v l :=
  OwnE.kept h hk (fun b hb => by obtain ⟨cs', hcs⟩ := own_lt h hb; exact hcs.ne hr ht)
theorem _root_.Go.Proofs.YtepldjidkomclaaGreat.OwnE.cellsAt {α : Type} {enc : α → List Value} {sz B : Nat} {e : TypeId} {w : World} {g n cap : Nat} {l : List α} (hlen : ∀ a, (enc a).length = sz) (h : OwnE enc sz e B w (.slice (some ⟨g, 0, none⟩) n cap) l) :
    n = l.length ∧ g < w.heap.size ∧ B ≤ g ∧ ∀ (k : Nat) (hk : k < l.length) (j : Nat), j < sz → w.cell? ⟨g, k * sz + j, none⟩ = (enc l[k])[j]? := by
  rcases h.2 with ⟨h1, h2⟩ | ⟨g', cap', cur, hv, hb, hg, h3⟩
  · cases h1
  · cases hv
    refine ⟨rfl, (Array.getElem?_eq_some_iff.1 hg).1, hb, fun k hk j hj => ?_⟩
    rw [World.ownsRow.cellAt h _ (by have : k * sz + sz ≤ l.length * sz := by { rw [← Nat.succ_mul]; exact Nat.mul_le_mul_right _ hk }; omega), flatE_get hlen l k hk j hj]
end Go.Proofs.YtepldjidkomclaaGreat.Ca
