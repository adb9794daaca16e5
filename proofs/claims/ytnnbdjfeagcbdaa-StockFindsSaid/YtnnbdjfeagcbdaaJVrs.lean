/- The reference's Version; Changed at versions that there are not; two lists of spans compared. The reference: Changed. -/
import Derived.Test.YtnnbdjfeagcbdaaJDo1
namespace Go.Proofs.Ytnnbdjfeagcbdaa
set_option linter.unusedSimpArgs false
set_option linter.unusedVariables false
open Go.RowKit Go.Shelf
attribute [local go_sem] Oper.semAt_some

/-- Is there such a version? -/
def verB (n : Nat) (v : Int) : Bool := decide (0 ≤ v) && decide (v < (n : Int))
theorem verB_true {n : Nat} {v : Int} (h : 0 ≤ v ∧ v < (n : Int)) : verB n v = true := by unfold verB; simp [h.1, h.2]
theorem verB_false {n : Nat} {v : Int} (h : ¬ (0 ≤ v ∧ v < (n : Int))) : verB n v = false := by
  unfold verB
  by_cases h1 : 0 ≤ v
  · have h2 : ¬ v < (n : Int) := fun h2 => h ⟨h1, h2⟩
    simp [h2]
  · simp [h1]
theorem atE_ver (n : Nat) (v : Int) : atE n v true = if verB n v = true then 0 else 4 := by
  unfold atE verB
  by_cases h1 : 0 ≤ v
  · by_cases h2 : v < (n : Int)
    · rw [if_neg (by omega)]; simp [h1, h2]
    · rw [if_pos (by omega)]; simp [h2]
  · rw [if_pos (by omega)]; simp [h1]

set_option maxRecDepth 100000 in
set_option maxHeartbeats 4000000 in
theorem changed_bad {B : Nat} {W w : World} {sB vB : Nat} {vs : List T} (h : Reg B W w sB vB vs) (hn : vs.length ≤ 1000) {a b : Int} (hab : verB vs.length a = false ∨ verB vs.length a = true ∧ verB vs.length b = false) :
    Calls Try.prog 42 #[.pointer (some ⟨sB, 0, none⟩), .int .i64 a, .int .i64 b] w fun e w' => e = .returned (.tuple #[.slice none 0 0, .int .i64 4]) ∧ Below w.heap.size w w' := by
  have RG := hid h
  clear h
  rcases hab with ha | ⟨ha, hb⟩
  · have HA := hid (show atE vs.length a true = 4 by rw [atE_ver, ha]; rfl)
    clear ha
    go_enter Try.func42, Try.ntmps42
    go_wp2_with fail
    refine (at_calls w sB vB vs RG.out.st (by omega) a true).mono ?_
    rintro e w1 ⟨hw1, pa, rfl, hpa⟩
    rw [hw1, HA.out]
    clear hw1 hpa
    go_wp2_with fail
    exact bodyPost_ret (v := .tuple #[.slice none 0 0, .int .i64 4]) (by simp [results, Try.results42, go_sem]) rfl ⟨rfl, Below.refl _ _⟩
  · have HA := hid (show atE vs.length a true = 0 by rw [atE_ver, ha]; rfl)
    have HB := hid (show atE vs.length b true = 4 by rw [atE_ver, hb]; rfl)
    clear ha hb
    go_enter Try.func42, Try.ntmps42
    go_wp2_with fail
    refine (at_calls w sB vB vs RG.out.st (by omega) a true).mono ?_
    rintro e w1 ⟨hw1, pa, rfl, hpa⟩
    rw [hw1, HA.out]
    clear hw1 hpa
    go_wp2_with fail
    refine (at_calls w sB vB vs RG.out.st (by omega) b true).mono ?_
    rintro e w1 ⟨hw1, pb, rfl, hpa⟩
    rw [hw1, HB.out]
    clear hw1 hpa
    go_wp2_with fail
    exact bodyPost_ret (v := .tuple #[.slice none 0 0, .int .i64 4]) (by simp [results, Try.results42, go_sem]) rfl ⟨rfl, Below.refl _ _⟩

set_option maxRecDepth 100000 in
set_option maxHeartbeats 4000000 in
theorem version_rcalls (w : World) (v : Value) (xs : List (List Pc)) (hv : RefAt w v xs) (hn : xs.length ≤ 1000) (a : Int) :
    Calls Try.prog 43 #[v, .int .i64 a] w fun e w' => ∃ u, e = .returned (.tuple #[u, .bool (verB xs.length a)]) ∧ (verB xs.length a = true → RunsV 0 w' u (xs[a.toNat]?.getD [])) ∧ Below w.heap.size w w' := by
  obtain ⟨b, cap, us, rfl, hb, hu, hk⟩ := hv.cell
  have FULL := hid hv.full
  obtain ⟨n, hnn⟩ : ∃ n, n = xs.length := ⟨_, rfl⟩
  rw [← hnn] at hn hk ⊢
  have HK := hid hk
  clear hk hu hnn hv
  by_cases h0 : 0 ≤ a
  · by_cases h1 : a < (n : Int)
    · rw [verB_true ⟨h0, h1⟩]
      obtain ⟨m, rfl⟩ := Int.eq_ofNat_of_zero_le h0
      rw [Int.toNat_natCast]
      have hmn : m < n := by omega
      obtain ⟨u, hue⟩ : ∃ u, u = us[m]?.getD (.slice none 0 0) := ⟨_, rfl⟩
      have hk := HK.out m hmn
      rw [← hue] at hk
      have c0 := hk.1
      have RV := hid hk.2
      have g1 : decide ((m : Int) < 0) = false := by simp
      have g2 : decide ((n : Int) ≤ (m : Int)) = false := by simp; omega
      have n2 : (0 : Int) ≤ (m : Int) := by omega
      have n3 : (m : Int) < (n : Int) := by omega
      clear hk hue h0 h1
      go_enter Try.func43, Try.ntmps43
      go_wp2_with fail
      exact bodyPost_ret (v := .tuple #[u, .bool true]) (by simp [results, Try.results43, go_sem]) rfl ⟨u, rfl, fun _ => RV.out.below ((Below.refl _ _).alloc (Nat.le_refl _) _), (Below.refl _ _).alloc (Nat.le_refl _) _⟩
    · rw [verB_false (fun h => h1 h.2)]
      have g1 : decide (a < 0) = false := by simp; omega
      have g2 : decide ((n : Int) ≤ a) = true := by simp; omega
      clear h0 h1
      go_enter Try.func43, Try.ntmps43
      go_wp2_with fail
      exact bodyPost_ret (v := .tuple #[.slice none 0 0, .bool false]) (by simp [results, Try.results43, go_sem]) rfl ⟨_, rfl, fun h => by simp at h, (Below.refl _ _).alloc (Nat.le_refl _) _⟩
  · rw [verB_false (fun h => h0 h.1)]
    have g1 : decide (a < 0) = true := by simp; omega
    clear h0
    go_enter Try.func43, Try.ntmps43
    go_wp2_with fail
    exact bodyPost_ret (v := .tuple #[.slice none 0 0, .bool false]) (by simp [results, Try.results43, go_sem]) rfl ⟨_, rfl, fun h => by simp at h, (Below.refl _ _).alloc (Nat.le_refl _) _⟩

theorem SpansV.cells {B : Nat} {w : World} {v : Value} {l : List (Int × Int)} (h : OwnE encS 2 37 B w v l) : ∃ p cap b, v = .slice p l.length cap ∧ (0 < l.length → p = some ⟨b, 0, none⟩ ∧ B ≤ b ∧ b < w.heap.size) ∧
    ∀ (k : Nat) (hk : k < l.length), w.cell? ⟨b, k * 2, none⟩ = some (.int .i64 l[k].1) ∧ w.cell? ⟨b, k * 2 + 1, none⟩ = some (.int .i64 l[k].2) := by
  rcases h.2 with ⟨h1, h2⟩ | ⟨g, cap, cur, hv, hb, hg, h3⟩
  · exact ⟨none, 0, 0, by rw [h1, h2], fun h0 => by omega, fun k hk => by omega⟩
  · subst hv
    have key : ∀ (k : Nat) (hk : k < l.length) (j : Nat), j < 2 → w.cell? ⟨g, k * 2 + j, none⟩ = (encS l[k])[j]? := fun k hk j hj => by
      rw [World.ownsRow.cellAt h _ (by have : k * 2 + 2 ≤ l.length * 2 := by { rw [← Nat.succ_mul]; exact Nat.mul_le_mul_right _ hk }; omega), flatE_get encS_len l k hk j hj]
    refine ⟨_, cap, g, rfl, fun _ => ⟨rfl, hb, (Array.getElem?_eq_some_iff.1 hg).1⟩, fun k hk => ?_⟩
    have k0 := key k hk 0 (by omega)
    have k1 := key k hk 1 (by omega)
    simp [encS] at k0 k1
    exact ⟨k0, k1⟩

set_option maxRecDepth 100000 in
set_option maxHeartbeats 4000000 in
theorem spans_same (w : World) (u v : Value) (l : List (Int × Int)) (hu : OwnE encS 2 37 0 w u l) (hv : OwnE encS 2 37 0 w v l) (hl : l.length ≤ 1000000) :
    Calls Try.prog 41 #[u, v] w fun e w' => e = .returned (.bool true) ∧ Below w.heap.size w w' := by
  obtain ⟨p, cap, b, rfl, hp, hc⟩ := SpansV.cells hv
  obtain ⟨p2, cap2, b2, rfl, hp2, hc2⟩ := SpansV.cells hu
  obtain ⟨n, hn⟩ : ∃ n, n = l.length := ⟨_, rfl⟩
  rw [← hn] at hp hp2 hl ⊢
  have HP := hid hp
  have HC := hid hc
  have HP2 := hid hp2
  have HC2 := hid hc2
  have HN := hid hn
  have hnn : ((n : Int) == (n : Int)) = true := by simp
  have hnm : ((n : Int) != (n : Int)) = false := by simp
  clear hp hc hn hp2 hc2 hu hv
  go_enter Try.func41, Try.ntmps41
  go_wp2_with fail
  go_loopg [5] n (fun k s5 wr => ∃ i : Nat, i + k = n ∧ s5 = .int .i64 i ∧ Below w.heap.size w wr)
  case atStart => exact ⟨0, by omega, rfl, Below.refl _ _⟩
  case round =>
    obtain ⟨i, hik, rfl, hb⟩ := hrel
    have HB := hid hb
    have hsz := hb.size
    by_cases hi : i < n
    · have hil : i < l.length := by rw [← HN.out]; exact hi
      obtain ⟨rfl, _, hbl⟩ := HP.out (by omega)
      obtain ⟨rfl, _, hbl2⟩ := HP2.out (by omega)
      obtain ⟨d0, d1⟩ := HC.out i hil
      obtain ⟨c0, c1⟩ := HC2.out i hil
      obtain ⟨r, hr⟩ : ∃ r, r = l[i] := ⟨_, rfl⟩
      rw [← hr] at d0 d1 c0 c1
      have e0 : wr.cell? ⟨b2, i * 2, none⟩ = some (.int .i64 r.1) := (hb.cell (p := ⟨b2, i * 2, none⟩) hbl2).trans c0
      have e1 : wr.cell? ⟨b2, i * 2 + 1, none⟩ = some (.int .i64 r.2) := (hb.cell (p := ⟨b2, i * 2 + 1, none⟩) hbl2).trans c1
      have f0 : wr.cell? ⟨b, i * 2, none⟩ = some (.int .i64 r.1) := (hb.cell (p := ⟨b, i * 2, none⟩) hbl).trans d0
      have f1 : wr.cell? ⟨b, i * 2 + 1, none⟩ = some (.int .i64 r.2) := (hb.cell (p := ⟨b, i * 2 + 1, none⟩) hbl).trans d1
      have l1 : b2 < wr.heap.size := Nat.lt_of_lt_of_le hbl2 hsz
      have l2 : b < wr.heap.size := Nat.lt_of_lt_of_le hbl hsz
      have i64 : IntKind.i64.wrap ((i : Int) + 1) = (i : Int) + 1 := IntWalk.i64_in _ (by omega)
      have g2 : decide ((i : Int) < (n : Int)) = true := by simpa using hi
      have n2 : (0 : Int) ≤ (i : Int) := by omega
      have n3 : (i : Int) < (n : Int) := by omega
      have he : ∀ w, (Op.equalIn 10000 37 (.agg #[.int .i64 r.1, .int .i64 r.2]) (.agg #[.int .i64 r.1, .int .i64 r.2])).run Try.prog w = .ok true w := fun w => (run_eqSpan r.1 r.2 r.1 r.2 w).trans (by simp)
      clear hr hb d0 d1 c0 c1
      go_wp2
      go_big_quiet (fail)
      go_wp2
      go_roundg (gk - 1)
      case measure => omega
      case rel => exact ⟨i + 1, by omega, rfl, drewN_below HB.out nq⟩
    · have g2 : decide ((i : Int) < (n : Int)) = false := by simpa using hi
      clear hb
      go_wp2
      refine bodyPost_ret (v := .bool true) (by simp [results, Try.results41, go_sem]) rfl ⟨rfl, HB.out⟩
end Go.Proofs.Ytnnbdjfeagcbdaa
namespace Go.Proofs.Ytnnbdjfeagcbdaa
set_option linter.unusedSimpArgs false
set_option linter.unusedVariables false
open Go.RowKit Go.Shelf
attribute [local go_sem] Oper.semAt_some

theorem runs_len : ∀ {l : List (Int × Int)} {a b : Int}, Runs l a b → a ≤ b + 1 → (l.length : Int) ≤ b + 1 - a
  | [], a, b, _, h => by simp; omega
  | s :: l, a, b, ⟨h1, h2, h3, h4⟩, h => by
    have := runs_len h4
    by_cases hx : s.1 + s.2 + 1 ≤ b + 1
    · have := this hx
      rw [List.length_cons]
      omega
    · cases l with
      | nil => simp; omega
      | cons t l =>
        obtain ⟨k1, k2, k3, k4⟩ := h4
        omega
theorem runs_grow {la lb : List Pc} {out : List (Int × Int)} {a en : Int} (ha : 1 ≤ a) (hae : a < en) (hr : Runs out 1 (a - 1)) (hi : ∀ n, inS out n ↔ 1 ≤ n ∧ n < a ∧ valL la n ≠ valL lb n)
    (hA : ∀ m, a ≤ m → m < en → valL la m = valL la a) (hB : ∀ m, a ≤ m → m < en → valL lb m = valL lb a) :
    Runs (if valL la a = valL lb a then out else extL out (a, en - a)) 1 (en - 1) ∧ ∀ n, inS (if valL la a = valL lb a then out else extL out (a, en - a)) n ↔ 1 ≤ n ∧ n < en ∧ valL la n ≠ valL lb n := by
  split
  · rename_i he
    refine ⟨hr.up (by omega), fun n => (hi n).trans ⟨fun h => ⟨h.1, by omega, h.2.2⟩, fun h => ⟨h.1, ?_, h.2.2⟩⟩⟩
    rcases Int.lt_or_le n a with hn | hn
    · exact hn
    · exact absurd (by rw [hA n hn h.2.1, hB n hn h.2.1, he]) h.2.2
  · rename_i he
    have e := extL_runs (l := out) (a := 1) (b := a - 1) (x := a) (y := en - a) hr (by omega) ha (by omega)
    refine ⟨e.1.up (by omega), fun n => (e.2 n).trans ?_⟩
    rw [hi n]
    constructor
    · rintro (h | h)
      · exact ⟨h.1, by omega, h.2.2⟩
      · refine ⟨by omega, by omega, ?_⟩
        rw [hA n h.1 (by omega), hB n h.1 (by omega)]
        exact he
    · rintro ⟨k1, k2, k3⟩
      rcases Int.lt_or_le n a with hn | hn
      · exact .inl ⟨k1, hn, k3⟩
      · exact .inr ⟨hn, by omega⟩

set_option maxRecDepth 100000 in
set_option maxHeartbeats 8000000 in
theorem rchanged_calls (w : World) (v1 v2 : Value) (la lb : List Pc) (h1 : RunsV 0 w v1 la) (h2 : RunsV 0 w v2 lb) (l1 : la.length ≤ 1000000) (l2 : lb.length ≤ 1000000) (r1 : RunsP la) (r2 : RunsP lb) :
    Calls Try.prog 44 #[v1, v2] w fun e w' => ∃ u R, e = .returned u ∧ OwnE encS 2 37 w.heap.size w' u R ∧ (Runs R 1 1000000 ∧ ∀ n, inS R n ↔ 1 ≤ n ∧ n ≤ 1000000 ∧ valL la n ≠ valL lb n) ∧ Below w.heap.size w w' := by
  obtain ⟨i0, hi, hz0, hz1, hz2⟩ := info_parts info_span
  have HV1 := hid h1
  have HV2 := hid h2
  have R1 := hid r1
  have R2 := hid r2
  clear h1 h2 r1 r2
  go_enter Try.func44, Try.ntmps44
  go_wp2_with fail
  go_loopg [5, 6] 1000000 (fun k s5 s6 wr => ∃ (a : Int) (out : List (Int × Int)), s6 = .int .i64 a ∧ 1 ≤ a ∧ a ≤ 1000001 ∧ k = (1000001 - a).toNat ∧ OwnE encS 2 37 w.heap.size wr s5 out ∧ Runs out 1 (a - 1) ∧ (∀ n, inS out n ↔ 1 ≤ n ∧ n < a ∧ valL la n ≠ valL lb n) ∧ Below w.heap.size w wr)
  case atStart => exact ⟨1, [], rfl, by omega, by omega, rfl, OwnE.nil _ _, trivial, fun n => ⟨fun h => h.elim, fun h => by omega⟩, Below.refl _ _⟩
  case round =>
    obtain ⟨a, out, rfl, ha1, ha2, hk, hu, hruns, hin, hb⟩ := hrel
    have HU := hid hu
    have RUN := hid hruns
    have HIN := hid hin
    have HB := hid hb
    have HK := hid hk
    have hsz := hb.size
    clear hu hruns hin hb hk
    by_cases ha : a ≤ 1000000
    · have g1 : decide (a ≤ 1000000) = true := by simpa using ha
      obtain ⟨ea1, ea2, ea3⟩ := edge_spec (l := la) ha
      obtain ⟨eb1, eb2, eb3⟩ := edge_spec (l := lb) ha
      obtain ⟨ea, hea⟩ : ∃ ea, ea = edgeL la a := ⟨_, rfl⟩
      obtain ⟨eb, heb⟩ : ∃ eb, eb = edgeL lb a := ⟨_, rfl⟩
      rw [← hea] at ea1 ea2 ea3
      rw [← heb] at eb1 eb2 eb3
      obtain ⟨en, hen⟩ : ∃ en, en = min ea eb := ⟨_, rfl⟩
      have EN := hid hen
      have hen1 : a < en ∧ en ≤ 1000001 := by omega
      have EA := hid (show ∀ m, a ≤ m → m < en → valL la m = valL la a from fun m m1 m2 => ea3 m m1 (by omega))
      have EB := hid (show ∀ m, a ≤ m → m < en → valL lb m = valL lb a from fun m m1 m2 => eb3 m m1 (by omega))
      have GROW := hid (runs_grow ha1 hen1.1 RUN.out HIN.out EA.out EB.out)
      have HEA := hid hea
      have HEB := hid heb
      have C1 := hid (fun (wx : World) (hx : Below w.heap.size w wx) => show RunsV 0 wx v1 la from HV1.out.below hx)
      have C2 := hid (fun (wx : World) (hx : Below w.heap.size w wx) => show RunsV 0 wx v2 lb from HV2.out.below hx)
      have hol : out.length ≤ 1000000 := by have := runs_len RUN.out (by omega); omega
      clear ea3 eb3 hen hea heb
      go_upto_region 4 with fail
      go_cut [7] (fun s7 wx => s7 = .int .i64 en ∧ OwnE encS 2 37 w.heap.size wx u5 out ∧ Below w.heap.size w wx)
      case first =>
        go_wp2_with fail
        refine (edge_rcalls _ v1 la (C1.out _ HB.out) l1 R1.out a).mono ?_
        rintro e w2 ⟨rfl, hb2⟩
        rw [← HEA.out]
        have HB2 := hid (HB.out.trans (hb2.mono hsz))
        have HU2 := hid (HU.out.below (hb2))
        clear hb2
        go_wp2_with fail
        refine (edge_rcalls _ v2 lb (C2.out _ HB2.out) l2 R2.out a).mono ?_
        rintro e w3 ⟨rfl, hb3⟩
        rw [← HEB.out]
        have HB3 := hid (HB2.out.trans (hb3.mono HB2.out.size))
        have HU3 := hid (HU2.out.below hb3)
        clear hb3
        by_cases hx : eb < ea
        · have E := hid (show eb = en by have := EN.out; omega)
          go_wp2
          go_meet
          case rel => exact ⟨by rw [E.out], HU3.out, HB3.out⟩
        · have E := hid (show ea = en by have := EN.out; omega)
          have hx2 : (eb < ea) = False := by simp only [eq_iff_iff, iff_false]; exact hx
          clear hx
          go_wp2
          go_meet
          case rel => exact ⟨by rw [E.out], HU3.out, HB3.out⟩
      case rest =>
        obtain ⟨rfl, hu4, hb4⟩ := hcut
        have HU4 := hid hu4
        have HB4 := hid hb4
        have hsz4 := hb4.size
        clear hu4 hb4
        go_upto_region 5 with fail
        go_cut [24] (fun s24 wx => s24 = .bool (!decide (valL la a = valL lb a)) ∧ OwnE encS 2 37 w.heap.size wx u5 out ∧ Below w.heap.size w wx)
        case first =>
          have he : ∀ w, (Op.equalIn 10000 88 (valL la a).val (valL lb a).val).run Try.prog w = .ok (decide (valL la a = valL lb a)) w := fun w => run_eqPocket _ _ w
          go_wp2_with fail
          refine (at_rcalls _ v1 la (C1.out _ HB4.out) l1 a).mono ?_
          rintro e w2 ⟨rfl, hb2⟩
          have HB5 := hid (HB4.out.trans (hb2.mono hsz4))
          have HU5 := hid (HU4.out.below (hb2))
          clear hb2
          go_wp2_with fail
          refine (at_rcalls _ v2 lb (C2.out _ HB5.out) l2 a).mono ?_
          rintro e w3 ⟨rfl, hb3⟩
          have HB6 := hid (HB5.out.trans (hb3.mono HB5.out.size))
          have HU6 := hid (HU5.out.below hb3)
          clear hb3
          go_wp2
          go_meet
          case rel => exact ⟨rfl, HU6.out, HB6.out⟩
        case rest =>
          obtain ⟨rfl, hu4, hb4⟩ := hcut
          have HU7 := hid hu4
          have HB7 := hid hb4
          have hsz7 := hb4.size
          clear hu4 hb4
          go_upto_if 24 with fail
          go_cut [5] (fun s5 wx => ∃ out2, out2 = (if valL la a = valL lb a then out else extL out (a, en - a)) ∧ OwnE encS 2 37 w.heap.size wx s5 out2 ∧ Below w.heap.size w wx)
          case first =>
            by_cases hc : valL la a = valL lb a
            · have E := hid hc
              have E2 : (!decide (valL la a = valL lb a)) = false := by simpa using hc
              rw [E2]
              clear hc E2
              go_wp2
              go_meet
              case rel => exact ⟨out, by rw [if_pos E.out], HU7.out, HB7.out⟩
            · have E := hid hc
              have E2 : (!decide (valL la a = valL lb a)) = true := by simpa using hc
              rw [E2]
              have v1' : IntKind.i64.wrap (en - a) = en - a := IntWalk.i64_in _ (by omega)
              clear hc E2
              have O2 := hid (fun n => show ((wc.drewN n).alloc (.cells #[.int .i64 a, .int .i64 (en - a)] 37)).ownsRow w.heap.size 37 2 u5 out.length (flatE encS out) from World.ownsRow.alloc (HU7.out.drewN n) _)
              rcases List.eq_nil_or_concat out with ho | ⟨L, q, ho⟩
              · subst ho
                obtain ⟨p0, cap, rfl, _⟩ := HU7.out.form
                have hd : decide ((0 : Int) < 0) = false := by decide
                simp only [List.length_nil] at O2
                go_wp2
                go_quiet (fail)
                go_wp2_with (at_builtin; refine wpList_append_lies _ rfl (.tmp 61) (.tmp 67) 82 rfl w.heap.size 37 i0 _ 2 16 under_spans hi hz0 hz1 hz2 rfl (by decide) (.slice p0 0 cap) (0) (flatE encS ([])) rfl (O2.out nq) ⟨wc.heap.size, 0, none⟩ 1 1 [.int .i64 a, .int .i64 (en - a)] rfl rfl ?a1 ?a2 (by decide) ?a3 ?a4 ?a5 _ rfl ?_)
                case a1 => exact news_of (Cells.new (wc.drewN nq) #[.int .i64 a, .int .i64 (en - a)] 37)
                case a2 => intro u hu; simp at hu; rcases hu with rfl | rfl <;> rfl
                case a3 => unfold maxLen; omega
                case a4 => omega
                case a5 => simp; omega
                intro g1 cap1 w9 own1 gr1 at1 lt1
                have bb : Below w.heap.size w w9 := Below.grown ((drewN_below HB7.out nq).alloc (by rw [World.heap_drewN]; exact hsz7) _) gr1 (by rw [World.size_alloc, World.heap_drewN]; omega) (fun r h => (World.ownsRow.lt (O2.out nq) r h).1)
                have OW := hid own1
                have BB := hid bb
                clear own1 gr1 at1 lt1 bb
                go_wp2
                go_meet
                case rel => exact ⟨[(a, en - a)], by rw [if_neg E.out]; rfl, OW.out, BB.out⟩
              · rw [List.concat_eq_append] at ho
                subst ho
                obtain ⟨m, hm⟩ : ∃ m, m = L.length := ⟨_, rfl⟩
                have hml : (L ++ [q]).length = m + 1 := by simp [hm]
                obtain ⟨p0, cap, rfl, hp⟩ := HU7.out.form
                obtain ⟨g, rfl, hg1, hg2⟩ : ∃ g, p0 = some ⟨g, 0, none⟩ ∧ w.heap.size ≤ g ∧ g < wc.heap.size := by
                  rcases hp with ⟨_, h⟩ | ⟨g, h⟩
                  · simp at h
                  · exact ⟨g, h⟩
                have key : ∀ j, j < 2 → wc.cell? ⟨g, m * 2 + j, none⟩ = (encS q)[j]? := by
                  intro j hj
                  have h1 := World.ownsRow.cellAt HU7.out (m * 2 + j) (by rw [hml]; omega)
                  rw [h1, flatE_get encS_len (L ++ [q]) m (by rw [hml]; omega) j hj]
                  simp [hm]
                have q0 := key 0 (by omega)
                have q1 := key 1 (by omega)
                simp [encS] at q0 q1
                have hfz : wc.frozen? ⟨g, m * 2 + 1, none⟩ = false := World.ownsRow.frozenAt HU7.out _
                rw [hml] at O2 hol ⊢
                have hq := runs_mem RUN.out q (by simp)
                have c1 : IntKind.i64.wrap ((m : Int) + 1 - 1) = (m : Int) := by rw [IntWalk.i64_in _ (by omega)]; omega
                have c2 : (0 : Int) ≤ (m : Int) := by omega
                have c3 : (m : Int) < (m : Int) + 1 := by omega
                have c7 : (m : Int) < ((m + 1 : Nat) : Int) := by omega
                have c8 : m < m + 1 := by omega
                have c4 : decide ((0 : Int) < (m : Int) + 1) = true := by rw [decide_eq_true_eq]; omega
                have c5 : IntKind.i64.wrap (q.1 + q.2) = q.1 + q.2 := IntWalk.i64_in _ (by omega)
                have c6 : IntKind.i64.wrap (q.2 + en) = q.2 + en := IntWalk.i64_in _ (by omega)
                have c9 : IntKind.i64.wrap (q.2 + en - a) = q.2 + (en - a) := by rw [IntWalk.i64_in _ (by omega)]; omega
                have HM := hid hm
                have HH := hid hml
                clear key hp hml hm
                by_cases hc : q.1 + q.2 = a
                · have hcd : (q.1 + q.2 == a) = true := by simp [hc]
                  have HC := hid hc
                  clear hc
                  go_wp2
                  go_quiet (fail)
                  go_wp2
                  go_meet
                  case rel =>
                    refine ⟨_, rfl, ?_, ?_⟩
                    · rw [if_neg E.out, extL_last, if_pos HC.out]
                      have h1 := World.ownsRow.stored (HU7.out.drewN nq) (m * 2 + 1) (.int .i64 (q.2 + (en - a)))
                      have h2 : (flatE encS (L ++ [q])).set (m * 2 + 1) (.int .i64 (q.2 + (en - a))) = flatE encS (L ++ [(q.1, q.2 + (en - a))]) := by
                        rw [HM.out, flatE_set_last encS_len, flatE_snoc]; rfl
                      rw [h2] at h1
                      unfold OwnE
                      have e : (L ++ [(q.1, q.2 + (en - a))]).length = m + 1 := by simp [HM.out]
                      rw [e]
                      have h3 := h1.1
                      rw [HH.out] at h3
                      exact h3
                    · exact (drewN_below HB7.out nq).setCell hg1 _
                · have hcd : (q.1 + q.2 == a) = false := by simp [hc]
                  have HC := hid hc
                  clear hc
                  go_wp2
                  go_quiet (fail)
                  go_wp2_with (at_builtin; refine wpList_append_lies _ rfl (.tmp 61) (.tmp 67) 82 rfl w.heap.size 37 i0 _ 2 16 under_spans hi hz0 hz1 hz2 rfl (by decide) (.slice (some ⟨g, 0, none⟩) (m + 1) cap) ((m + 1)) (flatE encS (L ++ [q])) rfl (O2.out nq) ⟨wc.heap.size, 0, none⟩ 1 1 [.int .i64 a, .int .i64 (en - a)] rfl rfl ?a1 ?a2 (by decide) ?a3 ?a4 ?a5 _ rfl ?_)
                  case a1 => exact news_of (Cells.new (wc.drewN nq) #[.int .i64 a, .int .i64 (en - a)] 37)
                  case a2 => intro u hu; simp at hu; rcases hu with rfl | rfl <;> rfl
                  case a3 => unfold maxLen; omega
                  case a4 => omega
                  case a5 => simp; omega
                  intro g1 cap1 w9 own1 gr1 at1 lt1
                  have bb : Below w.heap.size w w9 := Below.grown ((drewN_below HB7.out nq).alloc (by rw [World.heap_drewN]; exact hsz7) _) gr1 (by rw [World.size_alloc, World.heap_drewN]; omega) (fun r h => (World.ownsRow.lt (O2.out nq) r h).1)
                  have OW := hid own1
                  have BB := hid bb
                  clear own1 gr1 at1 lt1 bb
                  go_wp2
                  go_meet
                  case rel =>
                    refine ⟨_, rfl, ?_, BB.out⟩
                    rw [if_neg E.out, extL_last, if_neg HC.out]
                    unfold OwnE
                    have := OW.out
                    have e : (L ++ [q, (a, en - a)]) = (L ++ [q]) ++ [(a, en - a)] := by simp
                    rw [e, flatE_snoc, List.length_append, HH.out]
                    exact this
          case rest =>
            obtain ⟨out2, hout2, o5, b5⟩ := hcut
            have HO2 := hid hout2
            have O5 := hid o5
            have B5 := hid b5
            clear hout2 o5 b5
            go_wp2
            go_roundg ((1000001 - en).toNat)
            case measure => have := HK.out; omega
            case rel =>
              have := GROW.out
              rw [← HO2.out] at this
              exact ⟨en, out2, rfl, by omega, by omega, rfl, O5.out, this.1, this.2, B5.out⟩
    · have g1 : decide (a ≤ 1000000) = false := by simpa using ha
      have FI := hid (show Runs out 1 1000000 ∧ ∀ n, inS out n ↔ 1 ≤ n ∧ n ≤ 1000000 ∧ valL la n ≠ valL lb n by
        have e : a = 1000001 := by omega
        have h1 := RUN.out
        have h2 := HIN.out
        rw [e] at h1 h2
        refine ⟨h1, fun n => (h2 n).trans ⟨fun h => ⟨h.1, by omega, h.2.2⟩, fun h => ⟨h.1, by omega, h.2.2⟩⟩⟩)
      go_wp2
      refine bodyPost_ret (v := u5) (by simp [results, Try.results44, go_sem]) rfl ?_
      exact ⟨u5, rfl, out, HU.out, FI.out, HB.out⟩
end Go.Proofs.Ytnnbdjfeagcbdaa
