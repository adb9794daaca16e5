/- The first allotment, by trying. No program in sight. The reference: first. -/
import Derived.Test.YtojednnciknhpaaDoorJBm
import Derived.Test.YtojednnciknhpaaDoorJPm2
import Derived.Test.YtojednnciknhpaaDoorJLr1
import Derived.Test.YtojednnciknhpaaDoorJRowx
namespace Go.Proofs.YtojednnciknhpaaDoor
set_option linter.unusedSimpArgs false
set_option linter.unusedVariables false
open Go.RowKit
def givenB (t : List Int) (x : Int) : Bool := t.any fun y => decide (0 ≤ x) && decide (y = x)
def tryX (F : List Int → List Int) (C : Int → Bool) (t : List Int) : List Int → List Int
  | [] => []
  | x :: xs => if givenB t x = true ∨ C x = false then tryX F C t xs else if F (t ++ [x]) = [] then tryX F C t xs else F (t ++ [x])
/-- The lots from none on. -/
def lotsZ (n : Nat) : List Int := (List.range (n + 1)).map fun (k : Nat) => (k : Int) - 1
def firstX (L : List (List Int)) (p : List Int) : Nat → List Int → List Int
  | 0, t => if (contR L t p).2 = true then t else []
  | k + 1, t => tryX (firstX L p k) (contB (L.getD t.length []) p) t (lotsZ p.length)
theorem lotsZ_mem {n : Nat} {x : Int} : x ∈ lotsZ n ↔ -1 ≤ x ∧ x < (n : Int) := by
  unfold lotsZ
  rw [List.mem_map]
  constructor
  · rintro ⟨k, hk, rfl⟩
    have := List.mem_range.1 hk
    omega
  · rintro ⟨h1, h2⟩
    exact ⟨(x + 1).toNat, List.mem_range.2 (by omega), by omega⟩
theorem lotsZ_sorted (n : Nat) : (lotsZ n).Pairwise (· < ·) := by
  unfold lotsZ
  rw [List.pairwise_map]
  exact List.pairwise_lt_range.imp fun h => by omega
section
variable {L : List (List Int)} {p : List Int}
/-- What a try finds. -/
def FoundX (L : List (List Int)) (p t : List Int) (P : Int → Prop) (s : List Int) : Prop :=
  s = [] ∧ (∀ u, BalL L p u → u.take t.length = t → ¬ P (u.getD t.length (-1))) ∨ BalL L p s ∧ s.take t.length = t ∧ ∀ u, BalL L p u → u.take t.length = t → P (u.getD t.length (-1)) → LexLe s u
theorem tryX_spec (ok : OkH L p.length) {F : List Int → List Int} {t : List Int} (ht : t.length < L.length) (hF : ∀ x, FoundX L p (t ++ [x]) (fun _ => True) (F (t ++ [x]))) : ∀ xs : List Int, xs.Pairwise (· < ·) → (∀ x ∈ xs, -1 ≤ x ∧ x < (p.length : Int)) → FoundX L p t (fun y => y ∈ xs) (tryX F (contB (L.getD t.length []) p) t xs)
  | [], _, _ => .inl ⟨rfl, fun _ _ _ h => by cases h⟩
  | x :: xs, hp, hm => by
    obtain ⟨p1, p2⟩ := List.pairwise_cons.1 hp
    have ih := tryX_spec ok ht hF xs p2 fun y hy => hm y (List.mem_cons_of_mem _ hy)
    obtain ⟨m1, m2⟩ := hm x List.mem_cons_self
    -- none of those that the rest finds is worse
    have skip : (∀ u, BalL L p u → u.take t.length = t → u.getD t.length (-1) ≠ x) → FoundX L p t (fun y => y ∈ x :: xs) (tryX F (contB (L.getD t.length []) p) t xs) := fun hno => by
      rcases ih with ⟨h1, h2⟩ | ⟨h1, h2, h3⟩
      · refine .inl ⟨h1, fun u hu hut h => ?_⟩
        rcases List.mem_cons.1 h with h | h
        · exact hno u hu hut h
        · exact h2 u hu hut h
      · refine .inr ⟨h1, h2, fun u hu hut h => ?_⟩
        rcases List.mem_cons.1 h with h | h
        · exact absurd h (hno u hu hut)
        · exact h3 u hu hut h
    have ext : ∀ u, BalL L p u → u.take t.length = t → u.getD t.length (-1) = x → u.take (t ++ [x]).length = t ++ [x] := fun u hu hut hx => by
      rw [List.length_append, List.length_singleton, take_succ' (by rw [hu.len]; exact ht), hut, hx]
    rw [tryX]
    split
    · rename_i h
      refine skip fun u hu hut hx => ?_
      rcases h with h | h
      · obtain ⟨y, hy, h⟩ := List.any_eq_true.1 h
        simp only [Bool.and_eq_true, decide_eq_true_eq] at h
        obtain ⟨i, hi, rfl⟩ := mem_getD hy
        have e : u.getD i (-1) = t.getD i (-1) := by
          conv => rhs; rw [← hut]
          rw [getD_take hi]
        have := hu.inj i t.length (by omega) ht (by rw [e, h.2, hx]) (by rw [e, h.2]; exact h.1)
        omega
      · have hc := hu.cont t.length ht
        rw [hx] at hc
        have := (contB_iff (row_len ok ht) m1 m2).2 hc
        rw [h] at this
        cases this
    · split
      · rename_i h
        rcases hF x with ⟨h1, h2⟩ | ⟨h1, h2, h3⟩
        · exact skip fun u hu hut hx => h2 u hu (ext u hu hut hx) trivial
        · exfalso
          have := h1.len
          rw [h] at this
          simp at this
          omega
      · rename_i h
        rcases hF x with ⟨h1, h2⟩ | ⟨h1, h2, h3⟩
        · exact absurd h1 h
        · have hl := h1.len
          have et : (F (t ++ [x])).take t.length = t := by
            have := congrArg (List.take t.length) h2
            rw [List.take_take, List.length_append, List.length_singleton, Nat.min_eq_left (by omega)] at this
            rw [this]
            simp
          have ex : (F (t ++ [x])).getD t.length (-1) = x := by
            rw [← getD_take (k := t.length + 1) (by omega), show t.length + 1 = (t ++ [x]).length by simp, h2, getD_app_eq]
          refine .inr ⟨h1, et, fun u hu hut hy => ?_⟩
          rcases List.mem_cons.1 hy with hy | hy
          · exact h3 u hu (ext u hu hut hy) trivial
          · exact .inr ⟨t.length, by omega, by rw [hu.len]; exact ht, by rw [et, hut], by rw [ex]; exact p1 _ hy⟩
theorem firstX_spec (ok : OkH L p.length) (hc : chkH L = 0) (ha : arP L p = true) : ∀ (k : Nat) (t : List Int), t.length + k = L.length → FoundX L p t (fun _ => True) (firstX L p k t)
  | 0, t, h => by
    have hl : t.length = L.length := by omega
    have e : contR L t p = contF L t p := by unfold contR; rw [if_pos ⟨hc, hl, ha⟩]
    have eq : ∀ u, BalL L p u → u.take t.length = t → u = t := fun u hu h => by rwa [List.take_of_length_le (by rw [hu.len, hl]; exact Nat.le_refl _)] at h
    rw [firstX, e]
    rcases contF_iff ok hl with ⟨h1, h2⟩ | ⟨⟨x, h1⟩, h2⟩
    · rw [h1, if_pos rfl]
      exact .inr ⟨h2, List.take_length, fun u hu hut _ => .inl (eq u hu hut).symm⟩
    · rw [h1, if_neg (by simp)]
      exact .inl ⟨rfl, fun u hu hut _ => h2 (eq u hu hut ▸ hu)⟩
  | k + 1, t, h => by
    have sp := tryX_spec ok (t := t) (by omega) (fun x => firstX_spec ok hc ha k (t ++ [x]) (by simp; omega)) (lotsZ p.length) (lotsZ_sorted _) fun x hx => lotsZ_mem.1 hx
    rw [firstX]
    have all : ∀ u, BalL L p u → u.getD t.length (-1) ∈ lotsZ p.length := fun u hu => by
      rw [lotsZ_mem]
      rcases hu.cont t.length (by omega) with ⟨e, _⟩ | ⟨j, e, hd⟩
      · omega
      · have := dem_lt hd
        omega
    rcases sp with ⟨h1, h2⟩ | ⟨h1, h2, h3⟩
    · exact .inl ⟨h1, fun u hu hut _ => h2 u hu hut (all u hu)⟩
    · exact .inr ⟨h1, h2, fun u hu hut _ => h3 u hu hut (all u hu)⟩
theorem firstX_hall (ok : OkH L p.length) (hc : chkH L = 0) (ha : arP L p = true) {s : List Int} (hs : FirstL (BalL L p) s) : firstX L p L.length [] = s := by
  rcases firstX_spec ok hc ha L.length [] (by simp) with ⟨_, h2⟩ | ⟨h1, _, h3⟩
  · exact absurd trivial (h2 s hs.mem rfl)
  · exact FirstL.unique ⟨h1, fun u hu => h3 u hu rfl trivial⟩ hs
end
end Go.Proofs.YtojednnciknhpaaDoor
namespace Go.Proofs.YtojednnciknhpaaDoor
set_option linter.unusedSimpArgs false
set_option linter.unusedVariables false
open Go.RowKit
attribute [local go_sem] Oper.semAt_some
attribute [local go_sem ↓] Go.wp_at_zero Go.wp_at_succ
theorem lotsZ_len (n : Nat) : (lotsZ n).length = n + 1 := by simp [lotsZ]
theorem lotsZ_drop {n : Nat} {x : Int} (h1 : -1 ≤ x) (h2 : x < (n : Int)) : (lotsZ n).drop (x + 1).toNat = x :: (lotsZ n).drop (x + 1 + 1).toNat := by
  have hl : (x + 1).toNat < (lotsZ n).length := by rw [lotsZ_len]; omega
  rw [List.drop_eq_getElem_cons hl, show (x + 1 + 1).toNat = (x + 1).toNat + 1 by omega]
  congr 1
  simp [lotsZ]
  omega
theorem givenB_snoc (t : List Int) (x : Int) {i : Nat} (h : i < t.length) : givenB (t.take (i + 1)) x = (givenB (t.take i) x || (decide (0 ≤ x) && decide (t[i] = x))) := by
  unfold givenB
  rw [List.take_succ_eq_append_getElem h, List.any_append, List.any_cons, List.any_nil, Bool.or_false]

set_option maxRecDepth 100000 in
set_option maxHeartbeats 8000000 in
theorem rfirst_calls {L : List (List Int)} {p : List Int} (ok : OkH L p.length) (okp : okW p) (hL : 1 ≤ L.length) : ∀ (k : Nat) (t : List Int) {w : World} {v vp vt : Value} (_ : t.length + k = L.length) (_ : NestE encI 1 w v L) (_ : ReadsE encI 1 w vp p) (_ : RowN 0 w vt t),
    Calls Tryd.prog 68 #[v, vp, vt] w fun e w' => ∃ vo, e = .returned vo ∧ RowN 0 w' vo (firstX L p k t) ∧ Below w.heap.size w w'
  | 0, t, w, v, vp, vt, hk, hv, hp, ht => by
    have hl : t.length = L.length := by omega
    have RB := hid (rbalance_calls hv (ht.reads encI_len (by have := ok.rows; omega)) hp)
    obtain ⟨R, hR⟩ : ∃ R : Ending → World → Prop, R = fun e w' => ∃ vo, e = .returned vo ∧ RowN 0 w' vo (firstX L p 0 t) ∧ Below w.heap.size w w' := ⟨_, rfl⟩
    rw [← hR]
    obtain ⟨x, hx⟩ : ∃ x, x = (contR L t p).1 := ⟨_, rfl⟩
    obtain ⟨b, hb⟩ : ∃ b, b = (contR L t p).2 := ⟨_, rfl⟩
    rw [← hx, ← hb] at RB
    have FN := hid (show ∀ w', Below w.heap.size w w' → R (.returned (if b = true then vt else .slice none 0 0)) w' from fun w' h => by
      rw [hR]
      refine ⟨_, rfl, ?_, h⟩
      rw [firstX, ← hb]
      cases b with
      | true => exact ht.below h
      | false => exact OwnE.nil _ _)
    obtain ⟨bb, off, cap, rfl, _⟩ := nest_open hv hL
    obtain ⟨pt, ct, hvt, _⟩ := ht.form
    obtain ⟨pp, cp, hvp, _⟩ := reads_at hp
    obtain ⟨n, hn⟩ : ∃ n, n = L.length := ⟨_, rfl⟩
    obtain ⟨np, hnp⟩ : ∃ np, np = p.length := ⟨_, rfl⟩
    rw [hl, ← hn] at hvt
    rw [← hnp] at hvp
    subst hvt hvp
    rw [← hn] at RB ⊢
    have g1 : ((n : Int) == (n : Int)) = true := by simp
    clear hR hv hp ht hl hk hn hnp ok okp hL hx hb
    go_enter Tryd.func68, Tryd.ntmps68
    go_wp2_with fail
    refine RB.out.mono ?_
    rintro e w2 ⟨rfl, hb2⟩
    have F := hid (FN.out w2 hb2)
    clear FN RB hb2
    cases b with
    | true =>
      rw [if_pos rfl] at F
      go_wp2
      first | exact F.out | (go_ret; exact F.out)
    | false =>
      rw [if_neg (by simp)] at F
      go_wp2
      first | exact F.out | (go_ret; exact F.out)
  | k + 1, t, w, v, vp, vt, hk, hv, hp, ht => by
    have htl : t.length < L.length := by omega
    have IH := hid (fun (x : Int) (wx : World) (v2 : Value) (hb : Below w.heap.size w wx) (h2 : RowN 0 wx v2 (t ++ [x])) => rfirst_calls ok okp hL k (t ++ [x]) (by simp; omega) (hv.below hb) (hp.below hb) h2)
    have CC := hid (fun (x : Int) (hx : x < (p.length : Int)) (wx : World) (hb : Below w.heap.size w wx) => rcontent_calls (hv.below hb) (hp.below hb) ok okp htl x hx)
    obtain ⟨R, hR⟩ : ∃ R : Ending → World → Prop, R = fun e w' => ∃ vo, e = .returned vo ∧ RowN 0 w' vo (firstX L p (k + 1) t) ∧ Below w.heap.size w w' := ⟨_, rfl⟩
    rw [← hR]
    obtain ⟨F, hF⟩ : ∃ F, F = firstX L p k := ⟨_, rfl⟩
    obtain ⟨C, hC⟩ : ∃ C, C = contB L[t.length] p := ⟨_, rfl⟩
    obtain ⟨n, hn⟩ : ∃ n, n = L.length := ⟨_, rfl⟩
    obtain ⟨np, hnp⟩ : ∃ np, np = p.length := ⟨_, rfl⟩
    obtain ⟨nt, hnt⟩ : ∃ nt, nt = t.length := ⟨_, rfl⟩
    have HNT := hid hnt
    have FN := hid (show ∀ s vo w', s = tryX F C t (lotsZ np) → RowN 0 w' vo s → Below w.heap.size w w' → R (.returned vo) w' from fun s vo w' h1 h2 h3 => by
      rw [hR]
      refine ⟨vo, rfl, ?_, h3⟩
      rw [firstX, ← hF, show L.getD t.length [] = L[t.length] by simp [htl], ← hC, ← hnp, ← h1]
      exact h2)
    rw [← hF] at IH
    rw [← hC, ← hnp] at CC
    have nt64 : nt < 64 := by rw [hnt]; have := ok.rows; omega
    have np64 : np ≤ 64 := by rw [hnp]; exact ok.cols
    obtain ⟨bb, off, cap, rfl, _⟩ := nest_open hv hL
    obtain ⟨pt, ct, hvt, _⟩ := ht.form
    obtain ⟨pp, cp, hvp, _⟩ := reads_at hp
    rw [← hnt] at hvt
    rw [← hnp] at hvp
    subst hvt hvp
    have HT := hid ht
    obtain ⟨pt', ct', hpt, hta⟩ := reads_at (ht.reads encI_len (by have := ok.rows; omega))
    rw [← hnt] at hpt
    injection hpt with h1 h2 h3
    subst h1 h3
    have TA := hid hta
    rw [← hn] at htl IH CC ⊢
    rw [← hnt] at CC htl
    have g1 : ((nt : Int) == (n : Int)) = false := by simp; omega
    clear hR hv hp ht hk hn hnp ok okp hL hF hC hnt h2 hta
    go_enter Tryd.func68, Tryd.ntmps68
    go_upto_region 8 with fail
    go_loopg [10, 11, 12, 13, 14] (np + 1) (fun k s10 s11 s12 s13 s14 wr => ∃ x : Int, -1 ≤ x ∧ x + (k : Int) = np ∧ s10 = .int .i64 x ∧ tryX F C t ((lotsZ np).drop (x + 1).toNat) = tryX F C t (lotsZ np) ∧ Below w.heap.size w wr)
    case atStart => exact ⟨-1, by omega, by omega, rfl, rfl, Below.refl _ _⟩
    case round =>
    obtain ⟨x, hx1, hxk, rfl, he, hb⟩ := hrel
    obtain ⟨wL, hwL⟩ : ∃ wL, wL = wr := ⟨_, rfl⟩
    rw [← hwL] at hb ⊢
    have HXK := hid hxk
    have EZ := hid he
    have BL := hid hb
    clear hxk he hb hwL
    by_cases hxn : x < (np : Int)
    · have EC := hid (show (if givenB t x = true ∨ C x = false then tryX F C t ((lotsZ np).drop (x + 1 + 1).toNat) else if F (t ++ [x]) = [] then tryX F C t ((lotsZ np).drop (x + 1 + 1).toNat) else F (t ++ [x])) = tryX F C t (lotsZ np) by
        have := EZ.out
        rw [lotsZ_drop hx1 hxn, tryX] at this
        exact this)
      clear EZ
      go_upto_block 2 with fail
      go_cut [11, 12] (fun s11 s12 wx => s11 = .bool (givenB t x) ∧ Below wL.heap.size wL wx)
      case first =>
        go_upto_region 12 with fail
        go_loopg [11, 12] nt (fun k s11 s12 wx => ∃ i : Nat, i + k = nt ∧ s12 = .int .i64 i ∧ s11 = .bool (givenB (t.take i) x) ∧ Below wL.heap.size wL wx)
        case atStart => exact ⟨0, by omega, rfl, rfl, Below.refl _ _⟩
        case round =>
        obtain ⟨i, hik, rfl, rfl, hb⟩ := hrel
        have HIK := hid hik
        have BX := hid hb
        clear hik hb
        by_cases hin : i < nt
        · have hit : i < t.length := by rw [← HNT.out]; exact hin
          obtain ⟨b0, o0, rfl, hc0⟩ := TA.out i hit
          have k0 := hc0 wr (BL.out.trans (BX.out.mono BL.out.size))
          have GS := hid (givenB_snoc t x hit)
          obtain ⟨y, hy⟩ : ∃ y, y = t[i] := ⟨_, rfl⟩
          obtain ⟨G, hG⟩ : ∃ G, G = givenB (t.take i) x := ⟨_, rfl⟩
          rw [← hy] at k0 GS
          rw [← hG] at GS ⊢
          have gi : (i : Int) < (nt : Int) := by omega
          have gi0 : (0 : Int) ≤ (i : Int) := by omega
          clear hc0 hy hG
          cases G with
          | true =>
            go_wp2
            go_roundg (nt - (i + 1))
            · exact ⟨i + 1, by omega, by go_num, by rw [GS.out]; rfl, BX.out⟩
            · have := HIK.out; omega
          | false =>
            by_cases hx0 : 0 ≤ x
            · by_cases hyx : y = x
              · subst hyx
                have e1 : (y == y) = true := by simp
                go_wp2
                go_roundg (nt - (i + 1))
                · exact ⟨i + 1, by omega, by go_num, by rw [GS.out]; simp [hx0], BX.out⟩
                · have := HIK.out; omega
              · have e1 : (y == x) = false := by simpa using hyx
                go_wp2
                go_roundg (nt - (i + 1))
                · exact ⟨i + 1, by omega, by go_num, by rw [GS.out]; simp [hyx], BX.out⟩
                · have := HIK.out; omega
            · have e1 : decide (0 ≤ x) = false := by simpa using hx0
              go_wp2
              go_roundg (nt - (i + 1))
              · exact ⟨i + 1, by omega, by go_num, by rw [GS.out, e1]; rfl, BX.out⟩
              · have := HIK.out; omega
        · obtain rfl : i = nt := by have := HIK.out; omega
          have g2 : decide ((i : Int) < (i : Int)) = false := by simp
          have Q := hid (show Value.bool (givenB (t.take i) x) = .bool (givenB t x) by rw [List.take_of_length_le (by rw [← HNT.out]; exact Nat.le_refl _)])
          go_wp2
          go_meet
          exact ⟨Q.out, BX.out⟩
      case rest =>
      obtain ⟨rfl, hb⟩ := hcut
      obtain ⟨wM, hwM⟩ : ∃ wM, wM = wc := ⟨_, rfl⟩
      rw [← hwM] at hb ⊢
      have BM := hid (BL.out.trans (hb.mono BL.out.size))
      clear hwM hb
      obtain ⟨G, hG⟩ : ∃ G, G = givenB t x := ⟨_, rfl⟩
      rw [← hG] at EC ⊢
      clear hG
      cases G with
      | true =>
        rw [if_pos (.inl rfl)] at EC
        go_wp2
        go_roundg ((np : Int) - (x + 1)).toNat
        · exact ⟨x + 1, by omega, by omega, by go_num, EC.out, BM.out⟩
        · have := HXK.out; omega
      | false =>
        have C1 := hid (CC.out x hxn wM BM.out)
        obtain ⟨cx, hcx⟩ : ∃ cx, cx = C x := ⟨_, rfl⟩
        rw [← hcx] at C1 EC
        clear hcx
        go_wp2_with fail
        refine C1.out.mono ?_
        rintro e w2 ⟨rfl, md, hw2⟩
        have B2 := hid (show Below w.heap.size w w2 by rw [hw2]; exact drewN_below BM.out md)
        clear hw2 C1
        cases cx with
        | false =>
          rw [if_pos (.inr rfl)] at EC
          go_wp2
          go_roundg ((np : Int) - (x + 1)).toNat
          · exact ⟨x + 1, by omega, by omega, by go_num, EC.out, B2.out⟩
          · have := HXK.out; omega
        | true =>
          rw [if_neg (by simp)] at EC
          obtain ⟨v3, w3, r1, r2, r3⟩ := own_app (ty := 27) undN infoN rfl (by omega) encI_len encI_one (OwnE.nil w2.heap.size w2 : RowN w2.heap.size w2 _ []) (Nat.le_refl _) ((HT.out.below B2.out).srcx (by omega)) (by unfold maxLen; simp; rw [← HNT.out]; omega) (by simp; rw [← HNT.out]; omega)
          rw [List.nil_append] at r2
          have b3 : Below w2.heap.size w2 w3 := r3.below (Nat.le_refl _) fun k hk => by cases hk
          have B3 := hid (B2.out.trans (b3.mono B2.out.size))
          have R1 := hid r1
          have Q3 := hid r2
          obtain ⟨p3, c3, hv3, _⟩ := r2.form
          rw [← HNT.out] at hv3
          subst hv3
          have ha := (Below.refl w3.heap.size w3).alloc (Nat.le_refl _) (.cells #[.int .i64 x] 3)
          obtain ⟨v4, w4, s1, s2, s3, _⟩ := rown_app (Q3.out.below ha) (by have := b3.size; simp; omega) (cell_one (Cells.new w3 #[.int .i64 x] 3)) (by rw [← HNT.out]; omega)
          have S1 := hid s1
          have b4 : Below w2.heap.size w3 w4 := (ha.mono b3.size).trans (kept_own (Q3.out.below ha) (by have := b3.size; simp; omega) s3)
          have B4 := hid (B3.out.trans (b4.mono B2.out.size))
          obtain ⟨p4, c4, hv4, _⟩ := s2.form
          obtain ⟨n4, hn4⟩ : ∃ n4, n4 = (t ++ [x]).length := ⟨_, rfl⟩
          rw [← hn4] at hv4
          subst hv4
          have I4 := hid (IH.out x w4 _ B4.out (s2.mono (Nat.zero_le _)))
          clear r1 r2 r3 b3 ha s1 s2 s3 b4 hn4
          go_upto_region 18 with (at_builtin; refine wpList_append_run rfl (.tmp 64) (.tmp 65) 27 rfl _ _ (.slice p3 nt c3) w3 rfl rfl R1.out ?_)
          go_wp2_with (at_builtin; refine wpList_append_run rfl (.tmp 67) (.tmp 69) 27 rfl _ _ (.slice p4 n4 c4) w4 rfl rfl S1.out ?_)
          refine I4.out.mono ?_
          rintro e w5 ⟨vo, rfl, hro, hb5⟩
          have B5 := hid (B4.out.trans (hb5.mono B4.out.size))
          have RO := hid hro
          obtain ⟨po, co, hvo, _⟩ := hro.form
          obtain ⟨so, hso⟩ : ∃ so, so = F (t ++ [x]) := ⟨_, rfl⟩
          rw [← hso] at hvo EC RO
          obtain ⟨no, hno⟩ : ∃ no, no = so.length := ⟨_, rfl⟩
          rw [← hno] at hvo
          subst hvo
          clear hro hb5 hso I4
          by_cases hz : so = []
          · have hn0 : no = 0 := by rw [hno, hz]; rfl
            rw [if_pos hz] at EC
            subst hn0
            clear hz hno
            go_wp2
            go_roundg ((np : Int) - (x + 1)).toNat
            · exact ⟨x + 1, by omega, by omega, by go_num, EC.out, B5.out⟩
            · have := HXK.out; omega
          · rw [if_neg hz] at EC
            have hn0 : (0 : Int) < (no : Int) := by have := List.length_pos_iff.2 hz; omega
            have FF := hid (FN.out so _ w5 EC.out RO.out B5.out)
            clear hz hno FN
            go_wp2
            first | exact FF.out | (go_ret; exact FF.out)
    · have g2 : decide (x < (np : Int)) = false := by simpa using hxn
      have FF := hid (FN.out [] (.slice none 0 0) wL (by
        have := EZ.out
        rw [List.drop_of_length_le (by rw [lotsZ_len]; omega)] at this
        exact this) (OwnE.nil _ _) BL.out)
      clear FN
      go_wp2
      first | exact FF.out | (go_ret; exact FF.out)
end Go.Proofs.YtojednnciknhpaaDoor
