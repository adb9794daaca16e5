/- The reference's Amend: walked. -/
import Derived.Test.YtdjhpldiifdifaaJRm5
import Derived.Test.YtdjhpldiifdifaaJRs2
namespace Go.Proofs.Ytdjhpldiifdifaa
set_option linter.unusedSimpArgs false
set_option linter.unusedVariables false
open Go.RowKit Go.Shelf
attribute [local go_sem] Oper.semAt_some
attribute [local go_sem ↓] Go.wp_at_zero Go.wp_at_succ

/-- What the reference's Amend comes to. -/
def AmendR (w : World) (S : Bd) (x : Rb) (n m p q : Int) (e : Ending) (w' : World) : Prop :=
  ∃ v' x' ve evs er, e = .returned (.tuple #[rbV v' x'.nums x'.turn x'.paid, ve, .int .i64 er]) ∧ RowR 0 w' v' x'.L ∧ RowE 0 w' ve evs ∧ Below w.heap.size w w' ∧
    ((findR x.L n = none ∧ er = 4 ∧ evs = [] ∧ x' = x) ∨ ∃ (i : Nat) (hi : i < x.L.length), findR x.L n = some i ∧ x.L[i].n = n ∧
      ((amendE S x.L[i].en x.L[i].w m p q ≠ 0 ∧ er = amendE S x.L[i].en x.L[i].w m p q ∧ evs = [] ∧ x' = x) ∨ (amendE S x.L[i].en x.L[i].w m p q = 0 ∧ er = 0 ∧ evs = (amendF S x.L[i].en p q).2 ∧ Rel (amendF S x.L[i].en p q).1 x' ∧ x'.turn ≤ x.turn + evs.length)))
/-- The board without an entry that rests. -/
theorem off_bdok {S : Bd} {x : Rb} (h : Rel S x) (hS : BdOk S) {i : Nat} (hi : i < x.L.length) (hw : x.L[i].w = false) :
    BdOk (S.off x.L[i].en false) ∧ x.L[i].n ∉ numsL (S.off x.L[i].en false).live ∧ x.L[i].o.ok = true ∧ (1 ≤ x.L[i].n ∧ x.L[i].n ≤ (S.off x.L[i].en false).nums) ∧ sizeL (S.off x.L[i].en false).live ≤ sizeL S.live ∧ (S.off x.L[i].en false).live.length ≤ S.live.length ∧ (S.off x.L[i].en false).wait = S.wait := by
  have R' := off_rel h hS hi
  rw [hw] at R'
  have once := h.once hS
  have pm := idx_perm hi
  have hn0 : x.L[i].n ∉ numsL (S.off x.L[i].en false).live := fun hm => by
    have h1 := (numsL_perm R'.live).mem_iff.2 hm
    simp only [numsL, List.map_map] at h1
    have h2 := ((pm.map Rn.n).nodup_iff.2 once)
    exact (List.nodup_cons.1 h2).1 (by simpa [Function.comp_def, Rn.en] using h1)
  have sz : sizeL (S.off x.L[i].en false).live ≤ sizeL S.live := by
    have h1 := sizeL_perm R'.live
    have h2 := sizeL_perm h.live
    have h3 := sizeL_perm (pm.map Rn.en)
    rw [List.map_cons, sizeL_cons] at h3
    simp only at h1
    omega
  have ln : (S.off x.L[i].en false).live.length ≤ S.live.length := by
    have h1 := R'.len
    have h2 := h.len
    simp only [List.length_eraseIdx] at h1
    split at h1 <;> omega
  obtain ⟨r, hr⟩ : ∃ r, r = x.L[i] := ⟨_, rfl⟩
  rw [← hr] at hw hn0 R' sz ln ⊢
  have hrm : r ∈ x.L := by rw [hr]; exact List.getElem_mem hi
  have hm : r.en ∈ S.live := h.live.mem_iff.1 (List.mem_map.2 ⟨r, hrm, rfl⟩)
  have hs : r.o.s = 1 ∨ r.o.s = 2 := orders_ok hS h r hrm
  obtain ⟨A, B, W, k⟩ := h.side hs
  have hrA : r ∈ A := by
    rcases List.mem_append.1 (k.perm.mem_iff.1 hrm) with h1 | h1
    · exact h1
    · have := k.rest hs hS r h1
      unfold cR at this
      rw [hw] at this
      simp at this
  have ek := k.a.mem (hS.half hs) hrA
  have hin : r.en ∈ (S.half r.o.s).all := by rw [← k.a.en]; exact List.mem_map.2 ⟨r, hrA, rfl⟩
  have hnd : (numsL (S.half r.o.s).all).Nodup := by
    have h1 := hS.once
    unfold Bd.live at h1
    rw [numsL_append, numsL_append] at h1
    obtain ⟨a1, a2, _⟩ := List.nodup_append.1 h1
    rcases hs with e | e <;> rw [e]
    · exact a1
    · exact (List.nodup_append.1 a2).1
  obtain ⟨t1, t2, _⟩ := takeH_ok (hS.half hs) hnd hin
  have hsub : SubN (numsL (takeH r.en (S.half r.o.s)).all) (numsL (S.half r.o.s).all) := ⟨[r.n], (List.perm_append_comm).trans (numsL_perm t2).symm⟩
  have eo : S.off r.en false = S.put r.o.s (takeH r.en (S.half r.o.s)) := by
    unfold Bd.off
    rw [if_neg (by decide)]
    rfl
  have hp := put_half (S := S) hs (takeH r.en (S.half r.o.s))
  refine ⟨by rw [eo]; exact put_ok hS hs t1 ((put_sub (S := S) hs hsub).nodup hS.once), hn0, ek.ok, ?_, sz, ln, by rw [eo]; exact hp.2.2.2.2.2⟩
  rw [eo, hp.2.2.2.1]
  exact ek.n
set_option maxRecDepth 100000 in
set_option maxHeartbeats 40000000 in
theorem amend_rcalls (w : World) {v : Value} {x : Rb} (hv : RowR 0 w v x.L) {S : Bd} (hS : BdOk S) (hR : Rel S x) (ht : x.turn ≤ 100000000000000) (hlen : x.L.length ≤ 4096) (hsz : sizeL S.live ≤ 100000000000) (n m pr qt : Int) :
    Calls Try.prog 63 #[rbV v x.nums x.turn x.paid, .int .i64 n, .int .i64 m, .int .i64 pr, .int .i64 qt] w (AmendR w S x n m pr qt) := by
  obtain ⟨w3, hw3⟩ : ∃ w3, w3 = (w.alloc (.cells #[v, .int .i64 x.nums, .int .i64 x.turn, .int .i64 x.paid] 49)).alloc (.cells #[.slice none 0 0, .int .i64 0, .int .i64 0, .int .i64 0] 49) := ⟨_, rfl⟩
  have b3 : Below w.heap.size w w3 := by rw [hw3]; exact ((Below.refl _ _).alloc (Nat.le_refl _) _).alloc (by simp) _
  have e3 : EnS w (w.heap.size + 1) w3 v x.L x.nums x.turn x.paid := by
    refine ⟨b3, by rw [hw3]; exact (Cells.new w _ _).alloc _, OwnE.below hv b3, by omega, ?_⟩
    rw [hw3]
    have := Cells.new (w.alloc (.cells #[v, .int .i64 x.nums, .int .i64 x.turn, .int .i64 x.paid] 49)) #[.slice none 0 0, .int .i64 0, .int .i64 0, .int .i64 0] 49
    rwa [World.size_alloc] at this
  have FD := hid (find_rcalls w3 e3.row (by omega) x.nums x.turn x.paid n)
  have E3 := hid e3
  have HW3 := hid hw3
  have HLEN := hid hlen
  have HS := hid hS
  have HR := hid hR
  have HT := hid ht
  have HSZ := hid hsz
  have XL := hid hR.len
  obtain ⟨R, hRR⟩ : ∃ R, R = AmendR w S x n m pr qt := ⟨_, rfl⟩
  have HRR := hid hRR
  rw [← hRR]
  obtain ⟨L, nums, turn, paid⟩ := x
  obtain ⟨p, cap, g, hv0, hp, hc⟩ := hv.rows
  simp only at *
  subst hv0
  obtain ⟨NL, hNL⟩ : ∃ NL, NL = L.length := ⟨_, rfl⟩
  rw [← hNL] at E3 HW3 FD ⊢
  have HNL := hid hNL
  unfold rbV at FD ⊢
  clear hlen hw3 b3 e3 hv hRR hp hc hNL hS hR ht hsz
  go_enter Try.func63, Try.ntmps63
  go_wp2_with fail
  rw [← HW3.out]
  refine FD.out.mono ?_
  rintro e w4 ⟨rfl, hb4⟩
  have E4 := hid (E3.out.after hb4)
  clear hb4 E3 FD
  obtain ⟨t0, t1, t2, t3, tl, tf0, tf1, tf2, tf3⟩ := E4.out.cell
  obtain ⟨y0, y1, y2, y3, yl, yf0, yf1, yf2, yf3⟩ := E4.out.resc
  rcases findR_spec (L := L) n with ⟨m1, _⟩ | ⟨i, hi, m1, m2⟩
  ·
    --{A
    have D := hid (E4.out.done E4.out.row nums turn paid (OwnE.nil 0 w4 : RowE 0 w4 (.slice none 0 0) []))
    have FIN := hid (show R (.returned (.tuple #[rbV (.slice p NL cap) nums turn paid, .slice none 0 0, .int .i64 4])) _ by
      rw [HRR.out]
      exact ⟨_, ⟨L, nums, turn, paid⟩, _, [], 4, rfl, D.out.row, D.out.evr, D.out.below, .inl ⟨m1, rfl, rfl, rfl⟩⟩)
    rw [m1]
    rw [show optI none = -1 from rfl]
    have g2 : decide ((-1 : Int) < 0) = true := by decide
    clear m1
    go_wp2
    exact bodyPost_ret (v := .tuple #[.agg #[.slice p NL cap, .int .i64 nums, .int .i64 turn, .int .i64 paid], .slice none 0 0, .int .i64 4]) (by simp [results, Try.results63, go_sem, D.out.res.cell]) rfl FIN.out
    --}A
  · rw [m1]
    rw [show optI (some i) = (i : Int) from rfl]
    have g2 : decide ((i : Int) < 0) = false := by simp
    obtain ⟨p2, cap2, g2', hv2, hp2, hc2⟩ := E4.out.row.rows
    obtain ⟨e1, e2, e3⟩ : p = p2 ∧ NL = L.length ∧ cap = cap2 := by injection hv2 with a b c; exact ⟨a, b, c⟩
    subst e1 e3
    obtain ⟨rfl, hg⟩ := hp2 (by omega)
    obtain ⟨c0, c1, c2, c3, c4, c5, c6, c7, c8, c9, c10, c11, c12⟩ := hc2 w4 (Below.refl _ _) i hi
    obtain ⟨r, hr⟩ : ∃ r, r = L[i] := ⟨_, rfl⟩
    rw [← hr] at c0 c1 c2 c3 c4 c5 c6 c7 c8 c9 c10 c11 c12
    have HRI := hid hr
    have M1 := hid m1
    have M2 := hid m2
    have E2 := hid e2
    have gi : (i : Int) < (NL : Int) := by omega
    have gi2 : i < NL := by omega
    have gi3 : ((i : Int)).toNat = i := by omega
    have gi4 : (0 : Int) ≤ (i : Int) := by omega
    obtain ⟨XB, hXB⟩ : ∃ XB, XB = w4.heap.size := ⟨_, rfl⟩
    obtain ⟨wa, hwa⟩ : ∃ wa, wa = w4.alloc (.cells #[.int .i64 r.n, .int .i64 r.o.m, .int .i64 r.o.s, .int .i64 r.o.k, .int .i64 r.o.f, .int .i64 r.o.p, .int .i64 r.o.t, .int .i64 r.o.q, .int .i64 r.o.pk, .int .i64 r.l, .int .i64 r.h, .bool r.w, .int .i64 r.t] 53) := ⟨_, rfl⟩
    have ea := E4.out.alloc (.cells #[.int .i64 r.n, .int .i64 r.o.m, .int .i64 r.o.s, .int .i64 r.o.k, .int .i64 r.o.f, .int .i64 r.o.p, .int .i64 r.o.t, .int .i64 r.o.q, .int .i64 r.o.pk, .int .i64 r.l, .int .i64 r.h, .bool r.w, .int .i64 r.t] 53)
    rw [← hwa] at ea
    have xa : Cells wa XB #[.int .i64 r.n, .int .i64 r.o.m, .int .i64 r.o.s, .int .i64 r.o.k, .int .i64 r.o.f, .int .i64 r.o.p, .int .i64 r.o.t, .int .i64 r.o.q, .int .i64 r.o.pk, .int .i64 r.l, .int .i64 r.h, .bool r.w, .int .i64 r.t] 53 := by rw [hwa, hXB]; exact Cells.new _ _ _
    have EA := hid ea
    have XA := hid xa
    have HWA := hid hwa
    have HXB := hid hXB
    have HX1 : w.heap.size < XB ∧ w.heap.size + 1 < XB := by rw [hXB]; exact ⟨tl, yl⟩
    have REF := hid (show ∀ er, er = amendE S r.en r.w m pr qt → er ≠ 0 → ∀ w' , EnD w (w.heap.size + 1) w' (.slice (some ⟨g2', 0, none⟩) NL cap) L nums turn paid (.slice none 0 0) [] → R (.returned (.tuple #[rbV (.slice (some ⟨g2', 0, none⟩) NL cap) nums turn paid, .slice none 0 0, .int .i64 er])) w' by
      intro er he h0 w' D
      rw [HRR.out]
      exact ⟨_, ⟨L, nums, turn, paid⟩, _, [], er, rfl, D.row, D.evr, D.below, .inr ⟨i, hi, M1.out, M2.out, .inl ⟨by rw [← HRI.out, ← he]; exact h0, by rw [← HRI.out]; exact he, rfl, rfl⟩⟩⟩)
    clear m1 m2 hv2 hp2 hc2 e2 hr ea xa hwa hXB
    go_upto_region 5 with fail
    rw [← HWA.out, ← HXB.out]
    clear c0 c1 c2 c3 c4 c5 c6 c7 c8 c9 c10 c11 c12 t0 t1 t2 t3 tl tf0 tf1 tf2 tf3 y0 y1 y2 y3 yl yf0 yf1 yf2 yf3 hg
    obtain ⟨t0, t1, t2, t3, tl, tf0, tf1, tf2, tf3⟩ := EA.out.cell
    obtain ⟨y0, y1, y2, y3, yl, yf0, yf1, yf2, yf3⟩ := EA.out.resc
    have b0 : wa.cell? ⟨XB, 0, none⟩ = some (.int .i64 r.n) := by rw [XA.out.cell]; rfl
    have b1 : wa.cell? ⟨XB, 1, none⟩ = some (.int .i64 r.o.m) := by rw [XA.out.cell]; rfl
    have b2 : wa.cell? ⟨XB, 2, none⟩ = some (.int .i64 r.o.s) := by rw [XA.out.cell]; rfl
    have b3 : wa.cell? ⟨XB, 3, none⟩ = some (.int .i64 r.o.k) := by rw [XA.out.cell]; rfl
    have b4 : wa.cell? ⟨XB, 4, none⟩ = some (.int .i64 r.o.f) := by rw [XA.out.cell]; rfl
    have b5 : wa.cell? ⟨XB, 5, none⟩ = some (.int .i64 r.o.p) := by rw [XA.out.cell]; rfl
    have b6 : wa.cell? ⟨XB, 6, none⟩ = some (.int .i64 r.o.t) := by rw [XA.out.cell]; rfl
    have b7 : wa.cell? ⟨XB, 7, none⟩ = some (.int .i64 r.o.q) := by rw [XA.out.cell]; rfl
    have b8 : wa.cell? ⟨XB, 8, none⟩ = some (.int .i64 r.o.pk) := by rw [XA.out.cell]; rfl
    have b9 : wa.cell? ⟨XB, 9, none⟩ = some (.int .i64 r.l) := by rw [XA.out.cell]; rfl
    have b10 : wa.cell? ⟨XB, 10, none⟩ = some (.int .i64 r.h) := by rw [XA.out.cell]; rfl
    have b11 : wa.cell? ⟨XB, 11, none⟩ = some (.bool r.w) := by rw [XA.out.cell]; rfl
    have b12 : wa.cell? ⟨XB, 12, none⟩ = some (.int .i64 r.t) := by rw [XA.out.cell]; rfl
    have xl := XA.out.lt
    by_cases hm : r.o.m = m
    · have g3 : (r.o.m != m) = false := by simpa using hm
      have HM := hid hm
      cases hw : r.w with
      | true =>
        --{B
        have D := hid (EA.out.done EA.out.row nums turn paid (OwnE.nil 0 wa : RowE 0 wa (.slice none 0 0) []))
        have FIN := hid (REF.out 5 (by unfold amendE; rw [if_neg (show ¬ r.en.o.m ≠ m from fun h => h hm), if_pos hw]) (by decide) _ D.out)
        rw [hw] at b11
        clear hm hw
        go_wp2
        exact bodyPost_ret (v := .tuple #[.agg #[.slice (some ⟨g2', 0, none⟩) NL cap, .int .i64 nums, .int .i64 turn, .int .i64 paid], .slice none 0 0, .int .i64 5]) (by simp [results, Try.results63, go_sem, D.out.res.cell]) rfl FIN.out
        --}B
      | false =>
        have HWF := hid hw
        rw [hw] at b11
        have b11' := hid b11
        obtain ⟨BB, hBB⟩ : ∃ BB, BB = decide (inB2 pr 1 1000000 = false ∨ inB2 qt 1 1000000000 = false) := ⟨_, rfl⟩
        have HBB := hid hBB
        clear hm hw
        unfold inB2 at hBB
        go_upto_region 9 with fail
        go_cut [42] (fun s42 wx => s42 = .bool BB ∧ wx = wa)
        case first =>
          --{C
          by_cases q1 : pr < 1
          · have e : BB = true := by rw [hBB]; simp; omega
            subst e
            clear hBB
            have f1 : decide (pr < 1) = true := by simpa using q1
            go_wp2
            go_meet
            exact ⟨rfl, rfl⟩
          · have f1 : decide (pr < 1) = false := by simpa using q1
            by_cases q2 : 1000000 < pr
            · have e : BB = true := by rw [hBB]; simp; omega
              subst e
              clear hBB
              have f2 : decide (1000000 < pr) = true := by simpa using q2
              go_wp2
              go_meet
              exact ⟨rfl, rfl⟩
            · have f2 : decide (1000000 < pr) = false := by simpa using q2
              by_cases q3 : qt < 1
              · have e : BB = true := by rw [hBB]; simp; omega
                subst e
                clear hBB
                have f3 : decide (qt < 1) = true := by simpa using q3
                go_wp2
                go_meet
                exact ⟨rfl, rfl⟩
              · have f3 : decide (qt < 1) = false := by simpa using q3
                have f4 : decide (1000000000 < qt) = BB := by rw [hBB, Bool.eq_iff_iff]; simp; omega
                have HF4 := hid f4
                clear hBB f4
                go_wp2
                go_meet
                exact ⟨by rw [HF4.out], rfl⟩
          --}C
        case rest =>
          obtain ⟨rfl, rfl⟩ := hcut
          clear hBB
          cases BB with
          | true =>
            --{D
            have D := hid (EA.out.done EA.out.row nums turn paid (OwnE.nil 0 wc : RowE 0 wc (.slice none 0 0) []))
            have FIN := hid (REF.out 1 (by unfold amendE; rw [if_neg (show ¬ r.en.o.m ≠ m from fun h => h HM.out), if_neg (by rw [HWF.out]; decide), if_pos (of_decide_eq_true HBB.out.symm)]) (by decide) _ D.out)
            go_wp2
            exact bodyPost_ret (v := .tuple #[.agg #[.slice (some ⟨g2', 0, none⟩) NL cap, .int .i64 nums, .int .i64 turn, .int .i64 paid], .slice none 0 0, .int .i64 1]) (by simp [results, Try.results63, go_sem, D.out.res.cell]) rfl FIN.out
            --}D
          | false =>
            have hb := of_decide_eq_false HBB.out.symm
            have hAE : amendE S r.en r.w m pr qt = 0 := by unfold amendE; rw [if_neg (show ¬ r.en.o.m ≠ m from fun h => h HM.out), if_neg (by rw [HWF.out]; decide), if_neg hb]
            have hpq : (1 ≤ pr ∧ pr ≤ 1000000) ∧ (1 ≤ qt ∧ qt ≤ 1000000000) := by
              constructor
              · cases e : inB2 pr 1 1000000 with
                | true => exact inB2_iff.1 e
                | false => exact absurd (.inl e) hb
              · cases e : inB2 qt 1 1000000000 with
                | true => exact inB2_iff.1 e
                | false => exact absurd (.inr e) hb
            obtain ⟨hpr, hqt⟩ := hpq
            have HAE := hid hAE
            have CP := hid (copy_rcalls wc EA.out.row (by have h1 : L.length ≤ 4096 := HLEN.out; omega) nums turn paid)
            unfold rbV at CP
            clear hb hAE
            go_wp2_with fail
            refine CP.out.mono ?_
            rintro e w7 ⟨v7, rfl, hr7, hb7⟩
            have e7 := EA.out.after hb7
            have x7 := XA.out.below hb7 XA.out.lt
            obtain ⟨u0, u1, u2, u3, ul, uf0, uf1, uf2, uf3⟩ := e7.cell
            have q8 := (put_rb e7.bd rfl v7 (.int .i64 nums) (.int .i64 turn) (.int .i64 paid)).2
            have e8 := (e7.setAll (OwnE.mono hr7 (Nat.zero_le _)) nums turn paid)
            have r8 : RowR XB _ v7 L := OwnE.far (OwnE.mono hr7 (by have := XA.out.lt; omega)) e7.bd (by decide) q8
            have r8' : RowR wc.heap.size _ v7 L := OwnE.far hr7 e7.bd (by decide) q8
            have x8 := x7.kept q8 (by omega)
            obtain ⟨p7, cap7, g7, hv7, hp7, _⟩ := hr7.rows
            rw [← HNL.out] at hv7 hp7
            obtain ⟨rfl, _⟩ := hp7 (by omega)
            subst hv7
            obtain ⟨w8, hw8⟩ : ∃ w8, w8 = (((w7.setCell ⟨w.heap.size, 0, none⟩ (.slice (some ⟨g7, 0, none⟩) NL cap7)).setCell ⟨w.heap.size, 1, none⟩ (.int .i64 nums)).setCell ⟨w.heap.size, 2, none⟩ (.int .i64 turn)).setCell ⟨w.heap.size, 3, none⟩ (.int .i64 paid) := ⟨_, rfl⟩
            rw [← hw8] at e8 r8 x8 r8'
            have hg7 : XB < g7 := by have h1 := own_ge r8' g7 rfl; have h2 := XA.out.lt; omega
            have E8 := hid e8
            have R8 := hid r8
            have X8 := hid x8
            have HW8 := hid hw8
            clear t0 t1 t2 t3 tl tf0 tf1 tf2 tf3 y0 y1 y2 y3 yl yf0 yf1 yf2 yf3 b0 b1 b2 b3 b4 b5 b6 b7 b8 b9 b10 b11 b11' b12 xl hr7 hb7 e7 x7 q8 e8 r8 r8' x8 hp7 hw8 CP
            go_upto_region 12 with fail
            rw [← HW8.out]
            clear u0 u1 u2 u3 ul uf0 uf1 uf2 uf3
            obtain ⟨t0, t1, t2, t3, tl, tf0, tf1, tf2, tf3⟩ := E8.out.cell
            have b5 : w8.cell? ⟨XB, 5, none⟩ = some (.int .i64 r.o.p) := by rw [X8.out.cell]; rfl
            have b9 : w8.cell? ⟨XB, 9, none⟩ = some (.int .i64 r.l) := by rw [X8.out.cell]; rfl
            have xl := X8.out.lt
            obtain ⟨SB, hSB⟩ : ∃ SB, SB = decide (pr = r.o.p ∧ qt ≤ r.l) := ⟨_, rfl⟩
            have HSB := hid hSB
            go_cut [70] (fun s70 wx => s70 = .bool SB ∧ wx = w8)
            case first =>
              --{E
              by_cases q1 : pr = r.o.p
              · have f1 : (pr == r.o.p) = true := by simpa using q1
                have f2 : decide (qt ≤ r.l) = SB := by rw [hSB]; simp [q1]
                have HF2 := hid f2
                clear hSB f2 q1
                go_wp2
                go_meet
                exact ⟨by rw [HF2.out], rfl⟩
              · have f1 : (pr == r.o.p) = false := by simpa using q1
                have e : SB = false := by rw [hSB]; simp [q1]
                subst e
                clear hSB q1
                go_wp2
                go_meet
                exact ⟨rfl, rfl⟩
              --}E
            case rest =>
              obtain ⟨rfl, rfl⟩ := hcut
              clear hSB
              cases SB with
              | true =>
                have hsame := of_decide_eq_true HSB.out.symm
                --{G
                obtain ⟨mh, hmh⟩ : ∃ mh, mh = min r.h qt := ⟨_, rfl⟩
                have HMH := hid hmh
                have k1 := (Kept.refl (fun k => k = XB) wc).set (C := XB) rfl 9 (.int .i64 qt)
                have x1 := X8.out.set 9 (.int .i64 qt)
                have k2 := k1.set (C := XB) rfl 10 (.int .i64 mh)
                have x2 := x1.set 10 (.int .i64 mh)
                have row2 := OwnE.kept (OwnE.mono R8.out (Nat.zero_le _)) k2 (fun b hb e => by injection hb with hb; subst hb; have h : g7 = XB := e; omega)
                have e2 := E8.out.far k2 (fun k e => by subst e; exact ⟨by omega, by omega, by omega⟩) row2
                obtain ⟨W2, hW2⟩ : ∃ W2, W2 = (wc.setCell ⟨XB, 9, none⟩ (.int .i64 qt)).setCell ⟨XB, 10, none⟩ (.int .i64 mh) := ⟨_, rfl⟩
                rw [← hW2] at x2 row2 e2
                obtain ⟨z, hz⟩ : ∃ z : Rn, z = { r with l := qt, h := mh } := ⟨_, rfl⟩
                have rs := row_set (B := 0) (w := W2) (g := g7) (cap := cap7) (L := L) (by rw [← HNL.out]; exact row2) hi z
                rw [← HNL.out] at rs
                have e3 := e2.far rs.2 (fun k e => by subst e; exact ⟨by omega, by omega, by omega⟩) rs.1
                obtain ⟨W3, hW3⟩ : ∃ W3, W3 = putRn W2 g7 (i * 13) z := ⟨_, rfl⟩
                rw [← hW3] at e3
                have D := hid (e3.done e3.row nums turn paid (OwnE.nil 0 W3 : RowE 0 W3 (.slice none 0 0) []))
                have LR := hid (less_rel HR.out HS.out hi (by rw [← HRI.out]; exact HWF.out) qt)
                have FIN := hid (show R (.returned (.tuple #[rbV (.slice (some ⟨g7, 0, none⟩) NL cap7) nums turn paid, .slice none 0 0, .int .i64 0])) _ by
                  rw [HRR.out]
                  refine ⟨_, ⟨L.set i z, nums, turn, paid⟩, _, [], 0, rfl, D.out.row, D.out.evr, D.out.below, .inr ⟨i, hi, M1.out, M2.out, .inr ⟨by rw [← HRI.out]; exact HAE.out, rfl, ?_, ?_, by simp⟩⟩⟩
                  · unfold amendF; rw [if_pos (by rw [← HRI.out]; exact hsame)]
                  · have h1 : (amendF S L[i].en pr qt).1 = S.put L[i].o.s (updH L[i].n qt (S.half L[i].o.s)) := by unfold amendF; rw [if_pos (by rw [← HRI.out]; exact hsame)]; rfl
                    have h2 : z = { L[i] with l := qt, h := min L[i].h qt } := by rw [hz, hmh, HRI.out]
                    show Rel (amendF S L[i].en pr qt).1 _
                    rw [h1, h2]
                    exact LR.out)
                have E2' := hid e2
                have X2 := hid x2
                have HW2 := hid hW2
                have E3' := hid e3
                have ROW2 := hid row2
                have HW3 : Hid (W3 = putRn W2 g7 (i * 13) { r with l := qt, h := mh }) := hid (by rw [hW3, hz])
                unfold putRn at HW3
                simp only at HW3
                have b10 : wc.cell? ⟨XB, 10, none⟩ = some (.int .i64 r.h) := by rw [X8.out.cell]; rfl
                have bf9 := X8.out.frozen 9
                have bf10 := X8.out.frozen 10
                clear hmh k1 x1 k2 x2 row2 e2 hW2 rs e3 hW3 hz hsame
                go_upto_region 14 with fail
                go_cut [76] (fun s76 wx => wx = (wc.setCell ⟨XB, 9, none⟩ (.int .i64 qt)).setCell ⟨XB, 10, none⟩ (.int .i64 mh))
                case first =>
                  by_cases hc : r.h ≤ qt
                  · have e : mh = r.h := by have := HMH.out; omega
                    subst e
                    go_wp2
                    go_meet
                    exact rfl
                  · have e : mh = qt := by have := HMH.out; omega
                    subst e
                    go_wp2
                    go_meet
                    exact rfl
                case rest =>
                  rw [hcut, ← HW2.out]
                  clear hcut wc
                  clear t0 t1 t2 t3 tl tf0 tf1 tf2 tf3 b5 b9 b10 bf9 bf10 xl
                  obtain ⟨t0, t1, t2, t3, tl, tf0, tf1, tf2, tf3⟩ := E2'.out.cell
                  have b0 : W2.cell? ⟨XB, 0, none⟩ = some (.int .i64 r.n) := by rw [X2.out.cell]; rfl
                  have b1 : W2.cell? ⟨XB, 1, none⟩ = some (.int .i64 r.o.m) := by rw [X2.out.cell]; rfl
                  have b2 : W2.cell? ⟨XB, 2, none⟩ = some (.int .i64 r.o.s) := by rw [X2.out.cell]; rfl
                  have b3 : W2.cell? ⟨XB, 3, none⟩ = some (.int .i64 r.o.k) := by rw [X2.out.cell]; rfl
                  have b4 : W2.cell? ⟨XB, 4, none⟩ = some (.int .i64 r.o.f) := by rw [X2.out.cell]; rfl
                  have b5 : W2.cell? ⟨XB, 5, none⟩ = some (.int .i64 r.o.p) := by rw [X2.out.cell]; rfl
                  have b6 : W2.cell? ⟨XB, 6, none⟩ = some (.int .i64 r.o.t) := by rw [X2.out.cell]; rfl
                  have b7 : W2.cell? ⟨XB, 7, none⟩ = some (.int .i64 r.o.q) := by rw [X2.out.cell]; rfl
                  have b8 : W2.cell? ⟨XB, 8, none⟩ = some (.int .i64 r.o.pk) := by rw [X2.out.cell]; rfl
                  have b9 : W2.cell? ⟨XB, 9, none⟩ = some (.int .i64 qt) := by rw [X2.out.cell]; rfl
                  have b10 : W2.cell? ⟨XB, 10, none⟩ = some (.int .i64 mh) := by rw [X2.out.cell]; rfl
                  have b11 : W2.cell? ⟨XB, 11, none⟩ = some (.bool r.w) := by rw [X2.out.cell]; rfl
                  have b12 : W2.cell? ⟨XB, 12, none⟩ = some (.int .i64 r.t) := by rw [X2.out.cell]; rfl
                  have xl := X2.out.lt
                  obtain ⟨p4, cap4, g4, hv4, hp4, hc4⟩ := ROW2.out.rows
                  obtain ⟨hg4, hgl⟩ := hp4 (by omega)
                  obtain rfl : g7 = g4 := by injection hv4 with a; rw [hg4] at a; injection a with a; injection a
                  obtain ⟨c0, c1, c2, c3, c4, c5, c6, c7, c8, c9, c10, c11, c12⟩ := hc4 W2 (Below.refl _ _) i hi
                  obtain ⟨cs4, hcs4⟩ := own_lt ROW2.out (x := g7) rfl
                  have cf := hcs4.frozen
                  clear hv4 hp4 hc4 hg4 hcs4
                  go_upto_region 16 with fail
                  rw [← HW3.out]
                  clear t0 t1 t2 t3 tl tf0 tf1 tf2 tf3 b0 b1 b2 b3 b4 b5 b6 b7 b8 b9 b10 b11 b12 xl c0 c1 c2 c3 c4 c5 c6 c7 c8 c9 c10 c11 c12 cf hgl
                  obtain ⟨t0, t1, t2, t3, tl, tf0, tf1, tf2, tf3⟩ := E3'.out.cell
                  obtain ⟨y0, y1, y2, y3, yl, yf0, yf1, yf2, yf3⟩ := E3'.out.resc
                  go_wp2
                  exact bodyPost_ret (v := .tuple #[.agg #[.slice (some ⟨g7, 0, none⟩) NL cap7, .int .i64 nums, .int .i64 turn, .int .i64 paid], .slice none 0 0, .int .i64 0]) (by simp [results, Try.results63, go_sem, D.out.res.cell]) rfl FIN.out
                --}G
              | false =>
                --{H
                have hnot := of_decide_eq_false HSB.out.symm
                obtain ⟨mq, hmq⟩ : ∃ mq, mq = min r.o.pk qt := ⟨_, rfl⟩
                have HMQ := hid hmq
                have OB := hid (off_bdok HR.out HS.out hi (by rw [← HRI.out]; exact HWF.out))
                have OR' := hid (off_rel HR.out HS.out hi)
                have hii : (⟨L, nums, turn, paid⟩ : Rb).L[i] = r := HRI.out.symm
                obtain ⟨bo, bn, bk, bnn, bsz, bln, bwt⟩ := OB.out
                have or1 := OR'.out
                rw [hii] at bo bn bk bnn bsz bln bwt or1
                rw [HWF.out] at or1
                have hrn : r.n = n := by rw [HRI.out]; exact M2.out
                rw [hrn] at bn bnn
                obtain ⟨S1, hS1⟩ : ∃ S1, S1 = S.off r.en false := ⟨_, rfl⟩
                rw [← hS1] at bo bn bnn bsz bln bwt or1
                have hamo := amO_ok bk hpr hqt
                obtain ⟨C1, hC1⟩ : ∃ C1, C1 = comeF S1 n (amO r.o pr qt) qt [] := ⟨_, rfl⟩
                have HC1 := hid hC1
                have EF := hid (show amendF S r.en pr qt = stopsF C1.1.wait.length C1.1 C1.2 by
                  unfold amendF
                  rw [if_neg (show ¬ (pr = r.en.o.p ∧ qt ≤ r.en.l) from hnot), ← hS1]
                  have e1 : r.en.n = n := hrn
                  have e2 : r.en.o = r.o := rfl
                  simp only [e1, e2]
                  rw [← hC1])
                have CO := hid (show ComeOk S1 n qt [] C1 by rw [hC1]; exact comeF_ok bo hamo bnn bn (left := qt) (by show 1 ≤ qt ∧ qt ≤ qt; omega) (evs := []) (by simp))
                have BO := hid bo
                have BN := hid bn
                have BNN := hid bnn
                have BSZ := hid bsz
                have BLN := hid bln
                have BWT := hid bwt
                have OR1 := hid or1
                have HAMO := hid hamo
                have WO := hid (without_rcalls wc E8.out.row (by have h1 : L.length ≤ 4096 := HLEN.out; omega) hi)
                clear hnot hmq hii bo bn bk bnn bsz bln bwt or1 hrn hS1 hamo hC1
                go_wp2_with fail
                refine WO.out.mono ?_
                rintro e w9 ⟨v9, rfl, hr9, hb9⟩
                have e9 := E8.out.after hb9
                have x9 := X8.out.below hb9 X8.out.lt
                have e10 := e9.setRow (OwnE.mono hr9 (Nat.zero_le _))
                have x10 := x9.set_far (C := w.heap.size) 0 v9 (by omega)
                obtain ⟨u0, u1, u2, u3, ul, uf0, uf1, uf2, uf3⟩ := e9.cell
                obtain ⟨p9, n9, hv9, _⟩ := hr9.form
                generalize hm9 : (L.eraseIdx i).length = m9 at hv9
                subst hv9
                obtain ⟨w10, hw10⟩ : ∃ w10, w10 = w9.setCell ⟨w.heap.size, 0, none⟩ (.slice p9 m9 n9) := ⟨_, rfl⟩
                rw [← hw10] at e10 x10
                have E10 := hid e10
                have X10 := hid x10
                have HW10 := hid hw10
                have RR9 := hid (OwnE.mono (B' := 0) hr9 (Nat.zero_le _))
                clear t0 t1 t2 t3 tl tf0 tf1 tf2 tf3 b5 b9 xl hr9 hb9 e9 x9 e10 x10 hw10 hm9 WO
                go_upto_region 18 with fail
                rw [← HW10.out]
                clear u0 u1 u2 u3 ul uf0 uf1 uf2 uf3
                have b1 : w10.cell? ⟨XB, 1, none⟩ = some (.int .i64 r.o.m) := by rw [X10.out.cell]; rfl
                have b2 : w10.cell? ⟨XB, 2, none⟩ = some (.int .i64 r.o.s) := by rw [X10.out.cell]; rfl
                have b8 : w10.cell? ⟨XB, 8, none⟩ = some (.int .i64 r.o.pk) := by rw [X10.out.cell]; rfl
                have xl := X10.out.lt
                go_cut [15] (fun s15 wx => s15 = pt w10.heap.size ∧ wx = w10.alloc (.cells #[.int .i64 r.o.m, .int .i64 r.o.s, .int .i64 1, .int .i64 1, .int .i64 pr, .int .i64 0, .int .i64 qt, .int .i64 mq] 27))
                case first =>
                  by_cases hc : r.o.pk ≤ qt
                  · have e : mq = r.o.pk := by have := HMQ.out; omega
                    subst e
                    go_wp2
                    go_meet
                    exact ⟨rfl, rfl⟩
                  · have e : mq = qt := by have := HMQ.out; omega
                    subst e
                    go_wp2
                    go_meet
                    exact ⟨rfl, rfl⟩
                case rest =>
                  obtain ⟨rfl, hwc⟩ := hcut
                  obtain ⟨w11a, hw11a⟩ : ∃ w11a, w11a = w10.alloc (.cells #[.int .i64 r.o.m, .int .i64 r.o.s, .int .i64 1, .int .i64 1, .int .i64 pr, .int .i64 0, .int .i64 qt, .int .i64 mq] 27) := ⟨_, rfl⟩
                  rw [hwc, ← hw11a]
                  clear hwc wc
                  have e9 := E10.out.alloc (.cells #[.int .i64 r.o.m, .int .i64 r.o.s, .int .i64 1, .int .i64 1, .int .i64 pr, .int .i64 0, .int .i64 qt, .int .i64 mq] 27)
                  have o9 := Cells.new w10 #[.int .i64 r.o.m, .int .i64 r.o.s, .int .i64 1, .int .i64 1, .int .i64 pr, .int .i64 0, .int .i64 qt, .int .i64 mq] 27
                  rw [← hw11a] at e9 o9
                  obtain ⟨w9, hw9⟩ : ∃ w9, w9 = w11a := ⟨_, rfl⟩
                  rw [← hw9] at e9 o9 ⊢
                  clear hw9 hw11a b1 b2 b8 xl
                  have E9 := hid e9
                  obtain ⟨t0, t1, t2, t3, tl, tf0, tf1, tf2, tf3⟩ := E9.out.cell
                  obtain ⟨o0, o1, o2, o3, o4, o5, o6, o7, ol⟩ := ord_cells (o := ⟨r.o.m, r.o.s, 1, 1, pr, 0, qt, mq⟩) o9
                  simp only at o0 o1 o2 o3 o4 o5 o6 o7
                  have CI := hid (comeIn_rcalls w9 (x := ⟨L.eraseIdx i, nums, turn, paid⟩) (n := n) (v := .slice p9 m9 n9) e9.row BO.out OR1.out BNN.out BN.out HAMO.out (by have h1 : L.length ≤ 4096 := HLEN.out; show (L.eraseIdx i).length ≤ _; rw [List.length_eraseIdx]; split <;> omega) (by have h1 : turn ≤ 100000000000000 := HT.out; show turn ≤ _; omega) (by have h1 := HSZ.out; have h2 := BSZ.out; omega))
                  unfold rbV Od.vals amO at CI
                  simp only at CI
                  rw [← HMQ.out] at CI
                  clear e9 o9
                  go_wp2_with fail
                  refine CI.out.mono ?_
                  rintro e w11 ⟨v11, x11, ve11, rfl, hr11, he11, rl11, ht11, hb11⟩
                  unfold rbV
                  have hcc : comeF S1 n ⟨r.o.m, r.o.s, 1, 1, pr, 0, qt, mq⟩ qt [] = C1 := by rw [HC1.out, HMQ.out]; rfl
                  simp only at he11 rl11 ht11
                  rw [hcc] at he11 rl11 ht11
                  clear hcc
                  obtain ⟨L11, nums11, turn11, paid11⟩ := x11
                  simp only at ht11
                  have e11 := E9.out.after hb11
                  obtain ⟨w12, hw12⟩ : ∃ w12, w12 = w11.alloc (.cells #[v11, .int .i64 nums11, .int .i64 turn11, .int .i64 paid11] 49) := ⟨_, rfl⟩
                  have e12 := e11.alloc (.cells #[v11, .int .i64 nums11, .int .i64 turn11, .int .i64 paid11] 49)
                  rw [← hw12] at e12
                  have c12 : Cells w12 w11.heap.size #[v11, .int .i64 nums11, .int .i64 turn11, .int .i64 paid11] 49 := by rw [hw12]; exact Cells.new _ _ _
                  have hr12 : RowR 0 w12 v11 L11 := by rw [hw12]; exact (OwnE.mono hr11 (Nat.zero_le _)).alloc _
                  have hE12 : RowE w9.heap.size w12 ve11 C1.2 := by rw [hw12]; exact OwnE.alloc he11 _
                  have he12 : RowE 0 w12 ve11 C1.2 := OwnE.mono hE12 (Nat.zero_le _)
                  have hsz12 : C1.2.length + sizeL C1.1.live + 2 * C1.1.wait.length ≤ 1000000000000 := by
                    have h1 := CO.out.size
                    have h2 := HSZ.out
                    have h3 := BSZ.out
                    have h4 : C1.1.wait.length ≤ S.live.length := by rw [CO.out.wait, BWT.out]; unfold Bd.live; simp only [List.length_append]; omega
                    have h5 : NL = S.live.length := by rw [HNL.out]; exact XL.out
                    have h6 : L.length ≤ 4096 := HLEN.out
                    have h7 := HNL.out
                    simp only [List.length_nil] at h1
                    omega
                  have hl12 : L11.length ≤ 5000 := by
                    have h1 := CO.out.sub.len
                    have h2 : L11.length = C1.1.live.length := rl11.len
                    have h5 : NL = S.live.length := by rw [HNL.out]; exact XL.out
                    have h6 : L.length ≤ 4096 := HLEN.out
                    have h7 := HNL.out
                    have h8 := BLN.out
                    simp only [numsL, List.length_map, List.length_cons] at h1
                    omega
                  have SP := hid (stops_rcalls w12 (x := ⟨L11, nums11, turn11, paid11⟩) hr12 CO.out.ok rl11 he12 (turn0 := turn) ht11 (by have h1 : turn ≤ 100000000000000 := HT.out; omega) hl12 hsz12)
                  unfold rbV at SP
                  simp only at SP
                  rw [← EF.out] at SP
                  obtain ⟨p11, n11, hv11, _⟩ := hr12.form
                  generalize hm11 : L11.length = m11 at hv11
                  subst hv11
                  obtain ⟨pf, cf, hvf, _⟩ := he12.form
                  generalize hmf : C1.2.length = mf at hvf
                  subst hvf
                  have d10 : w12.cell? ⟨w11.heap.size, 0, none⟩ = some (.slice p11 m11 n11) := by rw [c12.cell]; rfl
                  have d11 : w12.cell? ⟨w11.heap.size, 1, none⟩ = some (.int .i64 nums11) := by rw [c12.cell]; rfl
                  have d12 : w12.cell? ⟨w11.heap.size, 2, none⟩ = some (.int .i64 turn11) := by rw [c12.cell]; rfl
                  have d13 : w12.cell? ⟨w11.heap.size, 3, none⟩ = some (.int .i64 paid11) := by rw [c12.cell]; rfl
                  have dl := c12.lt
                  have E12 := hid e12
                  have HE12 := hid hE12
                  have HW12 := hid hw12
                  have HN9 := hid E9.out.below.size
                  clear hr11 he11 rl11 ht11 hb11 e11 hw12 e12 c12 hr12 hE12 he12 hsz12 hl12 hm11 hmf t0 t1 t2 t3 tl tf0 tf1 tf2 tf3 o0 o1 o2 o3 o4 o5 o6 o7 ol
                  go_upto_region 20 with fail
                  rw [← HW12.out]
                  go_wp2_with fail
                  refine SP.out.mono ?_
                  rintro e w13 ⟨v13, x13, ve13, rfl, hr13, he13, rl13, bo13, ht13, hk13⟩
                  unfold rbV
                  obtain ⟨L13, nums13, turn13, paid13⟩ := x13
                  have rowk : RowR 0 w13 (.slice p9 m9 n9) (L.eraseIdx i) := OwnE.kept E12.out.row hk13 (own_other E12.out.row HE12.out (by decide))
                  have e13 := E12.out.far hk13 (fun k e => ⟨Nat.le_trans HN9.out (own_ge HE12.out k e.symm), row_ne HE12.out E12.out.bd (by decide) k e.symm, row_ne HE12.out E12.out.res (by decide) k e.symm⟩) rowk
                  have e14 := e13.alloc (.cells #[v13, .int .i64 nums13, .int .i64 turn13, .int .i64 paid13] 49)
                  obtain ⟨w14, hw14⟩ : ∃ w14, w14 = w13.alloc (.cells #[v13, .int .i64 nums13, .int .i64 turn13, .int .i64 paid13] 49) := ⟨_, rfl⟩
                  rw [← hw14] at e14
                  have c14 : Cells w14 w13.heap.size #[v13, .int .i64 nums13, .int .i64 turn13, .int .i64 paid13] 49 := by rw [hw14]; exact Cells.new _ _ _
                  have hr14 : RowR 0 w14 v13 L13 := by rw [hw14]; exact OwnE.alloc hr13 _
                  have he14 : RowE 0 w14 ve13 (amendF S r.en pr qt).2 := by rw [hw14]; exact OwnE.alloc he13 _
                  obtain ⟨p13, n13, hv13, _⟩ := hr14.form
                  generalize L13.length = m13 at hv13
                  subst hv13
                  obtain ⟨pg, cg, hvg, _⟩ := he14.form
                  generalize (amendF S r.en pr qt).2.length = mg at hvg
                  subst hvg
                  have D14 := hid (e14.done hr14 nums13 turn13 paid13 he14)
                  have FIN := hid (show R (.returned (.tuple #[rbV (.slice p13 m13 n13) nums13 turn13 paid13, .slice pg mg cg, .int .i64 0])) _ by
                    rw [HRR.out]
                    refine ⟨_, ⟨L13, nums13, turn13, paid13⟩, _, _, 0, rfl, D14.out.row, D14.out.evr, D14.out.below, .inr ⟨i, hi, M1.out, M2.out, .inr ⟨by rw [← HRI.out]; exact HAE.out, rfl, ?_, ?_, ht13⟩⟩⟩
                    · rw [← HRI.out]
                    · show Rel (amendF S L[i].en pr qt).1 _
                      rw [← HRI.out]
                      exact rl13)
                  have d0 : w14.cell? ⟨w13.heap.size, 0, none⟩ = some (.slice p13 m13 n13) := by rw [c14.cell]; rfl
                  have d1' : w14.cell? ⟨w13.heap.size, 1, none⟩ = some (.int .i64 nums13) := by rw [c14.cell]; rfl
                  have d2' : w14.cell? ⟨w13.heap.size, 2, none⟩ = some (.int .i64 turn13) := by rw [c14.cell]; rfl
                  have d3' : w14.cell? ⟨w13.heap.size, 3, none⟩ = some (.int .i64 paid13) := by rw [c14.cell]; rfl
                  have dl' := c14.lt
                  obtain ⟨y0, y1, y2, y3, yl, yf0, yf1, yf2, yf3⟩ := e14.resc
                  have HW14 := hid hw14
                  clear hr13 he13 rl13 bo13 ht13 hk13 rowk e13 e14 hw14 c14 hr14 he14 d10 d11 d12 d13 dl
                  go_upto_region 21 with fail
                  rw [← HW14.out]
                  go_wp2
                  exact bodyPost_ret (v := .tuple #[.agg #[.slice p13 m13 n13, .int .i64 nums13, .int .i64 turn13, .int .i64 paid13], .slice pg mg cg, .int .i64 0]) (by simp [results, Try.results63, go_sem, D14.out.res.cell]) rfl FIN.out
                --}H
    ·
      --{F
      have g3 : (r.o.m != m) = true := by simpa using hm
      have D := hid (EA.out.done EA.out.row nums turn paid (OwnE.nil 0 wa : RowE 0 wa (.slice none 0 0) []))
      have FIN := hid (REF.out 8 (by unfold amendE; rw [if_pos (show r.en.o.m ≠ m from hm)]) (by decide) _ D.out)
      clear hm
      go_wp2
      exact bodyPost_ret (v := .tuple #[.agg #[.slice (some ⟨g2', 0, none⟩) NL cap, .int .i64 nums, .int .i64 turn, .int .i64 paid], .slice none 0 0, .int .i64 8]) (by simp [results, Try.results63, go_sem, D.out.res.cell]) rfl FIN.out
      --}F
end Go.Proofs.Ytdjhpldiifdifaa
