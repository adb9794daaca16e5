/- board.Enter: an order that is taken. -/
import Derived.Test.YtdjhpldiifdifaaJEnt
namespace Go.Proofs.Ytdjhpldiifdifaa
set_option linter.unusedSimpArgs false
set_option linter.unusedVariables false
open Go.RowKit Go.Shelf
attribute [local go_sem] Oper.semAt_some
attribute [local go_sem ↓] Go.wp_at_zero Go.wp_at_succ

theorem bd_nums {S : Bd} (hS : BdOk S) (hn : S.nums < 1000000) : BdOk { S with nums := S.nums + 1 } := by
  have hN := hS.nums
  exact ⟨by simp only; omega, hS.last, hS.buy.mono (by simp only; omega), hS.sell.mono (by simp only; omega), fun e he => (hS.wait e he).mono (by simp only; omega), hS.rise, hS.once⟩
theorem bd_fresh {S : Bd} (hS : BdOk S) : S.nums + 1 ∉ numsL S.live := fun h => by
  obtain ⟨e, he, hen⟩ := List.mem_map.1 h
  have : 1 ≤ e.n ∧ e.n ≤ S.nums := by
    unfold Bd.live at he
    rcases List.mem_append.1 he with he | he
    · exact (hS.buy.mem e he).n
    · rcases List.mem_append.1 he with he | he
      · exact (hS.sell.mem e he).n
      · exact (hS.wait e he).n
  omega
theorem bd_wait {S : Bd} (hS : BdOk S) (hn : S.nums < 1000000) {o : Od} (ho : o.ok = true) (ht : o.t ≠ 0) : BdOk { S with nums := S.nums + 1, wait := S.wait ++ [⟨S.nums + 1, o, o.q, 0⟩] } ∧ (Bd.live { S with nums := S.nums + 1, wait := S.wait ++ [⟨S.nums + 1, o, o.q, 0⟩] }).Perm (⟨S.nums + 1, o, o.q, 0⟩ :: S.live) := by
  have hN := hS.nums
  have hq := okQ ho
  have hS1 := bd_nums hS hn
  have hnew := bd_fresh hS
  have hW : WOk (S.nums + 1) ⟨S.nums + 1, o, o.q, 0⟩ := ⟨by simp only; omega, ho, rfl, rfl, ht⟩
  have hp : (Bd.live { S with nums := S.nums + 1, wait := S.wait ++ [⟨S.nums + 1, o, o.q, 0⟩] }).Perm (⟨S.nums + 1, o, o.q, 0⟩ :: S.live) := by
    unfold Bd.live
    simp only
    have h1 : (S.wait ++ [(⟨S.nums + 1, o, o.q, 0⟩ : En)]).Perm (⟨S.nums + 1, o, o.q, 0⟩ :: S.wait) := List.perm_append_comm
    exact (((h1.append_left S.sell.all).trans List.perm_middle).append_left S.buy.all).trans List.perm_middle
  have hnp := numsL_perm hp
  refine ⟨⟨hS1.nums, hS1.last, hS1.buy, hS1.sell, fun e he => ?_, ?_, hnp.nodup_iff.2 (List.nodup_cons.2 ⟨hnew, hS.once⟩)⟩, hp⟩
  · rcases List.mem_append.1 he with he | he
    · exact hS1.wait e he
    · simp only [List.mem_cons, List.not_mem_nil, or_false] at he
      subst he; exact hW
  · refine List.pairwise_append.2 ⟨hS.rise, by simp, fun u hu v hv => ?_⟩
    simp only [List.mem_cons, List.not_mem_nil, or_false] at hv
    subst hv
    have := (hS.wait u hu).n
    simp only; omega
/-- What Enter has done ahead of the stops. -/
def entR (S : Bd) (o : Od) : Bd × List Ev := if o.t = 0 then comeF { S with nums := S.nums + 1 } (S.nums + 1) o o.q [] else ({ S with nums := S.nums + 1, wait := S.wait ++ [⟨S.nums + 1, o, o.q, 0⟩] }, [⟨8, S.nums + 1, 0, 0, o.q⟩])
theorem enterF_entR (S : Bd) (o : Od) : enterF S o = stopsF (entR S o).1.wait.length (entR S o).1 (entR S o).2 := rfl
/-- Ahead of the stops, in memory. -/
structure EntB (O : Nat → Nat) (q : Nat) (w W : World) (b : Nat) (G : Mm) (nums last : Int) (o : Od) (X : Nat) (O1 : Nat → Nat) (G1 : Mm) (l1 : Int) : Prop where
  bd : BdC O1 q W b G1 (nums + 1) l1 (entR (G.bd nums last) o).2
  eq : G1.bd (nums + 1) l1 = (entR (G.bd nums last) o).1
  ev : ∀ e ∈ (entR (G.bd nums last) o).2, EvOk (nums + 1) e
  size : (entR (G.bd nums last) o).2.length + sizeL (entR (G.bd nums last) o).1.live ≤ 2000000000000
  step : Step (colB q) O w O1 W
  trk : Trk O1 W G1 X (nums + 1)

set_option maxRecDepth 100000 in
set_option maxHeartbeats 8000000 in
theorem enter_yes {O : Nat → Nat} {q : Nat} {w : World} {b : Nat} {G : Mm} {nums last : Int} (h : BdC O q w b G nums last []) (o : Od) (hE : enterE (G.bd nums last) o = 0) (hn : nums < 1000000) (hsz : sizeL (G.bd nums last).live ≤ 1000000000000) :
    Calls Try.prog 17 #[pt b, .agg o.vals] w (EnterP O q w b G nums last o) := by
  have HA := hid (fun W hb => entA (W := W) (o := o) h hb)
  have va := valid_calls o (w.alloc (.cells #[.int .i64 o.m, .int .i64 o.s, .int .i64 o.k, .int .i64 o.f, .int .i64 o.p, .int .i64 o.t, .int .i64 o.q, .int .i64 o.pk] 38))
  have hE' := hE
  unfold enterE at hE'
  have hlive : (G.bd nums last).live.length = G.live.length := by rw [Mm.bd_live]; simp
  rw [hlive] at hE'
  have h1 : ¬ o.ok = false := fun h1 => by rw [if_pos h1] at hE'; omega
  rw [if_neg h1] at hE'
  have h2 : ¬ 4096 ≤ G.live.length := fun h2 => by rw [if_pos h2] at hE'; omega
  rw [if_neg h2] at hE'
  have h3 : ¬ (o.f = 4 ∧ o.t = 0 ∧ meetsH o ((G.bd nums last).half (3 - o.s)) = true) := fun h3 => by rw [if_pos h3] at hE'; omega
  have hok : o.ok = true := by simpa using h1
  have hs := okS hok
  rw [hok] at va
  unfold Od.vals at va ⊢
  have VA := hid va
  have ML := hid (fun W (A : EntA O q w W b G nums last o) ty => (show (Builtin.len_ #[88] ty #[.map (some G.mb)]).run Try.prog W = .ok (.int .i64 (G.live.length : Int)) W by have := A.bd.map.map.len ty; rw [show (prs G.en G.live).length = G.live.length by simp [prs]] at this; exact this))
  have ME := hid (fun W (A : EntA O q w W b G nums last o) => A.bd.meets o hs)
  have h2I : (G.live.length : Int) < 4096 := by omega
  have HE := hid hE
  have HOK := hid hok
  have H3 := hid h3
  have HSZ := hid hsz
  have HB := hid h
  have hnum := h.ok.nums
  have hnn : (G.bd nums last).nums = nums := rfl
  rw [hnn] at hnum
  clear va h h1 hE' hE hlive hok h3 hsz hnn
  go_enter Try.func17, Try.ntmps17
  go_wp2_with fail
  refine VA.out.mono ?_
  rintro e w1 ⟨rfl, hb⟩
  have A := HA.out w1 hb
  have MLW := hid (ML.out w1 A)
  have MEW := hid (ME.out w1 A)
  unfold Od.vals at MEW
  obtain ⟨b0, b1, b2, b3, b4, b5, b6, b7, hwl, bm, b55, hbl, fb5⟩ := A.cells
  have AH := hid A
  clear hb A ML ME HA VA
  go_upto_region 7 with (refine wpList_len_run rfl (.tmp 16) 88 rfl _ _ rfl (MLW.out _) ?_)
  go_cut [31] (fun s31 wx => s31 = .bool false ∧ EntA O q w wx b G nums last o)
  case first =>
    by_cases f4 : o.f = 4
    · have e4 : (o.f == 4) = true := by simpa using f4
      by_cases t0 : o.t = 0
      · have e5 : (o.t == 0) = true := by simpa using t0
        have hmf : meetsH o ((G.bd nums last).half (3 - o.s)) = false := by
          cases hc : meetsH o ((G.bd nums last).half (3 - o.s)) with
          | false => rfl
          | true => exact absurd ⟨f4, t0, hc⟩ H3.out
        rw [hmf] at MEW
        clear f4 t0 hmf
        go_wp2_with fail
        refine MEW.out.mono ?_
        rintro e w2 ⟨rfl, hb2⟩
        have AN := hid (AH.out.next hb2)
        clear hb2
        go_wp2
        go_meet
        exact ⟨rfl, AN.out⟩
      · have e5 : (o.t == 0) = false := by simpa using t0
        clear f4 t0
        go_wp2
        go_meet
        exact ⟨rfl, AH.out⟩
    · have e4 : (o.f == 4) = false := by simpa using f4
      clear f4
      go_wp2
      go_meet
      exact ⟨rfl, AH.out⟩
  case rest =>
    obtain ⟨rfl, A⟩ := hcut
    obtain ⟨wa, hwa⟩ : ∃ wa : World, wa = wc := ⟨_, rfl⟩
    subst hwa
    clear b0 b1 b2 b3 b4 b5 b6 b7 hwl bm b55 hbl fb5 MLW MEW AH
    obtain ⟨b0, b1, b2, b3, b4, b5, b6, b7, hwl, bm, b55, hbl, fb5⟩ := A.cells
    obtain ⟨vw, ve, t1, _⟩ := A.bd.top.cell
    have hbx : b ≠ w.heap.size := t1.ne A.box (by decide)
    obtain ⟨p2, s2⟩ := A.bd.parts.setNums (nums + 1)
    have S2 := hid ((Step.of_below (O := O) A.below (colB q)).trans (s2.B (by omega) (by omega)))
    have P2 := hid p2
    have AH := hid A
    clear t1 p2 s2 A
    go_upto_region 10 with fail
    obtain ⟨w2, hw2⟩ : ∃ w2, w2 = wa.setCell ⟨b, 5, none⟩ (.int .i64 (nums + 1)) := ⟨_, rfl⟩
    have HW2 := hid hw2
    have sz2 : w2.heap.size = wa.heap.size := by rw [hw2, size_setCell]
    rw [← hw2] at P2 S2
    clear hw2
    go_cut [7] (fun s7 wx => s7 = pt wa.heap.size ∧ Cells wx wa.heap.size #[.int .i64 (nums + 1), .int .i64 o.m, .int .i64 o.s, .int .i64 o.k, .int .i64 o.f, .int .i64 o.p, .int .i64 o.t, .int .i64 o.q, .int .i64 o.pk, .int .i64 o.q, .int .i64 0, .bool false, .pointer none] 99 ∧ Below w2.heap.size w2 wx)
    case first =>
      go_region
      all_goals go_wp2
      all_goals go_meet
      all_goals (
        rw [← HW2.out]
        refine ⟨rfl, ?_, (Below.alloc (Below.refl _ w2) (Nat.le_refl _) _).drew⟩
        have e := (Cells.new w2 #[.int .i64 (nums + 1), .int .i64 o.m, .int .i64 o.s, .int .i64 o.k, .int .i64 o.f, .int .i64 o.p, .int .i64 o.t, .int .i64 o.q, .int .i64 o.pk, .int .i64 o.q, .int .i64 0, .bool false, .pointer none] 99).drew
        rw [sz2] at e
        exact e)
    case rest =>
      obtain ⟨rfl, cX, hbX⟩ := hcut
      obtain ⟨X, hXe⟩ : ∃ X, X = wa.heap.size := ⟨_, rfl⟩
      rw [← hXe] at cX sz2 ⊢
      have c5 : wc.cell? ⟨w.heap.size, 5, none⟩ = some (.int .i64 o.t) := by
        rw [hbX.cell (p := ⟨w.heap.size, 5, none⟩) (by show w.heap.size < w2.heap.size; rw [sz2, hXe]; exact hwl), HW2.out, World.cell?_setCell_other _ _ _ _ (fun e => hbx (congrArg Addr.block e))]
        exact b5
      have hwl5 : w.heap.size < wc.heap.size := by have := hbX.size; omega
      obtain ⟨pf, sf⟩ := P2.out.fresh hbX (q + 5)
      have hX : HdC (grow O w2 (q + 5)) (q + 5) wc X ⟨nums + 1, o, o.q, 0⟩ false := ⟨cX, grow_new (by rw [sz2]; exact Nat.le_refl _)⟩
      have PF := hid pf
      have HX := hid hX
      have SF := hid (S2.out.trans sf)
      have hf := AH.out.bd.few
      have hq := okQ HOK.out
      clear pf sf hX cX hbX b0 b1 b2 b3 b4 b5 b6 b7 hwl bm b55 hbl fb5 S2 P2 hbx HW2 sz2 hXe
      go_upto_if 50 with fail
      go_cut [] (fun wx => ∃ O1 G1 l1, EntB O q w wx b G nums last o X O1 G1 l1)
      case first =>
        by_cases t0 : o.t = 0
        · have e5 : (o.t == 0) = true := by simpa using t0
          have HT := hid t0
          clear t0
          have bd : BdC (grow O w2 (q + 5)) q wc b G (nums + 1) last [] := PF.out.board (bd_nums HB.out.ok hn) AH.out.bd.few
          have cm := come_calls bd HX.out HOK.out ⟨by simp only; omega, by simp only; omega⟩ (bd_fresh HB.out.ok) ⟨by simp only; omega, by simp only; omega⟩ (by omega) (by simp) (by simp only [List.length_nil]; have := HSZ.out; have e : sizeL (G.bd (nums + 1) last).live = sizeL (G.bd nums last).live := rfl; omega)
          have ck := comeF_ok (left := o.q) (n := nums + 1) bd.ok HOK.out ⟨by omega, by show nums + 1 ≤ nums + 1; omega⟩ (bd_fresh HB.out.ok) ⟨by omega, by omega⟩ (evs := []) (by simp)
          have he : entR (G.bd nums last) o = comeF (G.bd (nums + 1) last) (nums + 1) o o.q [] := by unfold entR; rw [if_pos HT.out]; rfl
          have fin : ∀ e w', ComeP (grow O w2 (q + 5)) q wc b G (nums + 1) last [] X ⟨nums + 1, o, o.q, 0⟩ e w' → e = .returned (.tuple #[]) ∧ ∃ O1 G1 l1, EntB O q w w' b G nums last o X O1 G1 l1 := by
            rintro e w' ⟨r1, O', G', l', r2, r3, r4, r5, r6, r7⟩
            refine ⟨r1, O', G', l', ⟨by rw [he]; exact r2, by rw [he]; exact r3, by rw [he]; exact ck.evok, ?_, SF.out.trans r5, r7⟩⟩
            rw [he]
            have := ck.size
            have := HSZ.out
            have e : sizeL (G.bd (nums + 1) last).live = sizeL (G.bd nums last).live := rfl
            simp only [List.length_nil] at *
            omega
          have CM := hid (cm.mono fin)
          clear fin cm ck bd he
          go_wp2_with fail
          refine CM.out.mono ?_
          rintro e w9 ⟨rfl, hr⟩
          have HR := hid hr
          clear hr
          go_wp2
          go_meet
          exact HR.out
        · have e5 : (o.t == 0) = false := by simpa using t0
          have HT := hid t0
          clear t0
          have hfl := HX.out.ent.flag
          obtain ⟨f11, f12⟩ := hfl
          have hXl := HX.out.ent.lt
          obtain ⟨w4, hw4⟩ : ∃ w4, w4 = wc.setCell ⟨X, 11, none⟩ (.bool true) := ⟨_, rfl⟩
          have s4 : Step (fun c => c = q + 5) (grow O w2 (q + 5)) wc (grow O w2 (q + 5)) w4 := by rw [hw4]; exact Step.set HX.out.col 11 _
          have p4 := PF.out.step s4 (fun c _ h5 e => h5 e)
          have x4 : HdC (grow O w2 (q + 5)) (q + 5) w4 X ⟨nums + 1, o, o.q, 0⟩ true := ⟨by rw [hw4]; exact Cells.set HX.out.ent 11 (.bool true), HX.out.col⟩
          obtain ⟨w5, r1, r2, r3⟩ := put_pt (n := nums + 1) (E := X) (p4.below ((Below.refl _ w4).drew)) (by simp [prs]; omega) (WalkArith.wf_i64 (by omega)) (by rw [prs_fst, ← Mm.bd_live G nums last]; exact bd_fresh HB.out.ok)
          have x5 := (x4.below ((Below.refl _ w4).drew)).step r3 (by omega)
          obtain ⟨w6, hw6⟩ : ∃ w6, w6 = w5.alloc (.cells #[pt X] 92) := ⟨_, rfl⟩
          have b6 : Below w5.heap.size w5 w6 := by rw [hw6]; exact (Below.refl _ w5).alloc (Nat.le_refl _) _
          obtain ⟨p6, x6, s6, n6, f6⟩ := (r2.below b6).handWait (x5.below b6)
          have cB : Cells w6 w5.heap.size #[pt X] 92 := by rw [hw6]; exact Cells.new _ _ _
          obtain ⟨vw, c4, hown, hcol, hbl, _⟩ := p6.waits
          have hwl2 : G.wt.length ≤ 1000000 := by have : G.wt.length ≤ G.live.length := by { simp [Mm.live]; omega }; omega
          obtain ⟨v', w7, q1, q2, q3, q4⟩ := ent_append hown hwl2 X cB 89
          obtain ⟨O8, p8, s8, x8⟩ := p6.addWait c4 x6 n6 q2 q3 q4 f6
          obtain ⟨⟨u7, d7⟩, d8, d9⟩ := p6.keptTop c4 q3
          obtain ⟨pl, pp, pe⟩ := G.addWait_plain (x := ⟨nums + 1, o, o.q, 0⟩) n6 f6 (nums + 1) last
          obtain ⟨p9, cp9, hv', _⟩ := q2.form
          obtain ⟨w8, hw8⟩ : ∃ w8, w8 = w7.setCell ⟨b, 4, none⟩ v' := ⟨_, rfl⟩
          rw [← hw8] at p8 s8 x8
          have tl := tell_pt p8 (by simp) x8.ent 8 0 0 o.q
          have hsw := bd_wait HB.out.ok hn HOK.out HT.out
          have he : entR (G.bd nums last) o = ({ G.bd nums last with nums := nums + 1, wait := (G.bd nums last).wait ++ [⟨nums + 1, o, o.q, 0⟩] }, [⟨8, nums + 1, 0, 0, o.q⟩]) := by unfold entR; rw [if_neg HT.out]; rfl
          have st8 := ((((SF.out.trans (s4.B (by omega) (by omega))).trans (Step.of_below ((Below.refl _ w4).drew) (colB q))).trans (r3.B (by omega) (by omega))).trans (Step.of_below b6 (colB q))).trans (s6.trans (s8.B (by omega) (by omega)))
          have fin : ∀ e w', ToldP O8 q w8 b { G with wt := G.wt ++ [X], en := setEn G.en X ⟨nums + 1, o, o.q, 0⟩ } (nums + 1) last ([] ++ [⟨8, nums + 1, 0, 0, o.q⟩]) ((nums + 1, X) :: prs G.en G.live) e w' → e = .returned (.tuple #[]) ∧ ∃ O1 G1 l1, EntB O q w w' b G nums last o X O1 G1 l1 := by
            rintro e w' ⟨g1, O', g2, g3⟩
            refine ⟨g1, O', _, last, ⟨?_, ?_, ?_, ?_, st8.trans (g3.B (by omega) (by omega)), .inl ⟨pp.mem_iff.2 List.mem_cons_self, by show (setEn G.en X _ X).n = _; rw [setEn_self]⟩⟩⟩
            · rw [he]
              refine (g2.perm ?_).board ?_ ?_
              · refine List.Perm.trans ?_ (prs_perm _ pp.symm)
                show List.Perm _ (((setEn G.en X ⟨nums + 1, o, o.q, 0⟩ X).n, X) :: prs (setEn G.en X ⟨nums + 1, o, o.q, 0⟩) G.live)
                rw [setEn_self]
                have := prs_congr (en := G.en) (en' := setEn G.en X ⟨nums + 1, o, o.q, 0⟩) (l := G.live) (fun E hE => by rw [pe E hE])
                rw [this]
              · rw [pl]; exact hsw.1
              · rw [pp.length_eq]; simp; omega
            · rw [he, pl]; rfl
            · rw [he]
              intro e hm
              simp only [List.mem_cons, List.not_mem_nil, or_false] at hm
              subst hm
              exact ⟨⟨by simp only; omega, by simp only; omega⟩, ⟨by simp only; omega, by simp only; omega⟩, by simp only; omega, by simp only; omega, fun h => by simp at h⟩
            · have k1 : sizeL (entR (G.bd nums last) o).1.live = o.q.toNat + 1 + sizeL (G.bd nums last).live := by
                rw [he]
                have c := sizeL_perm hsw.2
                rw [sizeL_cons] at c
                exact c
              have k2 : (entR (G.bd nums last) o).2.length = 1 := by rw [he]; rfl
              have := HSZ.out
              omega
          have TL := hid (tl.mono fin)
          have R1 := hid r1
          have Q1 := hid q1
          have y0 : w4.cell? ⟨X, 0, none⟩ = some (.int .i64 (nums + 1)) := x4.ent.cells.1
          have hXl4 := x4.ent.lt
          obtain ⟨_, bm, _, _, hbl4, _, _⟩ := p4.cells (s := 1) (.inl rfl)
          obtain ⟨vw5, c45, _, _, hbl5, _⟩ := r2.waits
          have hvw : vw5 = vw := by
            have e : w6.cell? ⟨b, 4, none⟩ = w5.cell? ⟨b, 4, none⟩ := b6.cell (p := ⟨b, 4, none⟩) hbl5
            rw [e, c45] at c4
            injection c4
          rw [hvw] at c45
          obtain ⟨pw, cw, hvf, _⟩ := hown.form
          have y9 : w8.cell? ⟨X, 9, none⟩ = some (.int .i64 o.q) := x8.ent.cells.2.2.2.2.2.1
          have hXl8 : X < w7.heap.size := by have e := x8.ent.lt; rw [hw8, size_setCell] at e; exact e
          have HW4 := hid hw4
          have HW6 := hid hw6
          have HW8 := hid hw8
          generalize (G.wt ++ [X]).length = n9 at hv'
          generalize G.wt.length = nw at hvf
          subst hv'
          subst hvf
          clear fin tl hsw he st8 r1 r2 r3 q1 q2 q3 q4 p4 s4 x4 x5 p6 x6 s6 n6 f6 cB c4 hown hcol p8 s8 x8 pl pp pe hvw b6 hw4 hw6 hw8
          go_wp2
          rw [← HW4.out]
          refine region_tail 9 (by kernel_rfl) (by kernel_rfl) ?_
          simp only [List.take_succ_cons, List.take_zero, List.drop_succ_cons, List.drop_zero]
          repeat still_step
          refine wpStill_nil ?_
          refine wpList_mapUpdate_run rfl (.tmp 60) (.tmp 64) (.tmp 65) _ rfl _ _ _ w5 rfl rfl rfl R1.out ?_
          rw [HW6.out] at Q1
          have y9' : (w7.setCell ⟨b, 4, none⟩ (.slice p9 n9 cp9)).cell? ⟨X, 9, none⟩ = some (.int .i64 o.q) := by rw [← HW8.out]; exact y9
          go_wp2_with (at_builtin; refine wpList_append_run rfl (.tmp 70) (.tmp 72) 89 rfl _ _ (.slice p9 n9 cp9) w7 rfl rfl Q1.out ?_)
          rw [← HW8.out]
          refine TL.out.mono ?_
          rintro e w9 ⟨rfl, hr⟩
          have HR := hid hr
          clear hr
          go_wp2
          go_meet
          exact HR.out
      case rest =>
        obtain ⟨O1, G1, l1, EB⟩ := hcut
        have hfw := EB.bd.few
        have hwl1 : G1.wt.length ≤ G1.live.length := by simp [Mm.live]; omega
        have hsz := EB.size
        rw [← EB.eq] at hsz
        have sp := stops_calls EB.bd EB.ev (by omega)
        have hwt : (entR (G.bd nums last) o).1.wait.length = G1.wt.length := by rw [← EB.eq]; exact List.length_map _
        have fin : ∀ e w', StopP O1 q wc b G1 (nums + 1) l1 (entR (G.bd nums last) o).2 e w' → e = .returned (.tuple #[]) ∧ ∃ O' G' last', BdC O' q w' b G' (nums + 1) last' (enterF (G.bd nums last) o).2 ∧ G'.bd (nums + 1) last' = (enterF (G.bd nums last) o).1 ∧ Step (colB q) O w O' w' ∧ Trk O' w' G' X (nums + 1) := by
          rintro e w' ⟨r1, O', G', l', r2, r3, r4, r5, r6⟩
          rw [EB.eq, ← hwt, ← enterF_entR] at r2 r3
          exact ⟨r1, O', G', l', r2, r3, EB.step.trans r5, r6 _ _ EB.trk⟩
        have SP := hid (sp.mono fin)
        clear fin sp hsz hwl1 hfw hwt EB c5 hwl5
        go_wp2_with fail
        refine SP.out.mono ?_
        rintro e w2' ⟨rfl, O2, G2, l2, h1, h2, h3, h4⟩
        obtain ⟨hXl, hX0⟩ := h4.cell h1.parts
        have dn := done_calls (h1.top.step (Step.of_below (Below.drew (Below.refl _ w2')) (fun _ => False)) not_false)
        have hd1 := h1.step (Step.of_below (Below.drew (Below.refl _ w2')) (fun _ => False)) (fun _ _ => not_false)
        have fin : ∀ e w', DoneR O2 (q + 3) w2'.drew b G2.hb G2.hs G2.mb G2.wt (nums + 1) l2 (enterF (G.bd nums last) o).2 e w' → ∃ pp nn cc, e = .returned (.slice pp nn cc) ∧ w'.cell? ⟨X, 0, none⟩ = some (.int .i64 (nums + 1)) ∧ X < w'.heap.size ∧ EnterP O q w b G nums last o (.returned (.tuple #[.int .i64 (nums + 1), .slice pp nn cc, .int .i64 0])) w' := by
          rintro e w' ⟨v, rfl, g2, g3, g4, g5⟩
          obtain ⟨pp, cc, hv, _⟩ := g2.form
          have st : Step (fun c => c = q + 3) O2 w2'.drew O2 w' := Step.of_kept0 g5 (fun k _ e => e)
          have hcX : O2 X ≠ q + 3 := by
            rcases h4 with ⟨t1, _⟩ | ⟨t1, _⟩
            · exact h1.parts.live_ne t1
            · rw [t1]; omega
          have hX' : w'.cell? ⟨X, 0, none⟩ = some (.int .i64 (nums + 1)) := by
            have := g5.block X (by exact hXl) hcX
            rw [← hX0]
            simp [World.cell?, World.cells?, this]
            rfl
          refine ⟨pp, _, cc, by rw [hv], hX', Nat.lt_of_lt_of_le hXl g5.size, .inr ⟨HE.out, v, O2, G2, l2, by rw [hv], g2, g3, ⟨g4, hd1.buy.step st (by omega) (fun _ _ => rfl), hd1.sell.step st (by omega) (fun _ _ => rfl), hd1.map.step st (by omega), hd1.wait.step st (by omega) (fun _ _ => rfl), hd1.ok, hd1.few⟩, h2, (h3.trans (Step.of_below (Below.drew (Below.refl _ w2')) (colB q))).trans (st.B (by omega) (by omega))⟩⟩
        have DN := hid (dn.mono fin)
        clear fin dn hd1 h1 h2 h3 h4
        generalize EnterP O q w b G nums last o = R at *
        go_wp2
        go_region_with (go_at_call 42; refine DN.out.mono ?_; rintro e w9 ⟨pp, nn, cc, rfl, k0, kl, hr⟩; have HR := hid hr; clear hr)
        all_goals go_wp2
        all_goals exact bodyPost_ret (v := .tuple #[.int .i64 (nums + 1), .slice pp nn cc, .int .i64 0]) (by simp [results, Try.results17, go_sem]) rfl HR.out

theorem enter_calls {O : Nat → Nat} {q : Nat} {w : World} {b : Nat} {G : Mm} {nums last : Int} (h : BdC O q w b G nums last []) (o : Od) (hn : nums < 1000000) (hsz : sizeL (G.bd nums last).live ≤ 1000000000000) :
    Calls Try.prog 17 #[pt b, .agg o.vals] w (EnterP O q w b G nums last o) := by
  by_cases hE : enterE (G.bd nums last) o = 0
  · exact enter_yes h o hE hn hsz
  · exact enter_no h o hE
end Go.Proofs.Ytdjhpldiifdifaa
