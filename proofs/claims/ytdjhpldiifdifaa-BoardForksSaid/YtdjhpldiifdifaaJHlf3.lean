/- half.add. (printed by gen_hlf3.py) -/
import Derived.Test.YtdjhpldiifdifaaJHlf2
namespace Go.Proofs.Ytdjhpldiifdifaa
set_option linter.unusedSimpArgs false
set_option linter.unusedVariables false
open Go.RowKit Go.Shelf
attribute [local go_sem] Oper.semAt_some
attribute [local go_sem ↓] Go.wp_at_zero Go.wp_at_succ

/-- The side with the entry X of element E at the end of its price's queue; L: a new level's block. -/
def putL (pre post : List Lv) (p : Int) (L E X : Nat) : List Lv :=
  match post with
  | [] => pre ++ [(p, L, [(E, X)])]
  | x :: r => if x.1 = p then pre ++ (p, x.2.1, x.2.2 ++ [(E, X)]) :: r else pre ++ (p, L, [(E, X)]) :: x :: r
/-- What add comes to. -/
def Added (O : Nat → Nat) (c : Nat) (w : World) (H : Nat) (side : Int) (pre post : List Lv) (p : Int) (X : Nat) (en : Nat → En) (e : Ending) (w' : World) : Prop :=
  e = .returned (.tuple #[]) ∧ (∃ L E, HlfC (grow O w c) c w' H side (putL pre post p L E X) en) ∧ Kept (fun k => O k = c) w w'

set_option maxRecDepth 100000 in
set_option maxHeartbeats 4000000 in
theorem add_old {O : Nat → Nat} {c : Nat} {w : World} {H : Nat} {side : Int} {pre post : List Lv} {p : Int} {L X : Nat} {q : List (Nat × Nat)} {en : Nat → En} {pl : Option Nat} (h : HlfC O c w H side (pre ++ (p, L, q) :: post) en) (hp : (en X).o.p = p)
    (hX : X ∉ ensL (pre ++ (p, L, q) :: post)) (hOX : O X = c) (eX : EnC w X (en X) false pl)
    (h1 : ∀ x ∈ pre, better side x.1 p = true) (h2 : ∀ x ∈ (p, L, q) :: post, better side x.1 p = false) (hlen : (pre ++ (p, L, q) :: post).length ≤ 1000000) (hql : q.length ≤ 1000000) :
    Calls Try.prog 67 #[pt H, pt X] w (Added O c w H side pre ((p, L, q) :: post) p X en) := by
  have hfind := find_calls h p h1 h2 hlen
  simp only [List.head?_cons, Option.map_some, decide_true] at hfind
  obtain ⟨i, hi⟩ : ∃ i, i = pre.length := ⟨_, rfl⟩
  rw [← hi] at hfind
  have x5 : w.cell? ⟨X, 5, none⟩ = some (.int .i64 p) := by rw [Cells.cell eX, ← hp]; rfl
  have hXlt := eX.lt
  have HI := hid hi
  have HF := hid hfind
  have HH := hid h
  have EX := hid eX
  have QL := hid (show q.length ≤ 1000000000 by omega)
  have HX := hid hX
  have HOX := hid hOX
  generalize hR : Added O c w H side pre ((p, L, q) :: post) p X en = R
  have HR := hid hR
  clear hR hi hfind h eX h1 h2 hlen hql hX hOX hp
  go_enter Try.func67, Try.ntmps67
  go_wp2_with fail
  refine HF.out.mono ?_
  rintro e w1 ⟨rfl, m, hw1⟩
  have HH1 := hid (show HlfC O c w1 H side (pre ++ (p, L, q) :: post) en by rw [hw1]; exact HH.out.keptG (P := fun _ => False) ((Kept.refl _ w).drewN m) not_false (fun _ _ _ _ => not_false) (fun _ _ => ⟨not_false, fun _ _ => ⟨not_false, not_false⟩⟩) (fun _ _ h => h) (fun _ _ _ _ => rfl))
  have EX1 := hid (show EnC w1 X (en X) false pl by rw [hw1]; exact EX.out)
  have S1 := hid (show w1.heap.size = w.heap.size by rw [hw1]; rfl)
  have K1 := hid (show Kept (fun k => O k = c) w w1 by rw [hw1]; exact (Kept.refl _ w).drewN m)
  clear hw1 x5 hXlt
  -- the level's queue
  have a1 := (HH1.out.lv (p, L, q) (by simp)).1
  simp only at a1
  obtain ⟨pp, cap, b, hc, hpp, hb, hrow, _, _⟩ := HH1.out.row
  have hpp := (hpp (by simp; omega)).1
  subst hpp
  obtain ⟨n, hn⟩ : ∃ n, n = (pre ++ (p, L, q) :: post).length := ⟨_, rfl⟩
  have hin : i < n := by rw [HI.out, hn]; simp
  have hinI : (i : Int) < n := by omega
  have k1 : w1.cell? ⟨H, 1, none⟩ = some (.slice (some ⟨b, 0, none⟩) n cap) := by rw [hc.cell, hn]; rfl
  have k2 : w1.cell? ⟨b, i, none⟩ = some (pt L) := by
    have := hrow pre.length (by simp)
    rw [List.getElem_append_right (Nat.le_refl _)] at this
    simp only [Nat.sub_self, List.getElem_cons_zero] at this
    rw [HI.out]
    exact this
  have hHlt := hc.lt
  have hLlt := a1.c.lt
  have A1 := hid a1
  have hXlt := EX1.out.lt
  clear hn hc hrow a1
  go_wp2_with fail
  refine (push_calls w1 L p q X A1.out QL.out).mono ?_
  rintro e w2 ⟨E, rfl, hE, hl2, hk2⟩
  have eX2 : EnC w2 X (en X) false pl := EX1.out.kept hk2 (by
    rintro (e | hm)
    · exact Cells.ne EX1.out A1.out.c (by decide) e
    · obtain ⟨y, hy, e⟩ := List.mem_map.1 hm
      obtain ⟨cs', hc⟩ := A1.out.l.mem y hy
      rw [e] at hc
      exact Cells.ne EX1.out hc (by decide) rfl)
  have hX2 := eX2.lt
  obtain ⟨ux, x12⟩ : ∃ u, w2.cell? ⟨X, 12, none⟩ = some u := ⟨_, by rw [Cells.cell eX2]; rfl⟩
  have f12 : w2.frozen? ⟨X, 12, none⟩ = false := Cells.frozen eX2 12
  have HE := hid hE
  have HL2 := hid hl2
  have HK2 := hid hk2
  clear hE hl2 hk2 eX2
  go_wp2
  go_end0
  rw [← HR.out]
  obtain ⟨r1, r2⟩ := HH1.out.pushE (O' := grow O w c) HX.out HOX.out EX1.out HE.out HL2.out HK2.out (fun k _ hk => grow_same hk) (grow_new (by rw [← S1.out]; exact HE.out))
  refine ⟨rfl, ⟨L, E, ?_⟩, K1.out.trans r2 (fun _ _ h => h)⟩
  show HlfC _ _ _ _ _ (if p = p then _ else _) _
  rw [if_pos rfl]
  exact r1

set_option maxRecDepth 100000 in
set_option maxHeartbeats 4000000 in
theorem add_new {O : Nat → Nat} {c : Nat} {w : World} {H : Nat} {side : Int} {pre post : List Lv} {p : Int} {X : Nat} {en : Nat → En} {pl : Option Nat} (h : HlfC O c w H side (pre ++ post) en) (hp : (en X).o.p = p)
    (hX : X ∉ ensL (pre ++ post)) (hOX : O X = c) (eX : EnC w X (en X) false pl)
    (h1 : ∀ x ∈ pre, better side x.1 p = true) (h2 : ∀ x ∈ post, better side x.1 p = false) (h3 : ∀ x r, post = x :: r → x.1 ≠ p) (hlen : (pre ++ post).length ≤ 100000) :
    Calls Try.prog 67 #[pt H, pt X] w (Added O c w H side pre post p X en) := by
  have hfind := find_calls h p h1 h2 (by omega)
  have hd : decide ((post.head?).map Prod.fst = some p) = false := by
    cases post with
    | nil => rfl
    | cons x r => have := h3 x r rfl; simpa using this
  rw [hd] at hfind
  obtain ⟨i, hi⟩ : ∃ i, i = pre.length := ⟨_, rfl⟩
  rw [← hi] at hfind
  have x5 : w.cell? ⟨X, 5, none⟩ = some (.int .i64 p) := by rw [Cells.cell eX, ← hp]; rfl
  have hXlt := eX.lt
  have HI := hid hi
  have HF := hid hfind
  have HH := hid h
  have EX := hid eX
  have HX := hid hX
  have HOX := hid hOX
  have H3 := hid h3
  have HP := hid hp
  have HLEN := hid hlen
  generalize hR : Added O c w H side pre post p X en = R
  have HR := hid hR
  clear hR hi hfind h eX h1 h2 hX hOX hp hd h3
  go_enter Try.func67, Try.ntmps67
  go_wp2_with fail
  refine HF.out.mono ?_
  rintro e w0 ⟨rfl, m, hw0⟩
  have HH0 := hid (show HlfC O c w0 H side (pre ++ post) en by rw [hw0]; exact HH.out.keptG (P := fun _ => False) ((Kept.refl _ w).drewN m) not_false (fun _ _ _ _ => not_false) (fun _ _ => ⟨not_false, fun _ _ => ⟨not_false, not_false⟩⟩) (fun _ _ h => h) (fun _ _ _ _ => rfl))
  have EX0 := hid (show EnC w0 X (en X) false pl by rw [hw0]; exact EX.out)
  have S0 := hid (show w0.heap.size = w.heap.size by rw [hw0]; rfl)
  have K0 := hid (show Kept (fun k => O k = c) w w0 by rw [hw0]; exact (Kept.refl _ w).drewN m)
  clear hw0 x5 hXlt
  -- append(levels, nil)
  obtain ⟨pp, cap, b, hc, _, _, _, hown, hocol⟩ := HH0.out.row
  generalize hn : (pre ++ post).length = n at hc hown hocol hlen
  have k1 : w0.cell? ⟨H, 1, none⟩ = some (.slice pp n cap) := by rw [hc.cell]; rfl
  have hHlt := hc.lt
  have hnew := Cells.new w0 #[.pointer none] 108
  obtain ⟨g, cap1, w1, cur, r1, r2, r3, r4, r5, r6, r7, r8⟩ := row_grow (ty := 106) undLev infoLev (hown.alloc (.cells #[.pointer none] 108)) (by rw [List.length_map]; omega) ⟨w0.heap.size, 0, none⟩ (.pointer none) rfl (by rw [hnew.cell]; rfl) 1
  rw [List.length_map, hn] at r1 r3 r6
  have cH1 : Cells w1 H #[betV side, .slice pp n cap] 136 := (hc.alloc (.cells #[.pointer none] 108)).kept r7 (by
    intro e
    rcases hown.2 with ⟨e2, _⟩ | ⟨g', cp, cu, e2, _, hg, _⟩
    · rw [e2] at e; cases e
    · rw [e2] at e; injection e with e; subst e
      exact hc.ne hg (by decide) rfl)
  have hgH : g ≠ H := r2.ne cH1 (by decide)
  have hgX : g ≠ X := by
    have h0 := EX0.out
    have eX1 : EnC w1 X (en X) false pl := (Cells.alloc h0 (.cells #[.pointer none] 108)).kept r7 (by
      intro e
      rcases hown.2 with ⟨e2, _⟩ | ⟨g', cp, cu, e2, _, hg, _⟩
      · rw [e2] at e; cases e
      · rw [e2] at e; injection e with e; subst e
        exact Cells.ne h0 hg (by decide) rfl)
    exact r2.ne eX1 (by decide)
  obtain ⟨u1, h11⟩ : ∃ u, w1.cell? ⟨H, 1, none⟩ = some u := ⟨_, by rw [cH1.cell]; rfl⟩
  have hf1 : w1.frozen? ⟨H, 1, none⟩ = false := cH1.frozen 1
  have hH1 := cH1.lt
  have hg1 := r2.lt
  have cH2 : Cells (w1.setCell ⟨H, 1, none⟩ (.slice (some ⟨g, 0, none⟩) (n + 1) cap1)) H #[betV side, .slice (some ⟨g, 0, none⟩) (n + 1) cap1] 136 := cH1.set 1 (.slice (some ⟨g, 0, none⟩) (n + 1) cap1)
  have cg2 : Cells (w1.setCell ⟨H, 1, none⟩ (.slice (some ⟨g, 0, none⟩) (n + 1) cap1)) g cur 108 := r2.set_far 1 _ hgH
  have hnl : n = pre.length + post.length := by rw [← hn, List.length_append]
  obtain ⟨d, hd⟩ : ∃ d, d = post.length := ⟨_, rfl⟩
  have hil : i ≤ n := by rw [HI.out, hnl]; omega
  have hnd : n - i = d := by rw [HI.out, hnl, hd]; omega
  have hnd1 : n + 1 - i = d + 1 := by omega
  obtain ⟨o, ho, ho2, ho3⟩ : ∃ o : Nat, (if cap1 = i + 1 then some (⟨g, 0, none⟩ : Addr) else some ⟨g, i + 1, none⟩) = some ⟨g, o, none⟩ ∧ (0 < (post.map fun x => x.2.1).length → o = (pre.map fun x => x.2.1).length + 1) ∧ o ≤ cap1 := by
    by_cases h : cap1 = i + 1
    · exact ⟨0, by simp [h], fun hn => by rw [List.length_map, ← hd] at hn; omega, by omega⟩
    · exact ⟨i + 1, by simp [h], fun _ => by rw [List.length_map, HI.out], by omega⟩
  have hci : (cap1 = i) = False := by simp; omega
  obtain ⟨x3, w3, cur3, s1, s2, s3, s4, s5, s6⟩ := row_shift (ty := 3) undLev infoLev (u := .pointer none) rfl cg2.drew (by rw [List.length_map, List.length_map]; omega) r5
    (by rw [List.length_map, List.length_map, ← hnl, r6, ← List.append_assoc, ← List.map_append, ← List.map_append]) o ho2 ho3 (cap1 - (i + 1)) (cap1 - i)
  rw [List.length_map, List.length_map, ← hd, ← HI.out] at s1
  have cH3 := cH2.drew.kept s3 (Ne.symm hgH)
  have h31 : w3.cell? ⟨H, 1, none⟩ = some (.slice (some ⟨g, 0, none⟩) (n + 1) cap1) := by rw [cH3.cell]; rfl
  have hH3 := cH3.lt
  have hg3 := s2.lt
  have hf3 : w3.frozen? ⟨g, i, none⟩ = false := s2.frozen i
  have hig : i < cur3.size := by omega
  obtain ⟨u3, h3i⟩ : ∃ u, w3.cell? ⟨g, i, none⟩ = some u := ⟨cur3[i], by rw [s2.cell]; exact Array.getElem?_eq_getElem hig⟩
  have hiI : (i : Int) < (n : Int) + 1 := by omega
  have hiI2 : (i : Int) ≤ (n : Int) + 1 := by omega
  have hic : i ≤ cap1 := by omega
  have hii : i ≤ n + 1 := by omega
  have hwr : IntKind.i64.wrap ((i : Int) + 1) = (i : Int) + 1 := by rw [IntKind.wrap_i64]; omega
  have hp0 : (0 : Int) ≤ (i : Int) + 1 := by omega
  have hp1 : (i : Int) + 1 ≤ (n : Int) + 1 := by omega
  have hp2 : ((i : Int) + 1).toNat = i + 1 := by omega
  have kb : Kept (fun k => some k = (Value.slice pp n cap).ownBlock ∨ k = g ∨ k = H) w0 w3 := by
    have k0 : Kept (fun k => some k = (Value.slice pp n cap).ownBlock ∨ k = g ∨ k = H) w0 (w0.alloc (.cells #[.pointer none] 108)) := (Kept.refl _ _).alloc _
    exact (((k0.trans r7 (fun k _ hk => .inl hk)).set (C := H) (.inr (.inr rfl)) 1 _).drew).trans s3 (fun k _ hk => .inr (.inl hk))
  have eX3 : EnC w3 X (en X) false pl := EX0.out.kept kb (by
    rintro (e | e | e)
    · rcases hown.2 with ⟨e2, _⟩ | ⟨g', cp, cu, e2, _, hg, _⟩
      · rw [e2] at e; cases e
      · rw [e2] at e; injection e with e; subst e
        exact Cells.ne EX0.out hg (by decide) rfl
    · exact hgX e.symm
    · exact Cells.ne EX0.out hc (by decide) e)
  have x5 : w3.cell? ⟨X, 5, none⟩ = some (.int .i64 p) := by rw [Cells.cell eX3, ← HP.out]; rfl
  have hX3 := eX3.lt
  have R1 := hid r1
  have SH := hid s1
  have S2 := hid s2
  have S5 := hid s5
  have S6 := hid s6
  have R8 := hid r8
  have KB := hid kb
  have EX3 := hid eX3
  have CH3 := hid cH3
  have HC := hid hc
  have HOC := hid hocol
  have HOWN := hid hown
  have HNL := hid hnl
  have HD := hid hd
  have hc3s := s4
  have R4 := hid r4
  clear hc hown hocol hnew r1 r2 r4 r6 r7 r8 cH1 cH2 cg2 s1 s2 s3 s5 s6 ho2 ho3 cH3 kb eX3 hnl hd hn hlen
  go_wp2_with (at_builtin; refine wpList_append_run rfl (.tmp 22) (.tmp 23) 106 rfl _ _ _ w1 rfl rfl R1.out ?_)
  go_upto_region 3 with fail
  go_cut [40] (fun s40 wx => wx = w3)
  case first =>
    go_region_law (refine step_copy_run rfl (.tmp 33) (.tmp 39) 106 rfl _ _ x3 w3 (by simp [Act.eval, Act.put]) (by simp [Act.eval, Act.put]) SH.out ?_)
    all_goals (
      go_wp2
      go_meet
      rfl)
  case rest =>
    rw [hcut]
    clear hcut wc
    go_upto_region 4 with fail
    go_cut [54] (fun s54 wx => wx = ((w3.setCell ⟨g, i, none⟩ (pt w3.heap.size)).alloc (.cells #[.int .i64 p, .pointer none, .pointer none, .int .i64 0] 113)).drew)
    case first =>
      go_region
      all_goals (
        go_wp2
        go_meet
        rfl)
    case rest =>
      obtain ⟨L, hL⟩ : ∃ L, L = w3.heap.size := ⟨_, rfl⟩
      rw [← hL] at hcut
      have hgL : g ≠ L := by have := S2.out.lt; omega
      have hsz : (w3.setCell ⟨g, i, none⟩ (pt L)).heap.size = L := by rw [size_setCell, hL]
      have cg4 : Cells wc g (cur3.setIfInBounds i (pt L)) 108 := by rw [hcut]; exact ((S2.out.set i (pt L)).alloc _).drew
      have cL4 : Cells wc L #[.int .i64 p, .pointer none, .pointer none, .int .i64 0] 113 := by
        rw [hcut]
        have := (Cells.new (w3.setCell ⟨g, i, none⟩ (pt L)) #[.int .i64 p, .pointer none, .pointer none, .int .i64 0] 113).drew
        rw [hsz] at this
        exact this
      have k4 : Kept (fun k => k = g) w3 wc := by rw [hcut]; exact ((((Kept.refl (fun k => k = g) w3).set (C := g) rfl i (pt L))).alloc _).drew
      have kb : Kept (fun k => some k = (Value.slice pp n cap).ownBlock ∨ k = g ∨ k = H) w0 wc := KB.out.trans k4 (fun k _ hk => .inr (.inl hk))
      have hHg : H ≠ g := fun e => hgH e.symm
      have cH4 : Cells wc H #[betV side, .slice (some ⟨g, 0, none⟩) (n + 1) cap1] 136 := CH3.out.kept k4 hHg
      have hw0 : w0.heap.size ≤ L := by rw [hL]; exact KB.out.size
      have hw0' : w.heap.size ≤ L := by rw [← S0.out]; exact hw0
      have hown4 := row_put (pre := pre.map fun x => x.2.1) (post := post.map fun x => x.2.1) (by rw [List.length_map, ← HI.out]; exact cg4) (by rw [List.length_map, List.length_map, ← HNL.out]; exact r3) R4.out hc3s S5.out S6.out
      have hln : ((pre.map fun x => x.2.1) ++ L :: post.map fun x => x.2.1).length = n + 1 := by rw [HNL.out]; simp; omega
      rw [hln] at hown4
      have hgrow : ∀ k, k < w0.heap.size → O k = c → grow O w c k = c := fun k _ hk => grow_same hk
      have hrowt : ∀ b cs t, Cells w0 b cs t → (some b = (Value.slice pp n cap).ownBlock ∨ b = g ∨ b = H) → t = 108 ∨ b = H := by
        have hob : ∀ b cs t, Cells w0 b cs t → some b = (Value.slice pp n cap).ownBlock → t = 108 := by
          intro b cs t hb e
          rcases HOWN.out.2 with ⟨e2, _⟩ | ⟨g', cp, cu, e2, _, hg, _⟩
          · rw [e2] at e; cases e
          · rw [e2] at e; injection e with e; subst e
            exact (cells_type hb hg)
        intro b cs t hb hp
        rcases hp with e | e | e
        · exact .inl (hob b cs t hb e)
        · subst e
          rcases R8.out with e | e
          · exact .inl (hob _ cs t hb e.symm)
          · have := hb.lt
            simp at e
            omega
        · exact .inr e
      have hgc : grow O w c g = c := by
        rcases R8.out with e | e
        · exact grow_same (HOC.out g e)
        · refine grow_new ?_
          simp at e
          rw [← S0.out]
          omega
      have hh1 : HlfC (grow O w c) c wc H side (pre ++ (p, L, []) :: post) en := by
        refine HH0.out.inL kb hrowt ⟨_, cH4, ?_, fun b hb => ?_⟩ ⟨cL4, trivial, List.nodup_nil⟩ hw0 (grow_new hw0') hgrow
        · simpa using hown4
        · injection hb with hb
          rw [← hb]
          exact hgc
      have hX1 : X ∉ ensL (pre ++ (p, L, []) :: post) := by
        intro hm
        exact HX.out (by have := (flat_mid (fun x : Lv => x.2.2.map Prod.snd) pre post (p, L, [])).mem_iff.1 hm; exact this)
      have eX1 : EnC wc X (en X) false pl := EX3.out.kept k4 (fun e => hgX e.symm)
      have kk : Kept (fun k => O k = c) w wc := K0.out.trans kb (fun k hk hp => by
        rw [← S0.out] at hk
        rcases hp with e | e | e
        · exact HOC.out k e.symm
        · subst e
          rcases R8.out with e | e
          · exact HOC.out _ e
          · simp at e; omega
        · rw [e]; exact HH0.out.col)
      have HH1 := hid hh1
      have HX1 := hid hX1
      have EX1 := hid eX1
      have KK := hid kk
      clear hcut cg4 cL4 k4 kb cH4 hown4 hrowt hh1 hX1 eX1 kk hgrow h31 h3i hf3 hH3 hg3 x5 hX3 h11 hf1 hH1 hg1 k1 hHlt hL hsz hnd hnd1 hii hic hiI hiI2 hgc hln ho hci
      -- the level's queue
      have a1 := (HH1.out.lv (p, L, []) (by simp)).1
      simp only at a1
      obtain ⟨pp, cap, b, hc, hpp, hb, hrow, _, _⟩ := HH1.out.row
      have hpp := (hpp (by simp; omega)).1
      subst hpp
      obtain ⟨n, hn⟩ : ∃ n, n = (pre ++ (p, L, []) :: post).length := ⟨_, rfl⟩
      have hin : i < n := by rw [HI.out, hn]; simp
      have hinI : (i : Int) < n := by omega
      have k1 : wc.cell? ⟨H, 1, none⟩ = some (.slice (some ⟨b, 0, none⟩) n cap) := by rw [hc.cell, hn]; rfl
      have k2 : wc.cell? ⟨b, i, none⟩ = some (pt L) := by
        have := hrow pre.length (by simp)
        rw [List.getElem_append_right (Nat.le_refl _)] at this
        simp only [Nat.sub_self, List.getElem_cons_zero] at this
        rw [HI.out]
        exact this
      have hHlt := hc.lt
      have hLlt := a1.c.lt
      have A1 := hid a1
      have hXlt := EX1.out.lt
      clear hn hc hrow a1
      go_wp2_with fail
      refine (push_calls wc L p [] X A1.out (by simp)).mono ?_
      rintro e w2 ⟨E, rfl, hE, hl2, hk2⟩
      have eX2 : EnC w2 X (en X) false pl := EX1.out.kept hk2 (by
        rintro (e | hm)
        · exact Cells.ne EX1.out A1.out.c (by decide) e
        · obtain ⟨y, hy, e⟩ := List.mem_map.1 hm
          obtain ⟨cs', hc⟩ := A1.out.l.mem y hy
          rw [e] at hc
          exact Cells.ne EX1.out hc (by decide) rfl)
      have hX2 := eX2.lt
      obtain ⟨ux, x12⟩ : ∃ u, w2.cell? ⟨X, 12, none⟩ = some u := ⟨_, by rw [Cells.cell eX2]; rfl⟩
      have f12 : w2.frozen? ⟨X, 12, none⟩ = false := Cells.frozen eX2 12
      have HE := hid hE
      have HL2 := hid hl2
      have HK2 := hid hk2
      clear hE hl2 hk2 eX2
      go_wp2
      go_end0
      rw [← HR.out]
      have hwcw : w.heap.size ≤ wc.heap.size := KK.out.size
      obtain ⟨r1, r2⟩ := HH1.out.pushE (O' := grow O w c) HX1.out (grow_same HOX.out) EX1.out HE.out HL2.out HK2.out (fun k _ hk => hk) (grow_new (Nat.le_trans hwcw HE.out))
      refine ⟨rfl, ⟨L, E, ?_⟩, KK.out.trans r2 (fun k hk h => by rw [grow_old hk] at h; exact h)⟩
      unfold putL
      cases post with
      | nil => exact r1
      | cons x r =>
        simp only
        rw [if_neg (H3.out x r rfl)]
        exact r1
end Go.Proofs.Ytdjhpldiifdifaa
