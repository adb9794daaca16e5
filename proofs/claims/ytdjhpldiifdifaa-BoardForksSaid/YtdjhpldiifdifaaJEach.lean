/- half.each: a closure is called for all entries of a side, the best price first. -/
import Derived.Test.YtdjhpldiifdifaaJHlf3
namespace Go.Proofs.Ytdjhpldiifdifaa
set_option linter.unusedSimpArgs false
set_option linter.unusedVariables false
open Go.RowKit Go.Shelf
attribute [local go_sem] Oper.semAt_some
attribute [local go_sem ↓] Go.wp_at_zero Go.wp_at_succ

theorem DL.nth {w : World} {l : List (Nat × Nat)} {a b : Option Nat} (h : DL w a l b) (j : Nat) (hj : j < l.length) : Cells w l[j].1 #[op (lastO (l.take j) a), op (headO (l.drop (j + 1)) b), pt l[j].2] 115 := by
  have e : l = l.take j ++ l[j] :: l.drop (j + 1) := by rw [← List.drop_eq_getElem_cons hj, List.take_append_drop]
  have h' : DL w a (l.take j ++ l[j] :: l.drop (j + 1)) b := by rw [← e]; exact h
  exact (DL.split.1 h').2.1
/-- A colour's blocks are those of an earlier world. -/
structure Stays (O : Nat → Nat) (c : Nat) (w W : World) : Prop where
  size : w.heap.size ≤ W.heap.size
  block : ∀ b, b < w.heap.size → O b = c → W.heap[b]? = w.heap[b]?
theorem Stays.cell {O : Nat → Nat} {c : Nat} {w W : World} (h : Stays O c w W) {b : Nat} (hb : b < w.heap.size) (hO : O b = c) (j : Nat) : W.cell? ⟨b, j, none⟩ = w.cell? ⟨b, j, none⟩ := by
  simp [World.cell?, World.cells?, h.block b hb hO]
theorem Stays.refl (O : Nat → Nat) (c : Nat) (w : World) : Stays O c w w := ⟨Nat.le_refl _, fun _ _ _ => rfl⟩
theorem Stays.of_kept {O : Nat → Nat} {c : Nat} {X : Nat → Prop} {w W : World} (h : Kept X w W) (hx : ∀ k, k < w.heap.size → X k → O k ≠ c) : Stays O c w W := ⟨h.size, fun b hb hO => h.block b hb (fun hX => hx b hb hX hO)⟩
theorem Stays.trans {O : Nat → Nat} {c : Nat} {w W W' : World} (h : Stays O c w W) (g : Stays O c W W') : Stays O c w W' := ⟨Nat.le_trans h.size g.size, fun b hb hO => (g.block b (Nat.lt_of_lt_of_le hb h.size) hO).trans (h.block b hb hO)⟩
theorem ensL_take_succ {ls : List Lv} {a : Nat} (h : a < ls.length) : ensL (ls.take (a + 1)) = ensL (ls.take a) ++ (ls[a].2.2.map Prod.snd) := by
  unfold ensL
  rw [List.take_succ_eq_append_getElem h, List.flatMap_append]
  simp
theorem ensL_get {ls : List Lv} {a j : Nat} (h : a < ls.length) (hj : j < ls[a].2.2.length) : (ensL ls)[(ensL (ls.take a)).length + j]? = some ls[a].2.2[j].2 := by
  have e : ensL ls = ensL (ls.take (a + 1)) ++ ensL (ls.drop (a + 1)) := by
    unfold ensL
    rw [← List.flatMap_append, List.take_append_drop]
  rw [e, ensL_take_succ h, List.append_assoc, List.getElem?_append_right (by omega), Nat.add_sub_cancel_left, List.getElem?_append_left (by simpa using hj)]
  simp [hj]

set_option maxRecDepth 100000 in
set_option maxHeartbeats 4000000 in
theorem each_calls {O : Nat → Nat} {c : Nat} {w : World} {H : Nat} {side : Int} {ls : List Lv} {en : Nat → En} (h : HlfC O c w H side ls en) (hlen : ls.length ≤ 1000000) (wf : FuncId) (caps : Array Value) (eg : ∀ args w, (callFunc wf args).run Try.prog w = .ok (.enter wf args) w)
    (J Stop : Nat → World → Prop) (hJ0 : J 0 w) (hJs : ∀ k W, J k W → Stays O c w W)
    (hstep : ∀ k E W, (ensL ls)[k]? = some E → J k W → Calls Try.prog wf (#[pt E] ++ caps) W fun e W' => (e = .returned (.bool true) ∧ J (k + 1) W') ∨ (e = .returned (.bool false) ∧ Stop k W')) :
    Calls Try.prog 50 #[pt H, .func (.func wf) #[] caps] w fun e w' => e = .returned (.tuple #[]) ∧ (J (ensL ls).length w' ∨ ∃ k, k < (ensL ls).length ∧ Stop k w') := by
  obtain ⟨p, cap, b, hc, hp, hb, hrow, _⟩ := h.row
  have c1 : w.cell? ⟨H, 1, none⟩ = some (.slice p ls.length cap) := by rw [hc.cell]; rfl
  have hHlt := hc.lt
  obtain ⟨n, hn⟩ : ∃ n, n = ls.length := ⟨_, rfl⟩
  rw [← hn] at c1 hp hlen
  have HP := hid hp
  have HR := hid hrow
  have HH := hid h
  have HJS := hid hJs
  have HST := hid hstep
  have HN := hid hn
  have EG := hid eg
  have HJ := hid hJ0
  clear h hc hp hrow hJs hstep hn eg hJ0
  go_enter Try.func50, Try.ntmps50
  go_wp2_with fail
  go_loopg [12] n (fun k s12 wr => ∃ a : Nat, s12 = .int .i64 a ∧ a ≤ n ∧ k = n - a ∧ J (ensL (ls.take a)).length wr)
  case atStart => exact ⟨0, rfl, by omega, by omega, by simpa [ensL] using HJ.out⟩
  case round =>
    obtain ⟨a, rfl, ha, hk, hj⟩ := hrel
    have HK := hid hk
    have HJ := hid hj
    clear hk hj
    by_cases han : a < n
    · have hal : a < ls.length := by rw [← HN.out]; exact han
      have hanI : (a : Int) < n := by omega
      obtain ⟨hpp, hOb⟩ := HP.out (by omega)
      subst hpp
      have st := HJS.out _ _ HJ.out
      obtain ⟨b1, b2, b3⟩ := HH.out.lv _ (List.getElem_mem hal)
      obtain ⟨L, hL⟩ : ∃ L, L = ls[a].2.1 := ⟨_, rfl⟩
      obtain ⟨es, hes⟩ : ∃ es, es = ls[a].2.2 := ⟨_, rfl⟩
      have k1 : wr.cell? ⟨b, a, none⟩ = some (pt L) := by rw [st.cell hb hOb, hL]; exact HR.out a hal
      have hbr := Nat.lt_of_lt_of_le hb st.size
      rw [← hL, ← hes] at b1
      rw [← hL] at b2
      rw [← hes] at b3
      have hLlt := b1.c.lt
      have hLr := Nat.lt_of_lt_of_le hLlt st.size
      have k2 : wr.cell? ⟨L, 1, none⟩ = some (op (headO es none)) := by rw [st.cell hLlt b2, b1.c.cell]; rfl
      have B1 := hid b1
      have B3 := hid b3
      have HES := hid hes
      clear st hOb b1 b2 b3 hes hL hLlt
      go_wp2_with fail
      go_loopg [6] es.length (fun k s6 wq => ∃ j : Nat, s6 = op (headO (es.drop j) none) ∧ j ≤ es.length ∧ k = es.length - j ∧ J ((ensL (ls.take a)).length + j) wq)
      case atStart => exact ⟨0, rfl, by omega, by omega, HJ.out⟩
      case round =>
        obtain ⟨j, rfl, hj, hk2, hjj⟩ := hrel
        have HK2 := hid hk2
        have HJJ := hid hjj
        clear hk2 hjj
        by_cases hjl : j < es.length
        · have e0 := B1.out.l.nth j hjl
          obtain ⟨o1, o2, o3⟩ := B3.out _ (List.getElem_mem hjl)
          obtain ⟨E, hE⟩ : ∃ E, E = es[j].1 := ⟨_, rfl⟩
          obtain ⟨X, hX⟩ : ∃ X, X = es[j].2 := ⟨_, rfl⟩
          rw [← hE, ← hX] at e0
          rw [← hE] at o1
          have hd : headO (es.drop j) none = some E := by rw [List.drop_eq_getElem_cons hjl, hE]; rfl
          rw [hd]
          have hget : (ensL ls)[(ensL (ls.take a)).length + j]? = some X := by
            rw [ensL_get hal (by rw [← HES.out]; exact hjl), hX]
            simp only [HES.out]
          have st := HJS.out _ _ HJJ.out
          have hElt := e0.lt
          have m1 : wr.cell? ⟨E, 2, none⟩ = some (pt X) := by rw [st.cell hElt o1, e0.cell]; rfl
          have hEq := Nat.lt_of_lt_of_le hElt st.size
          have E0 := hid e0
          have HG := hid hget
          have O1 := hid o1
          have eg := EG.out
          clear e0 o1 o2 o3 hE hX hd hget st hElt
          simp only [op_some, op_none]
          go_wp2_with fail
          refine (HST.out _ _ _ HG.out HJJ.out).mono ?_
          rintro e w2 (⟨rfl, hj2⟩ | ⟨rfl, hs2⟩)
          · have st2 := HJS.out _ _ hj2
            have m2 : w2.cell? ⟨E, 1, none⟩ = some (op (headO (es.drop (j + 1)) none)) := by rw [st2.cell E0.out.lt O1.out, E0.out.cell]; rfl
            have hE2 := Nat.lt_of_lt_of_le E0.out.lt st2.size
            have HJ2 := hid hj2
            clear st2 hj2 m1 hEq eg
            go_wp2
            go_roundg (es.length - (j + 1))
            · exact ⟨j + 1, rfl, by omega, rfl, HJ2.out⟩
            · have := HK2.out; omega
          · have HS := hid hs2
            clear hs2 m1 hEq eg
            go_wp2
            refine bodyPost_ret (v := .tuple #[]) (by simp [results, Try.results50, go_sem]) rfl ⟨rfl, .inr ⟨_, (List.getElem?_eq_some_iff.1 HG.out).1, HS.out⟩⟩
        · have hd : headO (es.drop j) none = none := by rw [List.drop_of_length_le (by omega)]; rfl
          have hjj : j = es.length := by omega
          rw [hd]
          have H2 := hid (show J (ensL (ls.take (a + 1))).length wr by
            rw [ensL_take_succ hal, List.length_append, List.length_map, ← HES.out, ← hjj]
            exact HJJ.out)
          clear hd
          simp only [op_some, op_none]
          go_wp2
          go_roundg (n - (a + 1))
          · exact ⟨a + 1, by go_num, by omega, rfl, H2.out⟩
          · have := HK.out; omega
    · have haa : a = ls.length := by rw [← HN.out]; omega
      have H2 := hid (show J (ensL ls).length wr by
        have := HJ.out
        rwa [haa, List.take_length] at this)
      clear haa
      go_wp2
      go_end0
      exact ⟨rfl, .inl H2.out⟩
end Go.Proofs.Ytdjhpldiifdifaa
