/- What is wrong with slips, by both texts. Conditions: sizes. (Printed by gen_sld.py.) -/
import Derived.Test.YtehboinleolihaaGreatDoorRzSlC
set_option linter.unusedSimpArgs false
set_option linter.unusedVariables false
namespace Go.Proofs.YtehboinleolihaaGreatDoor
open Go Go.RowKit Go.Sort

def lateS (xs : List SlipV) (i : Nat) : Int := if (0 < i && ((atL default xs i).by_.toList == (atL default xs (i - 1)).by_.toList) && decide ((atL default xs i).at_ < (atL default xs (i - 1)).at_)) = true then 7 else 0
theorem lateS_two (xs : List SlipV) (i : Nat) : lateS xs i = 0 ∨ lateS xs i = 7 := by unfold lateS; split; exact .inr rfl; exact .inl rfl
/-- What is wrong with slips. -/
def slipsF (xs : List SlipV) : Int := if 3000 < xs.length then 2 else if scanF xs.length (chkSli xs) = 0 then scanF xs.length (lateS xs) else scanF xs.length (chkSli xs)
theorem scan_late {xs : List SlipV} {n i : Nat} (hi : i < n) (h : lateS xs i ≠ 0) : scanF n (lateS xs) = 7 := by
  obtain ⟨k, hk, hz, hx⟩ := scan_first n ⟨i, hi, h⟩
  rw [scan_at k hk hz hx]
  rcases lateS_two xs k with e | e
  · exact absurd e hx
  · exact e
theorem slipsF_good {xs : List SlipV} (h : slipsF xs = 0) : xs.length ≤ 3000 ∧ ∀ x ∈ xs, slipE x = 0 := by
  unfold slipsF at h
  split at h
  · cases h
  split at h
  · rename_i h1 h2
    refine ⟨by omega, fun x hx => ?_⟩
    obtain ⟨i, hi, e⟩ := List.getElem_of_mem hx
    refine Classical.byContradiction fun hne => ?_
    have hc : chkSli xs i ≠ 0 := by
      unfold chkSli
      rw [atL_of (show xs[i]? = some x by rw [List.getElem?_eq_getElem hi, e]), if_neg hne]
      exact hne
    obtain ⟨k, hk, hz, hx⟩ := scan_first xs.length ⟨i, hi, hc⟩
    rw [scan_at k hk hz hx] at h2
    exact hx h2
  · rename_i h1 h2
    exact absurd h h2

set_option maxRecDepth 100000 in
set_option maxHeartbeats 3200000 in
theorem checkSlips_any (p : Option Addr) (n c : Nat) (xs : List SlipV) (w : World) (h : Sl 7 slipC w p n xs) (hs : ∀ x ∈ xs, x.Small) (hn : n ≤ 1000000) :
    Calls Tryz.prog 73 #[.slice p n c] w fun e w' => e = .returned (.int .i64 (slipsF xs)) ∧ Ext w w' := by
  have hl := h.1
  have hF : slipsF xs = if 3000 < n then 2 else if scanF n (chkSli xs) = 0 then scanF n (lateS xs) else scanF n (chkSli xs) := by unfold slipsF; rw [hl]
  replace hF := Lib.hid hF
  by_cases h12 : 3000 < n
  · clear h hl hs
    go_enter Tryz.func73, Tryz.ntmps73
    go_wp2
    go_ret
    exact ⟨ret_int (by rw [hF.out, if_pos h12]), Ext.refl _⟩
  have hvf := fun k (hk : k < n) u (hu : Ext w u) => slipFault_any p n c xs k u (h.ext hu) hs hk (by omega)
  have hd : decide (3000 < (n : Int)) = false := by simp; omega
  replace hvf := Lib.hid hvf
  go_enter Tryz.func73, Tryz.ntmps73
  go_wp2
  go_loopw [11] (fun i wr => ∃ k : Nat, k ≤ n ∧ i = .int .i64 k ∧ Zeros (chkSli xs) k ∧ Ext w wr) (fun i _ => n - (intOf i).toNat)
  case atStart => exact ⟨0, Nat.zero_le _, rfl, (fun j hj => by omega), Ext.refl _⟩
  case round =>
    obtain ⟨k, hk, rfl, hz, he⟩ := hrel
    by_cases hlt : k < n
    · have hvk := hvf.out k hlt _ he
      have hkI : (k : Int) < n := by omega
      have hgo : k + 1 ≤ n := hlt
      by_cases hf : chkSli xs k = 0
      rotate_left
      · have hsc := scan_at k hlt hz hf
        generalize chkSli xs k = f at *
        replace hvk := Lib.hid hvk
        replace hsc := Lib.hid hsc
        go_wp2_with (go_at_call 147; (with_reducible refine Calls.mono hvk.out ?_); rintro e w1 ⟨rfl, hb1⟩)
        go_ret
        exact ⟨ret_int (by rw [hF.out, if_neg h12, hsc.out, if_neg hf]), he.trans hb1⟩
      · have hzs := hz.succ hf
        rw [hf] at hvk
        replace hvk := Lib.hid hvk
        clear hf
        go_wp2_with (go_at_call 147; (with_reducible refine Calls.mono hvk.out ?_); rintro e w1 ⟨rfl, hb1⟩)
        go_roundw
        case rel => exact ⟨k + 1, hgo, by go_num, hzs, he.trans hb1⟩
        case measure => simp [intOf]; omega
    · obtain rfl : k = n := by omega
      have hsc := scan_zero hz
      replace hsc := Lib.hid hsc
      clear hvf hlt hz
      go_wp2
      go_loopw [5] (fun i w2 => ∃ m : Nat, 1 ≤ m ∧ (m ≤ k ∨ m = 1) ∧ i = .int .i64 m ∧ Zeros (lateS xs) m ∧ Ext w w2) (fun i _ => k + 1 - (intOf i).toNat)
      case atStart => exact ⟨1, Nat.le_refl _, .inr rfl, rfl, (fun j hj => by have e : j = 0 := (by omega); subst e; rfl), he⟩
      case round =>
        obtain ⟨m, hm1, hm, rfl, hz, hE2⟩ := hrel
        by_cases hlt : m < k
        · obtain ⟨b, off, rfl, hb, hE⟩ := h.2.2 (by omega)
          obtain ⟨j, hj⟩ : ∃ j, m = j + 1 := ⟨m - 1, by omega⟩
          obtain ⟨x, hx⟩ := getD_some hl hlt
          obtain ⟨y, hy⟩ := getD_some hl (show j < k by omega)
          obtain ⟨c0, -, c2, -, -, -, -⟩ := hE.slip hx
          obtain ⟨d0, -, d2, -, -, -, -⟩ := hE.slip hy
          have hv : lateS xs m = if (0 < m && (x.by_.toList == y.by_.toList) && decide (x.at_ < y.at_)) = true then 7 else 0 := by
            unfold lateS
            rw [atL_of hx, show m - 1 = j by omega, atL_of hy]
          replace hv := Lib.hid hv
          have hwj : IntKind.i64.wrap ((m : Int) - 1) = j := by rw [show (m : Int) - 1 = j by omega]; exact IntWalk.i64_in _ (by omega)
          have hmI : (m : Int) < k := by omega
          have hjI : (j : Int) < k := by omega
          replace hj := Lib.hid hj
          clear hx hy hE
          go_upto_region 13 with fail
          cases hne : (x.by_.toList == y.by_.toList)
          · skip
            refine wp_region_facts [] [([], false, false), ([], false, false), ([0, 1], false, false), ([0, 1, 2], false, false), ([0, 1, 2, 3], false, false), ([], false, false), ([], false, false), ([6], false, false), ([5, 6, 7], false, false), ([5, 6, 7, 8], false, false), ([5, 6, 7, 8, 9], false, false), ([0, 1, 2, 3, 4, 5, 6, 7, 8, 9, 10], false, false), ([0, 1, 2, 3, 4, 5, 6, 7, 8, 9, 10, 11], false, false), ([0, 1, 2, 3, 4, 5, 6, 7, 8, 9, 10, 11, 12], false, false), ([0, 1, 2, 3, 4, 5, 6, 7, 8, 9, 10, 11, 12], false, false), ([0, 1, 2, 3, 4, 5, 6, 7, 8, 9, 10, 11, 12, 13, 14], false, false), ([0, 1, 2, 3, 4, 5, 6, 7, 8, 9, 10, 11, 12, 13, 14, 15], false, false), ([0, 1, 2, 3, 4, 5, 6, 7, 8, 9, 10, 11, 12, 13, 14, 15, 16], false, false), ([0, 1, 2, 3, 4, 5, 6, 7, 8, 9, 10, 11, 12], false, false), ([0, 1, 2, 3, 4, 5, 6, 7, 8, 9, 10, 11, 12], false, false), ([0, 1, 2, 3, 4, 5, 6, 7, 8, 9, 10, 11, 12, 19], false, false), ([0, 1, 2, 3, 4, 5, 6, 7, 8, 9, 10, 11, 12, 18, 19, 20], false, false), ([0, 1, 2, 3, 4, 5, 6, 7, 8, 9, 10, 11, 12, 18, 19, 20, 21], false, false), ([0, 1, 2, 3, 4, 5, 6, 7, 8, 9, 10, 11, 12, 18, 19, 20, 21, 22], false, false), ([0, 1, 2, 3, 4, 5, 6, 7, 8, 9, 10, 11, 12, 13, 14, 15, 16, 17, 18, 19, 20, 21, 22, 23], false, false), ([0, 1, 2, 3, 4, 5, 6, 7, 8, 9, 10, 11, 12, 13, 14, 15, 16, 17, 18, 19, 20, 21, 22, 23, 24], false, false)] (Ext) Ext (fun _ => True) (by kernel_rfl) (by kernel_rfl) Ext.refl (fun _ _ _ => Ext.trans) (fun _ _ h => h) (fun _ _ h => h.size) (fun _ _ h _ => h) trivial ?_
            dsimp only [List.length_cons, List.length_nil, List.drop_succ_cons, List.drop_zero, List.drop_nil]
            refine fac_quiet 0 rfl rfl rfl (fun _ _ h _ => h) rfl rfl ?_
            apply Exists.intro
            refine ⟨fun sv w' hw' hfa => ?_, ?_⟩
            · refine ⟨rfl, ?_⟩
              simp only [putsL]
              change quietTo _ _ _ _ (Sem.run _ (execOp (Act.eval _) _) _)
              try simp only [Act.put, List.setIfInBounds_toArray, List.set_cons_succ, List.set_cons_zero]
              simp [go_sem, quietTo, Ext.refl]
              all_goals first
                | rfl
            refine fac_quiet 1 rfl rfl rfl (fun _ _ h _ => h) rfl rfl ?_
            apply Exists.intro
            refine ⟨fun sv w' hw' hfa => ?_, ?_⟩
            · refine ⟨rfl, ?_⟩
              simp only [putsL]
              change quietTo _ _ _ _ (Sem.run _ (execOp (Act.eval _) _) _)
              try simp only [Act.put, List.setIfInBounds_toArray, List.set_cons_succ, List.set_cons_zero]
              simp [go_sem, quietTo, Ext.refl]
              all_goals first
                | rfl
            refine fac_quiet 2 rfl rfl rfl (fun _ _ h _ => h) rfl rfl ?_
            apply Exists.intro
            refine ⟨fun sv w' hw' hfa => ?_, ?_⟩
            · obtain ⟨f0, f1, -⟩ := hfa
              replace f0 : sv 0 = _ := f0
              try dsimp only at f0
              replace f1 : sv 1 = _ := f1
              try dsimp only at f1
              obtain ⟨hc, hf, hz9⟩ := (hE2.drew.trans hw').walk; have x0 := (hc _ (off + m * 7) hb).trans c0; have x2 := (hc _ (off + m * 7 + 2) hb).trans c2; have y0 := (hc _ (off + j * 7) hb).trans d0; have y2 := (hc _ (off + j * 7 + 2) hb).trans d2
              refine ⟨rfl, ?_⟩
              simp only [putsL]
              change quietTo _ _ _ _ (Sem.run _ (execOp (Act.eval (Act.put (Act.put _ (some 28) (sv 1)) (some 27) (sv 0))) _) _)
              try simp only [Act.put, List.setIfInBounds_toArray, List.set_cons_succ, List.set_cons_zero]
              simp [go_sem, quietTo, Ext.refl, ↓IntWalk.iteOmega, f0, f1, hmI]
              all_goals try simp (disch := omega) only [IntWalk.i64_in]
              all_goals first
                | rfl
            refine fac_quiet 3 rfl rfl rfl (fun _ _ h _ => h) rfl rfl ?_
            apply Exists.intro
            refine ⟨fun sv w' hw' hfa => ?_, ?_⟩
            · obtain ⟨_, _, f2, -⟩ := hfa
              replace f2 : sv 2 = _ := f2
              try dsimp only at f2
              refine ⟨rfl, ?_⟩
              simp only [putsL]
              change quietTo _ _ _ _ (Sem.run _ (execOp (Act.eval (Act.put (Act.put (Act.put _ (some 29) (sv 2)) (some 28) (sv 1)) (some 27) (sv 0))) _) _)
              try simp only [Act.put, List.setIfInBounds_toArray, List.set_cons_succ, List.set_cons_zero]
              simp [go_sem, quietTo, Ext.refl, f2]
              all_goals first
                | rfl
            refine fac_quiet 4 rfl rfl rfl (fun _ _ h _ => h) rfl rfl ?_
            apply Exists.intro
            refine ⟨fun sv w' hw' hfa => ?_, ?_⟩
            · obtain ⟨_, _, _, f3, -⟩ := hfa
              replace f3 : sv 3 = _ := f3
              try dsimp only at f3
              obtain ⟨hc, hf, hz9⟩ := (hE2.drew.trans hw').walk; have x0 := (hc _ (off + m * 7) hb).trans c0; have x2 := (hc _ (off + m * 7 + 2) hb).trans c2; have y0 := (hc _ (off + j * 7) hb).trans d0; have y2 := (hc _ (off + j * 7 + 2) hb).trans d2
              refine ⟨rfl, ?_⟩
              simp only [putsL]
              change quietTo _ _ _ _ (Sem.run _ (execOp (Act.eval (Act.put (Act.put (Act.put (Act.put _ (some 30) (sv 3)) (some 29) (sv 2)) (some 28) (sv 1)) (some 27) (sv 0))) _) _)
              try simp only [Act.put, List.setIfInBounds_toArray, List.set_cons_succ, List.set_cons_zero]
              simp [go_sem, quietTo, Ext.refl, ↓IntWalk.iteOmega, f3, x0]
              all_goals try simp (disch := omega) only [IntWalk.i64_in]
              all_goals first
                | rfl
            refine fac_quiet 5 rfl rfl rfl (fun _ _ h _ => h) rfl rfl ?_
            apply Exists.intro
            refine ⟨fun sv w' hw' hfa => ?_, ?_⟩
            · refine ⟨rfl, ?_⟩
              simp only [putsL]
              change quietTo _ _ _ _ (Sem.run _ (execOp (Act.eval _) _) _)
              try simp only [Act.put, List.setIfInBounds_toArray, List.set_cons_succ, List.set_cons_zero]
              simp [go_sem, quietTo, Ext.refl]
              all_goals first
                | rfl
            refine fac_quiet 6 rfl rfl rfl (fun _ _ h _ => h) rfl rfl ?_
            apply Exists.intro
            refine ⟨fun sv w' hw' hfa => ?_, ?_⟩
            · refine ⟨rfl, ?_⟩
              simp only [putsL]
              change quietTo _ _ _ _ (Sem.run _ (execOp (Act.eval _) _) _)
              try simp only [Act.put, List.setIfInBounds_toArray, List.set_cons_succ, List.set_cons_zero]
              simp [go_sem, quietTo, Ext.refl]
              all_goals first
                | rfl
            refine fac_quiet 7 rfl rfl rfl (fun _ _ h _ => h) rfl rfl ?_
            apply Exists.intro
            refine ⟨fun sv w' hw' hfa => ?_, ?_⟩
            · obtain ⟨f6, -⟩ := hfa
              replace f6 : sv 6 = _ := f6
              try dsimp only at f6
              obtain ⟨hc, hf, hz9⟩ := (hE2.drew.trans hw').walk; have x0 := (hc _ (off + m * 7) hb).trans c0; have x2 := (hc _ (off + m * 7 + 2) hb).trans c2; have y0 := (hc _ (off + j * 7) hb).trans d0; have y2 := (hc _ (off + j * 7 + 2) hb).trans d2
              refine ⟨rfl, ?_⟩
              simp only [putsL]
              change quietTo _ _ _ _ (Sem.run _ (execOp (Act.eval (Act.put _ (some 33) (sv 6))) _) _)
              try simp only [Act.put, List.setIfInBounds_toArray, List.set_cons_succ, List.set_cons_zero]
              simp [go_sem, quietTo, Ext.refl, ↓IntWalk.iteOmega, f6, hwj]
              all_goals try simp (disch := omega) only [IntWalk.i64_in]
              all_goals first
                | rfl
            refine fac_quiet 8 rfl rfl rfl (fun _ _ h _ => h) rfl rfl ?_
            apply Exists.intro
            refine ⟨fun sv w' hw' hfa => ?_, ?_⟩
            · obtain ⟨f5, _, f7, -⟩ := hfa
              replace f5 : sv 5 = _ := f5
              try dsimp only at f5
              replace f7 : sv 7 = _ := f7
              try dsimp only at f7
              obtain ⟨hc, hf, hz9⟩ := (hE2.drew.trans hw').walk; have x0 := (hc _ (off + m * 7) hb).trans c0; have x2 := (hc _ (off + m * 7 + 2) hb).trans c2; have y0 := (hc _ (off + j * 7) hb).trans d0; have y2 := (hc _ (off + j * 7 + 2) hb).trans d2
              refine ⟨rfl, ?_⟩
              simp only [putsL]
              change quietTo _ _ _ _ (Sem.run _ (execOp (Act.eval (Act.put (Act.put (Act.put _ (some 34) (sv 7)) (some 33) (sv 6)) (some 32) (sv 5))) _) _)
              try simp only [Act.put, List.setIfInBounds_toArray, List.set_cons_succ, List.set_cons_zero]
              simp [go_sem, quietTo, Ext.refl, ↓IntWalk.iteOmega, f5, f7, hjI]
              all_goals try simp (disch := omega) only [IntWalk.i64_in]
              all_goals first
                | rfl
            refine fac_quiet 9 rfl rfl rfl (fun _ _ h _ => h) rfl rfl ?_
            apply Exists.intro
            refine ⟨fun sv w' hw' hfa => ?_, ?_⟩
            · obtain ⟨_, _, _, f8, -⟩ := hfa
              replace f8 : sv 8 = _ := f8
              try dsimp only at f8
              refine ⟨rfl, ?_⟩
              simp only [putsL]
              change quietTo _ _ _ _ (Sem.run _ (execOp (Act.eval (Act.put (Act.put (Act.put (Act.put _ (some 35) (sv 8)) (some 34) (sv 7)) (some 33) (sv 6)) (some 32) (sv 5))) _) _)
              try simp only [Act.put, List.setIfInBounds_toArray, List.set_cons_succ, List.set_cons_zero]
              simp [go_sem, quietTo, Ext.refl, f8]
              all_goals first
                | rfl
            refine fac_quiet 10 rfl rfl rfl (fun _ _ h _ => h) rfl rfl ?_
            apply Exists.intro
            refine ⟨fun sv w' hw' hfa => ?_, ?_⟩
            · obtain ⟨_, _, _, _, f9, -⟩ := hfa
              replace f9 : sv 9 = _ := f9
              try dsimp only at f9
              obtain ⟨hc, hf, hz9⟩ := (hE2.drew.trans hw').walk; have x0 := (hc _ (off + m * 7) hb).trans c0; have x2 := (hc _ (off + m * 7 + 2) hb).trans c2; have y0 := (hc _ (off + j * 7) hb).trans d0; have y2 := (hc _ (off + j * 7 + 2) hb).trans d2
              refine ⟨rfl, ?_⟩
              simp only [putsL]
              change quietTo _ _ _ _ (Sem.run _ (execOp (Act.eval (Act.put (Act.put (Act.put (Act.put (Act.put _ (some 36) (sv 9)) (some 35) (sv 8)) (some 34) (sv 7)) (some 33) (sv 6)) (some 32) (sv 5))) _) _)
              try simp only [Act.put, List.setIfInBounds_toArray, List.set_cons_succ, List.set_cons_zero]
              simp [go_sem, quietTo, Ext.refl, ↓IntWalk.iteOmega, f9, y0]
              all_goals try simp (disch := omega) only [IntWalk.i64_in]
              all_goals first
                | rfl
            refine fac_quiet 11 rfl rfl rfl (fun _ _ h _ => h) rfl rfl ?_
            apply Exists.intro
            refine ⟨fun sv w' hw' hfa => ?_, ?_⟩
            · obtain ⟨_, _, _, _, f4, _, _, _, _, _, f10, -⟩ := hfa
              replace f4 : sv 4 = _ := f4
              try dsimp only at f4
              replace f10 : sv 10 = _ := f10
              try dsimp only at f10
              obtain ⟨hc, hf, hz9⟩ := (hE2.drew.trans hw').walk; have x0 := (hc _ (off + m * 7) hb).trans c0; have x2 := (hc _ (off + m * 7 + 2) hb).trans c2; have y0 := (hc _ (off + j * 7) hb).trans d0; have y2 := (hc _ (off + j * 7 + 2) hb).trans d2
              refine ⟨rfl, ?_⟩
              simp only [putsL]
              change quietTo _ _ _ _ (Sem.run _ (execOp (Act.eval (Act.put (Act.put (Act.put (Act.put (Act.put (Act.put (Act.put (Act.put (Act.put (Act.put (Act.put _ (some 37) (sv 10)) (some 36) (sv 9)) (some 35) (sv 8)) (some 34) (sv 7)) (some 33) (sv 6)) (some 32) (sv 5)) (some 31) (sv 4)) (some 30) (sv 3)) (some 29) (sv 2)) (some 28) (sv 1)) (some 27) (sv 0))) _) _)
              try simp only [Act.put, List.setIfInBounds_toArray, List.set_cons_succ, List.set_cons_zero]
              simp [go_sem, quietTo, Ext.refl, ↓IntWalk.iteOmega, f4, f10, hne]
              all_goals try simp (disch := omega) only [IntWalk.i64_in]
              all_goals first
                | rfl
            refine fac_quiet 12 rfl rfl rfl (fun _ _ h _ => h) rfl rfl ?_
            apply Exists.intro
            refine ⟨fun sv w' hw' hfa => ?_, ?_⟩
            · obtain ⟨_, _, _, _, _, _, _, _, _, _, _, f11, -⟩ := hfa
              replace f11 : sv 11 = _ := f11
              try dsimp only at f11
              refine ⟨rfl, ?_⟩
              simp only [putsL]
              change quietTo _ _ _ _ (Sem.run _ (execOp (Act.eval (Act.put (Act.put (Act.put (Act.put (Act.put (Act.put (Act.put (Act.put (Act.put (Act.put (Act.put (Act.put _ (some 38) (sv 11)) (some 37) (sv 10)) (some 36) (sv 9)) (some 35) (sv 8)) (some 34) (sv 7)) (some 33) (sv 6)) (some 32) (sv 5)) (some 31) (sv 4)) (some 30) (sv 3)) (some 29) (sv 2)) (some 28) (sv 1)) (some 27) (sv 0))) _) _)
              try simp only [Act.put, List.setIfInBounds_toArray, List.set_cons_succ, List.set_cons_zero]
              simp [go_sem, quietTo, Ext.refl, f11]
              all_goals first
                | rfl
            refine fac_skip 13 rfl rfl rfl (fun _ _ h _ => h) Ext.refl ?_ ?_
            · intro sv w' hw' hfa
              obtain ⟨f0, f1, f2, f3, f4, f5, f6, f7, f8, f9, f10, f11, f12, -⟩ := hfa
              replace f0 : sv 0 = _ := f0
              try dsimp only at f0
              replace f1 : sv 1 = _ := f1
              try dsimp only at f1
              replace f2 : sv 2 = _ := f2
              try dsimp only at f2
              replace f3 : sv 3 = _ := f3
              try dsimp only at f3
              replace f4 : sv 4 = _ := f4
              try dsimp only at f4
              replace f5 : sv 5 = _ := f5
              try dsimp only at f5
              replace f6 : sv 6 = _ := f6
              try dsimp only at f6
              replace f7 : sv 7 = _ := f7
              try dsimp only at f7
              replace f8 : sv 8 = _ := f8
              try dsimp only at f8
              replace f9 : sv 9 = _ := f9
              try dsimp only at f9
              replace f10 : sv 10 = _ := f10
              try dsimp only at f10
              replace f11 : sv 11 = _ := f11
              try dsimp only at f11
              replace f12 : sv 12 = _ := f12
              try dsimp only at f12
              simp [Region.wanted, yielded, putsL, Act.put, f12]
            refine fac_skip 14 rfl rfl rfl (fun _ _ h _ => h) Ext.refl ?_ ?_
            · intro sv w' hw' hfa
              obtain ⟨f0, f1, f2, f3, f4, f5, f6, f7, f8, f9, f10, f11, f12, -⟩ := hfa
              replace f0 : sv 0 = _ := f0
              try dsimp only at f0
              replace f1 : sv 1 = _ := f1
              try dsimp only at f1
              replace f2 : sv 2 = _ := f2
              try dsimp only at f2
              replace f3 : sv 3 = _ := f3
              try dsimp only at f3
              replace f4 : sv 4 = _ := f4
              try dsimp only at f4
              replace f5 : sv 5 = _ := f5
              try dsimp only at f5
              replace f6 : sv 6 = _ := f6
              try dsimp only at f6
              replace f7 : sv 7 = _ := f7
              try dsimp only at f7
              replace f8 : sv 8 = _ := f8
              try dsimp only at f8
              replace f9 : sv 9 = _ := f9
              try dsimp only at f9
              replace f10 : sv 10 = _ := f10
              try dsimp only at f10
              replace f11 : sv 11 = _ := f11
              try dsimp only at f11
              replace f12 : sv 12 = _ := f12
              try dsimp only at f12
              simp [Region.wanted, yielded, putsL, Act.put, f12]
            refine fac_skip 15 rfl rfl rfl (fun _ _ h _ => h) Ext.refl ?_ ?_
            · intro sv w' hw' hfa
              obtain ⟨f0, f1, f2, f3, f4, f5, f6, f7, f8, f9, f10, f11, f12, f13, f14, -⟩ := hfa
              replace f0 : sv 0 = _ := f0
              try dsimp only at f0
              replace f1 : sv 1 = _ := f1
              try dsimp only at f1
              replace f2 : sv 2 = _ := f2
              try dsimp only at f2
              replace f3 : sv 3 = _ := f3
              try dsimp only at f3
              replace f4 : sv 4 = _ := f4
              try dsimp only at f4
              replace f5 : sv 5 = _ := f5
              try dsimp only at f5
              replace f6 : sv 6 = _ := f6
              try dsimp only at f6
              replace f7 : sv 7 = _ := f7
              try dsimp only at f7
              replace f8 : sv 8 = _ := f8
              try dsimp only at f8
              replace f9 : sv 9 = _ := f9
              try dsimp only at f9
              replace f10 : sv 10 = _ := f10
              try dsimp only at f10
              replace f11 : sv 11 = _ := f11
              try dsimp only at f11
              replace f12 : sv 12 = _ := f12
              try dsimp only at f12
              replace f13 : sv 13 = _ := f13
              try dsimp only at f13
              replace f14 : sv 14 = _ := f14
              try dsimp only at f14
              simp [Region.wanted, yielded, putsL, Act.put, f12, f13, f14]
            refine fac_skip 16 rfl rfl rfl (fun _ _ h _ => h) Ext.refl ?_ ?_
            · intro sv w' hw' hfa
              obtain ⟨f0, f1, f2, f3, f4, f5, f6, f7, f8, f9, f10, f11, f12, f13, f14, f15, -⟩ := hfa
              replace f0 : sv 0 = _ := f0
              try dsimp only at f0
              replace f1 : sv 1 = _ := f1
              try dsimp only at f1
              replace f2 : sv 2 = _ := f2
              try dsimp only at f2
              replace f3 : sv 3 = _ := f3
              try dsimp only at f3
              replace f4 : sv 4 = _ := f4
              try dsimp only at f4
              replace f5 : sv 5 = _ := f5
              try dsimp only at f5
              replace f6 : sv 6 = _ := f6
              try dsimp only at f6
              replace f7 : sv 7 = _ := f7
              try dsimp only at f7
              replace f8 : sv 8 = _ := f8
              try dsimp only at f8
              replace f9 : sv 9 = _ := f9
              try dsimp only at f9
              replace f10 : sv 10 = _ := f10
              try dsimp only at f10
              replace f11 : sv 11 = _ := f11
              try dsimp only at f11
              replace f12 : sv 12 = _ := f12
              try dsimp only at f12
              replace f13 : sv 13 = _ := f13
              try dsimp only at f13
              replace f14 : sv 14 = _ := f14
              try dsimp only at f14
              replace f15 : sv 15 = _ := f15
              try dsimp only at f15
              simp [Region.wanted, yielded, putsL, Act.put, f12, f15]
            refine fac_skip 17 rfl rfl rfl (fun _ _ h _ => h) Ext.refl ?_ ?_
            · intro sv w' hw' hfa
              obtain ⟨f0, f1, f2, f3, f4, f5, f6, f7, f8, f9, f10, f11, f12, f13, f14, f15, f16, -⟩ := hfa
              replace f0 : sv 0 = _ := f0
              try dsimp only at f0
              replace f1 : sv 1 = _ := f1
              try dsimp only at f1
              replace f2 : sv 2 = _ := f2
              try dsimp only at f2
              replace f3 : sv 3 = _ := f3
              try dsimp only at f3
              replace f4 : sv 4 = _ := f4
              try dsimp only at f4
              replace f5 : sv 5 = _ := f5
              try dsimp only at f5
              replace f6 : sv 6 = _ := f6
              try dsimp only at f6
              replace f7 : sv 7 = _ := f7
              try dsimp only at f7
              replace f8 : sv 8 = _ := f8
              try dsimp only at f8
              replace f9 : sv 9 = _ := f9
              try dsimp only at f9
              replace f10 : sv 10 = _ := f10
              try dsimp only at f10
              replace f11 : sv 11 = _ := f11
              try dsimp only at f11
              replace f12 : sv 12 = _ := f12
              try dsimp only at f12
              replace f13 : sv 13 = _ := f13
              try dsimp only at f13
              replace f14 : sv 14 = _ := f14
              try dsimp only at f14
              replace f15 : sv 15 = _ := f15
              try dsimp only at f15
              replace f16 : sv 16 = _ := f16
              try dsimp only at f16
              simp [Region.wanted, yielded, putsL, Act.put, f12, f16]
            refine fac_skip 18 rfl rfl rfl (fun _ _ h _ => h) Ext.refl ?_ ?_
            · intro sv w' hw' hfa
              obtain ⟨f0, f1, f2, f3, f4, f5, f6, f7, f8, f9, f10, f11, f12, -⟩ := hfa
              replace f0 : sv 0 = _ := f0
              try dsimp only at f0
              replace f1 : sv 1 = _ := f1
              try dsimp only at f1
              replace f2 : sv 2 = _ := f2
              try dsimp only at f2
              replace f3 : sv 3 = _ := f3
              try dsimp only at f3
              replace f4 : sv 4 = _ := f4
              try dsimp only at f4
              replace f5 : sv 5 = _ := f5
              try dsimp only at f5
              replace f6 : sv 6 = _ := f6
              try dsimp only at f6
              replace f7 : sv 7 = _ := f7
              try dsimp only at f7
              replace f8 : sv 8 = _ := f8
              try dsimp only at f8
              replace f9 : sv 9 = _ := f9
              try dsimp only at f9
              replace f10 : sv 10 = _ := f10
              try dsimp only at f10
              replace f11 : sv 11 = _ := f11
              try dsimp only at f11
              replace f12 : sv 12 = _ := f12
              try dsimp only at f12
              simp [Region.wanted, yielded, putsL, Act.put, f12]
            refine fac_skip 19 rfl rfl rfl (fun _ _ h _ => h) Ext.refl ?_ ?_
            · intro sv w' hw' hfa
              obtain ⟨f0, f1, f2, f3, f4, f5, f6, f7, f8, f9, f10, f11, f12, -⟩ := hfa
              replace f0 : sv 0 = _ := f0
              try dsimp only at f0
              replace f1 : sv 1 = _ := f1
              try dsimp only at f1
              replace f2 : sv 2 = _ := f2
              try dsimp only at f2
              replace f3 : sv 3 = _ := f3
              try dsimp only at f3
              replace f4 : sv 4 = _ := f4
              try dsimp only at f4
              replace f5 : sv 5 = _ := f5
              try dsimp only at f5
              replace f6 : sv 6 = _ := f6
              try dsimp only at f6
              replace f7 : sv 7 = _ := f7
              try dsimp only at f7
              replace f8 : sv 8 = _ := f8
              try dsimp only at f8
              replace f9 : sv 9 = _ := f9
              try dsimp only at f9
              replace f10 : sv 10 = _ := f10
              try dsimp only at f10
              replace f11 : sv 11 = _ := f11
              try dsimp only at f11
              replace f12 : sv 12 = _ := f12
              try dsimp only at f12
              simp [Region.wanted, yielded, putsL, Act.put, f12]
            refine fac_skip 20 rfl rfl rfl (fun _ _ h _ => h) Ext.refl ?_ ?_
            · intro sv w' hw' hfa
              obtain ⟨f0, f1, f2, f3, f4, f5, f6, f7, f8, f9, f10, f11, f12, f19, -⟩ := hfa
              replace f0 : sv 0 = _ := f0
              try dsimp only at f0
              replace f1 : sv 1 = _ := f1
              try dsimp only at f1
              replace f2 : sv 2 = _ := f2
              try dsimp only at f2
              replace f3 : sv 3 = _ := f3
              try dsimp only at f3
              replace f4 : sv 4 = _ := f4
              try dsimp only at f4
              replace f5 : sv 5 = _ := f5
              try dsimp only at f5
              replace f6 : sv 6 = _ := f6
              try dsimp only at f6
              replace f7 : sv 7 = _ := f7
              try dsimp only at f7
              replace f8 : sv 8 = _ := f8
              try dsimp only at f8
              replace f9 : sv 9 = _ := f9
              try dsimp only at f9
              replace f10 : sv 10 = _ := f10
              try dsimp only at f10
              replace f11 : sv 11 = _ := f11
              try dsimp only at f11
              replace f12 : sv 12 = _ := f12
              try dsimp only at f12
              replace f19 : sv 19 = _ := f19
              try dsimp only at f19
              simp [Region.wanted, yielded, putsL, Act.put, f12, f19]
            refine fac_skip 21 rfl rfl rfl (fun _ _ h _ => h) Ext.refl ?_ ?_
            · intro sv w' hw' hfa
              obtain ⟨f0, f1, f2, f3, f4, f5, f6, f7, f8, f9, f10, f11, f12, f18, f19, f20, -⟩ := hfa
              replace f0 : sv 0 = _ := f0
              try dsimp only at f0
              replace f1 : sv 1 = _ := f1
              try dsimp only at f1
              replace f2 : sv 2 = _ := f2
              try dsimp only at f2
              replace f3 : sv 3 = _ := f3
              try dsimp only at f3
              replace f4 : sv 4 = _ := f4
              try dsimp only at f4
              replace f5 : sv 5 = _ := f5
              try dsimp only at f5
              replace f6 : sv 6 = _ := f6
              try dsimp only at f6
              replace f7 : sv 7 = _ := f7
              try dsimp only at f7
              replace f8 : sv 8 = _ := f8
              try dsimp only at f8
              replace f9 : sv 9 = _ := f9
              try dsimp only at f9
              replace f10 : sv 10 = _ := f10
              try dsimp only at f10
              replace f11 : sv 11 = _ := f11
              try dsimp only at f11
              replace f12 : sv 12 = _ := f12
              try dsimp only at f12
              replace f18 : sv 18 = _ := f18
              try dsimp only at f18
              replace f19 : sv 19 = _ := f19
              try dsimp only at f19
              replace f20 : sv 20 = _ := f20
              try dsimp only at f20
              simp [Region.wanted, yielded, putsL, Act.put, f12, f18, f20]
            refine fac_skip 22 rfl rfl rfl (fun _ _ h _ => h) Ext.refl ?_ ?_
            · intro sv w' hw' hfa
              obtain ⟨f0, f1, f2, f3, f4, f5, f6, f7, f8, f9, f10, f11, f12, f18, f19, f20, f21, -⟩ := hfa
              replace f0 : sv 0 = _ := f0
              try dsimp only at f0
              replace f1 : sv 1 = _ := f1
              try dsimp only at f1
              replace f2 : sv 2 = _ := f2
              try dsimp only at f2
              replace f3 : sv 3 = _ := f3
              try dsimp only at f3
              replace f4 : sv 4 = _ := f4
              try dsimp only at f4
              replace f5 : sv 5 = _ := f5
              try dsimp only at f5
              replace f6 : sv 6 = _ := f6
              try dsimp only at f6
              replace f7 : sv 7 = _ := f7
              try dsimp only at f7
              replace f8 : sv 8 = _ := f8
              try dsimp only at f8
              replace f9 : sv 9 = _ := f9
              try dsimp only at f9
              replace f10 : sv 10 = _ := f10
              try dsimp only at f10
              replace f11 : sv 11 = _ := f11
              try dsimp only at f11
              replace f12 : sv 12 = _ := f12
              try dsimp only at f12
              replace f18 : sv 18 = _ := f18
              try dsimp only at f18
              replace f19 : sv 19 = _ := f19
              try dsimp only at f19
              replace f20 : sv 20 = _ := f20
              try dsimp only at f20
              replace f21 : sv 21 = _ := f21
              try dsimp only at f21
              simp [Region.wanted, yielded, putsL, Act.put, f12, f21]
            refine fac_skip 23 rfl rfl rfl (fun _ _ h _ => h) Ext.refl ?_ ?_
            · intro sv w' hw' hfa
              obtain ⟨f0, f1, f2, f3, f4, f5, f6, f7, f8, f9, f10, f11, f12, f18, f19, f20, f21, f22, -⟩ := hfa
              replace f0 : sv 0 = _ := f0
              try dsimp only at f0
              replace f1 : sv 1 = _ := f1
              try dsimp only at f1
              replace f2 : sv 2 = _ := f2
              try dsimp only at f2
              replace f3 : sv 3 = _ := f3
              try dsimp only at f3
              replace f4 : sv 4 = _ := f4
              try dsimp only at f4
              replace f5 : sv 5 = _ := f5
              try dsimp only at f5
              replace f6 : sv 6 = _ := f6
              try dsimp only at f6
              replace f7 : sv 7 = _ := f7
              try dsimp only at f7
              replace f8 : sv 8 = _ := f8
              try dsimp only at f8
              replace f9 : sv 9 = _ := f9
              try dsimp only at f9
              replace f10 : sv 10 = _ := f10
              try dsimp only at f10
              replace f11 : sv 11 = _ := f11
              try dsimp only at f11
              replace f12 : sv 12 = _ := f12
              try dsimp only at f12
              replace f18 : sv 18 = _ := f18
              try dsimp only at f18
              replace f19 : sv 19 = _ := f19
              try dsimp only at f19
              replace f20 : sv 20 = _ := f20
              try dsimp only at f20
              replace f21 : sv 21 = _ := f21
              try dsimp only at f21
              replace f22 : sv 22 = _ := f22
              try dsimp only at f22
              simp [Region.wanted, yielded, putsL, Act.put, f12, f22]
            refine fac_skip 24 rfl rfl rfl (fun _ _ h _ => h) Ext.refl ?_ ?_
            · intro sv w' hw' hfa
              obtain ⟨f0, f1, f2, f3, f4, f5, f6, f7, f8, f9, f10, f11, f12, f13, f14, f15, f16, f17, f18, f19, f20, f21, f22, f23, -⟩ := hfa
              replace f0 : sv 0 = _ := f0
              try dsimp only at f0
              replace f1 : sv 1 = _ := f1
              try dsimp only at f1
              replace f2 : sv 2 = _ := f2
              try dsimp only at f2
              replace f3 : sv 3 = _ := f3
              try dsimp only at f3
              replace f4 : sv 4 = _ := f4
              try dsimp only at f4
              replace f5 : sv 5 = _ := f5
              try dsimp only at f5
              replace f6 : sv 6 = _ := f6
              try dsimp only at f6
              replace f7 : sv 7 = _ := f7
              try dsimp only at f7
              replace f8 : sv 8 = _ := f8
              try dsimp only at f8
              replace f9 : sv 9 = _ := f9
              try dsimp only at f9
              replace f10 : sv 10 = _ := f10
              try dsimp only at f10
              replace f11 : sv 11 = _ := f11
              try dsimp only at f11
              replace f12 : sv 12 = _ := f12
              try dsimp only at f12
              replace f13 : sv 13 = _ := f13
              try dsimp only at f13
              replace f14 : sv 14 = _ := f14
              try dsimp only at f14
              replace f15 : sv 15 = _ := f15
              try dsimp only at f15
              replace f16 : sv 16 = _ := f16
              try dsimp only at f16
              replace f17 : sv 17 = _ := f17
              try dsimp only at f17
              replace f18 : sv 18 = _ := f18
              try dsimp only at f18
              replace f19 : sv 19 = _ := f19
              try dsimp only at f19
              replace f20 : sv 20 = _ := f20
              try dsimp only at f20
              replace f21 : sv 21 = _ := f21
              try dsimp only at f21
              replace f22 : sv 22 = _ := f22
              try dsimp only at f22
              replace f23 : sv 23 = _ := f23
              try dsimp only at f23
              simp [Region.wanted, yielded, putsL, Act.put, f12, f17, f23]
            refine fac_quiet 25 rfl rfl rfl (fun _ _ h _ => h) rfl rfl ?_
            apply Exists.intro
            refine ⟨fun sv w' hw' hfa => ?_, ?_⟩
            · obtain ⟨_, _, _, _, _, _, _, _, _, _, _, _, f12, _, _, _, _, _, _, _, _, _, _, _, f24, -⟩ := hfa
              replace f12 : sv 12 = _ := f12
              try dsimp only at f12
              replace f24 : sv 24 = _ := f24
              try dsimp only at f24
              refine ⟨rfl, ?_⟩
              simp only [putsL]
              change quietTo _ _ _ _ (Sem.run _ (execOp (Act.eval (Act.put (Act.put (Act.put (Act.put (Act.put (Act.put (Act.put (Act.put (Act.put (Act.put (Act.put (Act.put (Act.put (Act.put (Act.put (Act.put (Act.put (Act.put (Act.put (Act.put (Act.put (Act.put (Act.put (Act.put (Act.put _ (some 51) (sv 24)) (some 50) (sv 23)) (some 49) (sv 22)) (some 48) (sv 21)) (some 47) (sv 20)) (some 46) (sv 19)) (some 45) (sv 18)) (some 44) (sv 17)) (some 43) (sv 16)) (some 42) (sv 15)) (some 41) (sv 14)) (some 40) (sv 13)) (some 39) (sv 12)) (some 38) (sv 11)) (some 37) (sv 10)) (some 36) (sv 9)) (some 35) (sv 8)) (some 34) (sv 7)) (some 33) (sv 6)) (some 32) (sv 5)) (some 31) (sv 4)) (some 30) (sv 3)) (some 29) (sv 2)) (some 28) (sv 1)) (some 27) (sv 0))) _) _)
              try simp only [Act.put, List.setIfInBounds_toArray, List.set_cons_succ, List.set_cons_zero]
              simp [go_sem, quietTo, Ext.refl, ↓IntWalk.iteOmega, f12, f24]
              all_goals try simp (disch := omega) only [IntWalk.i64_in]
              all_goals first
                | rfl
            refine fac_nil fun xa wra hera hfra hcra holda hapa => ?_
            obtain ⟨f0, f1, f2, f3, f4, f5, f6, f7, f8, f9, f10, f11, f12, f13, f14, f15, f16, f17, f18, f19, f20, f21, f22, f23, f24, f25, -⟩ := hfra
            replace f0 : xa 0 = _ := f0
            try dsimp only at f0
            replace f1 : xa 1 = _ := f1
            try dsimp only at f1
            replace f2 : xa 2 = _ := f2
            try dsimp only at f2
            replace f3 : xa 3 = _ := f3
            try dsimp only at f3
            replace f4 : xa 4 = _ := f4
            try dsimp only at f4
            replace f5 : xa 5 = _ := f5
            try dsimp only at f5
            replace f6 : xa 6 = _ := f6
            try dsimp only at f6
            replace f7 : xa 7 = _ := f7
            try dsimp only at f7
            replace f8 : xa 8 = _ := f8
            try dsimp only at f8
            replace f9 : xa 9 = _ := f9
            try dsimp only at f9
            replace f10 : xa 10 = _ := f10
            try dsimp only at f10
            replace f11 : xa 11 = _ := f11
            try dsimp only at f11
            replace f12 : xa 12 = _ := f12
            try dsimp only at f12
            replace f13 : xa 13 = _ := f13
            try dsimp only at f13
            replace f14 : xa 14 = _ := f14
            try dsimp only at f14
            replace f15 : xa 15 = _ := f15
            try dsimp only at f15
            replace f16 : xa 16 = _ := f16
            try dsimp only at f16
            replace f17 : xa 17 = _ := f17
            try dsimp only at f17
            replace f18 : xa 18 = _ := f18
            try dsimp only at f18
            replace f19 : xa 19 = _ := f19
            try dsimp only at f19
            replace f20 : xa 20 = _ := f20
            try dsimp only at f20
            replace f21 : xa 21 = _ := f21
            try dsimp only at f21
            replace f22 : xa 22 = _ := f22
            try dsimp only at f22
            replace f23 : xa 23 = _ := f23
            try dsimp only at f23
            replace f24 : xa 24 = _ := f24
            try dsimp only at f24
            replace f25 : xa 25 = _ := f25
            try dsimp only at f25
            change wpList _ _ _ _ (Act.put (Act.put (Act.put (Act.put (Act.put (Act.put (Act.put (Act.put (Act.put (Act.put (Act.put (Act.put (Act.put (Act.put (Act.put (Act.put (Act.put (Act.put (Act.put (Act.put (Act.put (Act.put (Act.put (Act.put (Act.put (Act.put _ (some 27) (xa 0)) (some 28) (xa 1)) (some 29) (xa 2)) (some 30) (xa 3)) (some 31) (xa 4)) (some 32) (xa 5)) (some 33) (xa 6)) (some 34) (xa 7)) (some 35) (xa 8)) (some 36) (xa 9)) (some 37) (xa 10)) (some 38) (xa 11)) (some 39) (xa 12)) (some 40) (xa 13)) (some 41) (xa 14)) (some 42) (xa 15)) (some 43) (xa 16)) (some 44) (xa 17)) (some 45) (xa 18)) (some 46) (xa 19)) (some 47) (xa 20)) (some 48) (xa 21)) (some 49) (xa 22)) (some 50) (xa 23)) (some 51) (xa 24)) (some 52) (xa 25)) _
            simp only [putsL, Nat.reduceAdd, List.drop_succ_cons, List.drop_zero, List.drop_nil, Act.put, List.setIfInBounds_toArray, List.set_cons_succ, List.set_cons_zero]
            try simp only [f0, f1, f2, f3, f4, f5, f6, f7, f8, f9, f10, f11, f12, f13, f14, f15, f16, f17, f18, f19, f20, f21, f22, f23, f24, f25]
            clear f0 f1 f2 f3 f4 f5 f6 f7 f8 f9 f10 f11 f12 f13 f14 f15 f16 f17 f18 f19 f20 f21 f22 f23 f24 f25
            clear holda hapa
            clear c0 c2 d0 d2
            go_wp2
            go_roundw
            case rel => exact ⟨m + 1, by omega, .inl hlt, by go_num, hz.succ (by rw [hv.out, hne]; simp), hE2.trans ((Ext.refl _).drew.trans hera)⟩
            case measure => simp [intOf]; omega
          · by_cases hat : x.at_ < y.at_
            all_goals
              refine wp_region_facts [] [([], false, false), ([], false, false), ([0, 1], false, false), ([0, 1, 2], false, false), ([0, 1, 2, 3], false, false), ([], false, false), ([], false, false), ([6], false, false), ([5, 6, 7], false, false), ([5, 6, 7, 8], false, false), ([5, 6, 7, 8, 9], false, false), ([0, 1, 2, 3, 4, 5, 6, 7, 8, 9, 10], false, false), ([0, 1, 2, 3, 4, 5, 6, 7, 8, 9, 10, 11], false, false), ([0, 1, 2, 3, 4, 5, 6, 7, 8, 9, 10, 11, 12], false, false), ([0, 1, 2, 3, 4, 5, 6, 7, 8, 9, 10, 11, 12], false, false), ([0, 1, 2, 3, 4, 5, 6, 7, 8, 9, 10, 11, 12, 13, 14], false, false), ([0, 1, 2, 3, 4, 5, 6, 7, 8, 9, 10, 11, 12, 13, 14, 15], false, false), ([0, 1, 2, 3, 4, 5, 6, 7, 8, 9, 10, 11, 12, 13, 14, 15, 16], false, false), ([0, 1, 2, 3, 4, 5, 6, 7, 8, 9, 10, 11, 12], false, false), ([0, 1, 2, 3, 4, 5, 6, 7, 8, 9, 10, 11, 12], false, false), ([0, 1, 2, 3, 4, 5, 6, 7, 8, 9, 10, 11, 12, 19], false, false), ([0, 1, 2, 3, 4, 5, 6, 7, 8, 9, 10, 11, 12, 18, 19, 20], false, false), ([0, 1, 2, 3, 4, 5, 6, 7, 8, 9, 10, 11, 12, 18, 19, 20, 21], false, false), ([0, 1, 2, 3, 4, 5, 6, 7, 8, 9, 10, 11, 12, 18, 19, 20, 21, 22], false, false), ([0, 1, 2, 3, 4, 5, 6, 7, 8, 9, 10, 11, 12, 13, 14, 15, 16, 17, 18, 19, 20, 21, 22, 23], false, false), ([0, 1, 2, 3, 4, 5, 6, 7, 8, 9, 10, 11, 12, 13, 14, 15, 16, 17, 18, 19, 20, 21, 22, 23, 24], false, false)] (Ext) Ext (fun _ => True) (by kernel_rfl) (by kernel_rfl) Ext.refl (fun _ _ _ => Ext.trans) (fun _ _ h => h) (fun _ _ h => h.size) (fun _ _ h _ => h) trivial ?_
              dsimp only [List.length_cons, List.length_nil, List.drop_succ_cons, List.drop_zero, List.drop_nil]
              refine fac_quiet 0 rfl rfl rfl (fun _ _ h _ => h) rfl rfl ?_
              apply Exists.intro
              refine ⟨fun sv w' hw' hfa => ?_, ?_⟩
              · refine ⟨rfl, ?_⟩
                simp only [putsL]
                change quietTo _ _ _ _ (Sem.run _ (execOp (Act.eval _) _) _)
                try simp only [Act.put, List.setIfInBounds_toArray, List.set_cons_succ, List.set_cons_zero]
                simp [go_sem, quietTo, Ext.refl]
                all_goals first
                  | rfl
              refine fac_quiet 1 rfl rfl rfl (fun _ _ h _ => h) rfl rfl ?_
              apply Exists.intro
              refine ⟨fun sv w' hw' hfa => ?_, ?_⟩
              · refine ⟨rfl, ?_⟩
                simp only [putsL]
                change quietTo _ _ _ _ (Sem.run _ (execOp (Act.eval _) _) _)
                try simp only [Act.put, List.setIfInBounds_toArray, List.set_cons_succ, List.set_cons_zero]
                simp [go_sem, quietTo, Ext.refl]
                all_goals first
                  | rfl
              refine fac_quiet 2 rfl rfl rfl (fun _ _ h _ => h) rfl rfl ?_
              apply Exists.intro
              refine ⟨fun sv w' hw' hfa => ?_, ?_⟩
              · obtain ⟨f0, f1, -⟩ := hfa
                replace f0 : sv 0 = _ := f0
                try dsimp only at f0
                replace f1 : sv 1 = _ := f1
                try dsimp only at f1
                obtain ⟨hc, hf, hz9⟩ := (hE2.drew.trans hw').walk; have x0 := (hc _ (off + m * 7) hb).trans c0; have x2 := (hc _ (off + m * 7 + 2) hb).trans c2; have y0 := (hc _ (off + j * 7) hb).trans d0; have y2 := (hc _ (off + j * 7 + 2) hb).trans d2
                refine ⟨rfl, ?_⟩
                simp only [putsL]
                change quietTo _ _ _ _ (Sem.run _ (execOp (Act.eval (Act.put (Act.put _ (some 28) (sv 1)) (some 27) (sv 0))) _) _)
                try simp only [Act.put, List.setIfInBounds_toArray, List.set_cons_succ, List.set_cons_zero]
                simp [go_sem, quietTo, Ext.refl, ↓IntWalk.iteOmega, f0, f1, hmI]
                all_goals try simp (disch := omega) only [IntWalk.i64_in]
                all_goals first
                  | rfl
              refine fac_quiet 3 rfl rfl rfl (fun _ _ h _ => h) rfl rfl ?_
              apply Exists.intro
              refine ⟨fun sv w' hw' hfa => ?_, ?_⟩
              · obtain ⟨_, _, f2, -⟩ := hfa
                replace f2 : sv 2 = _ := f2
                try dsimp only at f2
                refine ⟨rfl, ?_⟩
                simp only [putsL]
                change quietTo _ _ _ _ (Sem.run _ (execOp (Act.eval (Act.put (Act.put (Act.put _ (some 29) (sv 2)) (some 28) (sv 1)) (some 27) (sv 0))) _) _)
                try simp only [Act.put, List.setIfInBounds_toArray, List.set_cons_succ, List.set_cons_zero]
                simp [go_sem, quietTo, Ext.refl, f2]
                all_goals first
                  | rfl
              refine fac_quiet 4 rfl rfl rfl (fun _ _ h _ => h) rfl rfl ?_
              apply Exists.intro
              refine ⟨fun sv w' hw' hfa => ?_, ?_⟩
              · obtain ⟨_, _, _, f3, -⟩ := hfa
                replace f3 : sv 3 = _ := f3
                try dsimp only at f3
                obtain ⟨hc, hf, hz9⟩ := (hE2.drew.trans hw').walk; have x0 := (hc _ (off + m * 7) hb).trans c0; have x2 := (hc _ (off + m * 7 + 2) hb).trans c2; have y0 := (hc _ (off + j * 7) hb).trans d0; have y2 := (hc _ (off + j * 7 + 2) hb).trans d2
                refine ⟨rfl, ?_⟩
                simp only [putsL]
                change quietTo _ _ _ _ (Sem.run _ (execOp (Act.eval (Act.put (Act.put (Act.put (Act.put _ (some 30) (sv 3)) (some 29) (sv 2)) (some 28) (sv 1)) (some 27) (sv 0))) _) _)
                try simp only [Act.put, List.setIfInBounds_toArray, List.set_cons_succ, List.set_cons_zero]
                simp [go_sem, quietTo, Ext.refl, ↓IntWalk.iteOmega, f3, x0]
                all_goals try simp (disch := omega) only [IntWalk.i64_in]
                all_goals first
                  | rfl
              refine fac_quiet 5 rfl rfl rfl (fun _ _ h _ => h) rfl rfl ?_
              apply Exists.intro
              refine ⟨fun sv w' hw' hfa => ?_, ?_⟩
              · refine ⟨rfl, ?_⟩
                simp only [putsL]
                change quietTo _ _ _ _ (Sem.run _ (execOp (Act.eval _) _) _)
                try simp only [Act.put, List.setIfInBounds_toArray, List.set_cons_succ, List.set_cons_zero]
                simp [go_sem, quietTo, Ext.refl]
                all_goals first
                  | rfl
              refine fac_quiet 6 rfl rfl rfl (fun _ _ h _ => h) rfl rfl ?_
              apply Exists.intro
              refine ⟨fun sv w' hw' hfa => ?_, ?_⟩
              · refine ⟨rfl, ?_⟩
                simp only [putsL]
                change quietTo _ _ _ _ (Sem.run _ (execOp (Act.eval _) _) _)
                try simp only [Act.put, List.setIfInBounds_toArray, List.set_cons_succ, List.set_cons_zero]
                simp [go_sem, quietTo, Ext.refl]
                all_goals first
                  | rfl
              refine fac_quiet 7 rfl rfl rfl (fun _ _ h _ => h) rfl rfl ?_
              apply Exists.intro
              refine ⟨fun sv w' hw' hfa => ?_, ?_⟩
              · obtain ⟨f6, -⟩ := hfa
                replace f6 : sv 6 = _ := f6
                try dsimp only at f6
                obtain ⟨hc, hf, hz9⟩ := (hE2.drew.trans hw').walk; have x0 := (hc _ (off + m * 7) hb).trans c0; have x2 := (hc _ (off + m * 7 + 2) hb).trans c2; have y0 := (hc _ (off + j * 7) hb).trans d0; have y2 := (hc _ (off + j * 7 + 2) hb).trans d2
                refine ⟨rfl, ?_⟩
                simp only [putsL]
                change quietTo _ _ _ _ (Sem.run _ (execOp (Act.eval (Act.put _ (some 33) (sv 6))) _) _)
                try simp only [Act.put, List.setIfInBounds_toArray, List.set_cons_succ, List.set_cons_zero]
                simp [go_sem, quietTo, Ext.refl, ↓IntWalk.iteOmega, f6, hwj]
                all_goals try simp (disch := omega) only [IntWalk.i64_in]
                all_goals first
                  | rfl
              refine fac_quiet 8 rfl rfl rfl (fun _ _ h _ => h) rfl rfl ?_
              apply Exists.intro
              refine ⟨fun sv w' hw' hfa => ?_, ?_⟩
              · obtain ⟨f5, _, f7, -⟩ := hfa
                replace f5 : sv 5 = _ := f5
                try dsimp only at f5
                replace f7 : sv 7 = _ := f7
                try dsimp only at f7
                obtain ⟨hc, hf, hz9⟩ := (hE2.drew.trans hw').walk; have x0 := (hc _ (off + m * 7) hb).trans c0; have x2 := (hc _ (off + m * 7 + 2) hb).trans c2; have y0 := (hc _ (off + j * 7) hb).trans d0; have y2 := (hc _ (off + j * 7 + 2) hb).trans d2
                refine ⟨rfl, ?_⟩
                simp only [putsL]
                change quietTo _ _ _ _ (Sem.run _ (execOp (Act.eval (Act.put (Act.put (Act.put _ (some 34) (sv 7)) (some 33) (sv 6)) (some 32) (sv 5))) _) _)
                try simp only [Act.put, List.setIfInBounds_toArray, List.set_cons_succ, List.set_cons_zero]
                simp [go_sem, quietTo, Ext.refl, ↓IntWalk.iteOmega, f5, f7, hjI]
                all_goals try simp (disch := omega) only [IntWalk.i64_in]
                all_goals first
                  | rfl
              refine fac_quiet 9 rfl rfl rfl (fun _ _ h _ => h) rfl rfl ?_
              apply Exists.intro
              refine ⟨fun sv w' hw' hfa => ?_, ?_⟩
              · obtain ⟨_, _, _, f8, -⟩ := hfa
                replace f8 : sv 8 = _ := f8
                try dsimp only at f8
                refine ⟨rfl, ?_⟩
                simp only [putsL]
                change quietTo _ _ _ _ (Sem.run _ (execOp (Act.eval (Act.put (Act.put (Act.put (Act.put _ (some 35) (sv 8)) (some 34) (sv 7)) (some 33) (sv 6)) (some 32) (sv 5))) _) _)
                try simp only [Act.put, List.setIfInBounds_toArray, List.set_cons_succ, List.set_cons_zero]
                simp [go_sem, quietTo, Ext.refl, f8]
                all_goals first
                  | rfl
              refine fac_quiet 10 rfl rfl rfl (fun _ _ h _ => h) rfl rfl ?_
              apply Exists.intro
              refine ⟨fun sv w' hw' hfa => ?_, ?_⟩
              · obtain ⟨_, _, _, _, f9, -⟩ := hfa
                replace f9 : sv 9 = _ := f9
                try dsimp only at f9
                obtain ⟨hc, hf, hz9⟩ := (hE2.drew.trans hw').walk; have x0 := (hc _ (off + m * 7) hb).trans c0; have x2 := (hc _ (off + m * 7 + 2) hb).trans c2; have y0 := (hc _ (off + j * 7) hb).trans d0; have y2 := (hc _ (off + j * 7 + 2) hb).trans d2
                refine ⟨rfl, ?_⟩
                simp only [putsL]
                change quietTo _ _ _ _ (Sem.run _ (execOp (Act.eval (Act.put (Act.put (Act.put (Act.put (Act.put _ (some 36) (sv 9)) (some 35) (sv 8)) (some 34) (sv 7)) (some 33) (sv 6)) (some 32) (sv 5))) _) _)
                try simp only [Act.put, List.setIfInBounds_toArray, List.set_cons_succ, List.set_cons_zero]
                simp [go_sem, quietTo, Ext.refl, ↓IntWalk.iteOmega, f9, y0]
                all_goals try simp (disch := omega) only [IntWalk.i64_in]
                all_goals first
                  | rfl
              refine fac_quiet 11 rfl rfl rfl (fun _ _ h _ => h) rfl rfl ?_
              apply Exists.intro
              refine ⟨fun sv w' hw' hfa => ?_, ?_⟩
              · obtain ⟨_, _, _, _, f4, _, _, _, _, _, f10, -⟩ := hfa
                replace f4 : sv 4 = _ := f4
                try dsimp only at f4
                replace f10 : sv 10 = _ := f10
                try dsimp only at f10
                obtain ⟨hc, hf, hz9⟩ := (hE2.drew.trans hw').walk; have x0 := (hc _ (off + m * 7) hb).trans c0; have x2 := (hc _ (off + m * 7 + 2) hb).trans c2; have y0 := (hc _ (off + j * 7) hb).trans d0; have y2 := (hc _ (off + j * 7 + 2) hb).trans d2
                refine ⟨rfl, ?_⟩
                simp only [putsL]
                change quietTo _ _ _ _ (Sem.run _ (execOp (Act.eval (Act.put (Act.put (Act.put (Act.put (Act.put (Act.put (Act.put (Act.put (Act.put (Act.put (Act.put _ (some 37) (sv 10)) (some 36) (sv 9)) (some 35) (sv 8)) (some 34) (sv 7)) (some 33) (sv 6)) (some 32) (sv 5)) (some 31) (sv 4)) (some 30) (sv 3)) (some 29) (sv 2)) (some 28) (sv 1)) (some 27) (sv 0))) _) _)
                try simp only [Act.put, List.setIfInBounds_toArray, List.set_cons_succ, List.set_cons_zero]
                simp [go_sem, quietTo, Ext.refl, ↓IntWalk.iteOmega, f4, f10, hne]
                all_goals try simp (disch := omega) only [IntWalk.i64_in]
                all_goals first
                  | rfl
              refine fac_quiet 12 rfl rfl rfl (fun _ _ h _ => h) rfl rfl ?_
              apply Exists.intro
              refine ⟨fun sv w' hw' hfa => ?_, ?_⟩
              · obtain ⟨_, _, _, _, _, _, _, _, _, _, _, f11, -⟩ := hfa
                replace f11 : sv 11 = _ := f11
                try dsimp only at f11
                refine ⟨rfl, ?_⟩
                simp only [putsL]
                change quietTo _ _ _ _ (Sem.run _ (execOp (Act.eval (Act.put (Act.put (Act.put (Act.put (Act.put (Act.put (Act.put (Act.put (Act.put (Act.put (Act.put (Act.put _ (some 38) (sv 11)) (some 37) (sv 10)) (some 36) (sv 9)) (some 35) (sv 8)) (some 34) (sv 7)) (some 33) (sv 6)) (some 32) (sv 5)) (some 31) (sv 4)) (some 30) (sv 3)) (some 29) (sv 2)) (some 28) (sv 1)) (some 27) (sv 0))) _) _)
                try simp only [Act.put, List.setIfInBounds_toArray, List.set_cons_succ, List.set_cons_zero]
                simp [go_sem, quietTo, Ext.refl, f11]
                all_goals first
                  | rfl
              refine fac_quiet 13 rfl rfl rfl (fun _ _ h _ => h) rfl rfl ?_
              apply Exists.intro
              refine ⟨fun sv w' hw' hfa => ?_, ?_⟩
              · obtain ⟨_, _, _, _, _, _, _, _, _, _, _, _, f12, -⟩ := hfa
                replace f12 : sv 12 = _ := f12
                try dsimp only at f12
                refine ⟨by simp [Region.wanted, yielded, putsL, Act.put, f12], ?_⟩
                simp only [putsL]
                change quietTo _ _ _ _ (Sem.run _ (execOp (Act.eval (Act.put (Act.put (Act.put (Act.put (Act.put (Act.put (Act.put (Act.put (Act.put (Act.put (Act.put (Act.put (Act.put _ (some 39) (sv 12)) (some 38) (sv 11)) (some 37) (sv 10)) (some 36) (sv 9)) (some 35) (sv 8)) (some 34) (sv 7)) (some 33) (sv 6)) (some 32) (sv 5)) (some 31) (sv 4)) (some 30) (sv 3)) (some 29) (sv 2)) (some 28) (sv 1)) (some 27) (sv 0))) _) _)
                try simp only [Act.put, List.setIfInBounds_toArray, List.set_cons_succ, List.set_cons_zero]
                simp [go_sem, quietTo, Ext.refl, f12]
                all_goals first
                  | rfl
              refine fac_quiet 14 rfl rfl rfl (fun _ _ h _ => h) rfl rfl ?_
              apply Exists.intro
              refine ⟨fun sv w' hw' hfa => ?_, ?_⟩
              · obtain ⟨_, _, _, _, _, _, _, _, _, _, _, _, f12, -⟩ := hfa
                replace f12 : sv 12 = _ := f12
                try dsimp only at f12
                refine ⟨by simp [Region.wanted, yielded, putsL, Act.put, f12], ?_⟩
                simp only [putsL]
                change quietTo _ _ _ _ (Sem.run _ (execOp (Act.eval (Act.put (Act.put (Act.put (Act.put (Act.put (Act.put (Act.put (Act.put (Act.put (Act.put (Act.put (Act.put (Act.put _ (some 39) (sv 12)) (some 38) (sv 11)) (some 37) (sv 10)) (some 36) (sv 9)) (some 35) (sv 8)) (some 34) (sv 7)) (some 33) (sv 6)) (some 32) (sv 5)) (some 31) (sv 4)) (some 30) (sv 3)) (some 29) (sv 2)) (some 28) (sv 1)) (some 27) (sv 0))) _) _)
                try simp only [Act.put, List.setIfInBounds_toArray, List.set_cons_succ, List.set_cons_zero]
                simp [go_sem, quietTo, Ext.refl, f12]
                all_goals first
                  | rfl
              refine fac_quiet 15 rfl rfl rfl (fun _ _ h _ => h) rfl rfl ?_
              apply Exists.intro
              refine ⟨fun sv w' hw' hfa => ?_, ?_⟩
              · obtain ⟨_, _, _, _, _, _, _, _, _, _, _, _, f12, f13, f14, -⟩ := hfa
                replace f12 : sv 12 = _ := f12
                try dsimp only at f12
                replace f13 : sv 13 = _ := f13
                try dsimp only at f13
                replace f14 : sv 14 = _ := f14
                try dsimp only at f14
                obtain ⟨hc, hf, hz9⟩ := (hE2.drew.trans hw').walk; have x0 := (hc _ (off + m * 7) hb).trans c0; have x2 := (hc _ (off + m * 7 + 2) hb).trans c2; have y0 := (hc _ (off + j * 7) hb).trans d0; have y2 := (hc _ (off + j * 7 + 2) hb).trans d2
                refine ⟨by simp [Region.wanted, yielded, putsL, Act.put, f12, f13, f14], ?_⟩
                simp only [putsL]
                change quietTo _ _ _ _ (Sem.run _ (execOp (Act.eval (Act.put (Act.put (Act.put (Act.put (Act.put (Act.put (Act.put (Act.put (Act.put (Act.put (Act.put (Act.put (Act.put (Act.put (Act.put _ (some 41) (sv 14)) (some 40) (sv 13)) (some 39) (sv 12)) (some 38) (sv 11)) (some 37) (sv 10)) (some 36) (sv 9)) (some 35) (sv 8)) (some 34) (sv 7)) (some 33) (sv 6)) (some 32) (sv 5)) (some 31) (sv 4)) (some 30) (sv 3)) (some 29) (sv 2)) (some 28) (sv 1)) (some 27) (sv 0))) _) _)
                try simp only [Act.put, List.setIfInBounds_toArray, List.set_cons_succ, List.set_cons_zero]
                simp [go_sem, quietTo, Ext.refl, ↓IntWalk.iteOmega, f12, f13, f14, hmI]
                all_goals try simp (disch := omega) only [IntWalk.i64_in]
                all_goals first
                  | rfl
              refine fac_quiet 16 rfl rfl rfl (fun _ _ h _ => h) rfl rfl ?_
              apply Exists.intro
              refine ⟨fun sv w' hw' hfa => ?_, ?_⟩
              · obtain ⟨_, _, _, _, _, _, _, _, _, _, _, _, f12, _, _, f15, -⟩ := hfa
                replace f12 : sv 12 = _ := f12
                try dsimp only at f12
                replace f15 : sv 15 = _ := f15
                try dsimp only at f15
                refine ⟨by simp [Region.wanted, yielded, putsL, Act.put, f12, f15], ?_⟩
                simp only [putsL]
                change quietTo _ _ _ _ (Sem.run _ (execOp (Act.eval (Act.put (Act.put (Act.put (Act.put (Act.put (Act.put (Act.put (Act.put (Act.put (Act.put (Act.put (Act.put (Act.put (Act.put (Act.put (Act.put _ (some 42) (sv 15)) (some 41) (sv 14)) (some 40) (sv 13)) (some 39) (sv 12)) (some 38) (sv 11)) (some 37) (sv 10)) (some 36) (sv 9)) (some 35) (sv 8)) (some 34) (sv 7)) (some 33) (sv 6)) (some 32) (sv 5)) (some 31) (sv 4)) (some 30) (sv 3)) (some 29) (sv 2)) (some 28) (sv 1)) (some 27) (sv 0))) _) _)
                try simp only [Act.put, List.setIfInBounds_toArray, List.set_cons_succ, List.set_cons_zero]
                simp [go_sem, quietTo, Ext.refl, f12, f15]
                all_goals first
                  | rfl
              refine fac_quiet 17 rfl rfl rfl (fun _ _ h _ => h) rfl rfl ?_
              apply Exists.intro
              refine ⟨fun sv w' hw' hfa => ?_, ?_⟩
              · obtain ⟨_, _, _, _, _, _, _, _, _, _, _, _, f12, _, _, _, f16, -⟩ := hfa
                replace f12 : sv 12 = _ := f12
                try dsimp only at f12
                replace f16 : sv 16 = _ := f16
                try dsimp only at f16
                obtain ⟨hc, hf, hz9⟩ := (hE2.drew.trans hw').walk; have x0 := (hc _ (off + m * 7) hb).trans c0; have x2 := (hc _ (off + m * 7 + 2) hb).trans c2; have y0 := (hc _ (off + j * 7) hb).trans d0; have y2 := (hc _ (off + j * 7 + 2) hb).trans d2
                refine ⟨by simp [Region.wanted, yielded, putsL, Act.put, f12, f16], ?_⟩
                simp only [putsL]
                change quietTo _ _ _ _ (Sem.run _ (execOp (Act.eval (Act.put (Act.put (Act.put (Act.put (Act.put (Act.put (Act.put (Act.put (Act.put (Act.put (Act.put (Act.put (Act.put (Act.put (Act.put (Act.put (Act.put _ (some 43) (sv 16)) (some 42) (sv 15)) (some 41) (sv 14)) (some 40) (sv 13)) (some 39) (sv 12)) (some 38) (sv 11)) (some 37) (sv 10)) (some 36) (sv 9)) (some 35) (sv 8)) (some 34) (sv 7)) (some 33) (sv 6)) (some 32) (sv 5)) (some 31) (sv 4)) (some 30) (sv 3)) (some 29) (sv 2)) (some 28) (sv 1)) (some 27) (sv 0))) _) _)
                try simp only [Act.put, List.setIfInBounds_toArray, List.set_cons_succ, List.set_cons_zero]
                simp [go_sem, quietTo, Ext.refl, ↓IntWalk.iteOmega, f12, f16, x2]
                all_goals try simp (disch := omega) only [IntWalk.i64_in]
                all_goals first
                  | rfl
              refine fac_quiet 18 rfl rfl rfl (fun _ _ h _ => h) rfl rfl ?_
              apply Exists.intro
              refine ⟨fun sv w' hw' hfa => ?_, ?_⟩
              · obtain ⟨_, _, _, _, _, _, _, _, _, _, _, _, f12, -⟩ := hfa
                replace f12 : sv 12 = _ := f12
                try dsimp only at f12
                refine ⟨by simp [Region.wanted, yielded, putsL, Act.put, f12], ?_⟩
                simp only [putsL]
                change quietTo _ _ _ _ (Sem.run _ (execOp (Act.eval (Act.put (Act.put (Act.put (Act.put (Act.put (Act.put (Act.put (Act.put (Act.put (Act.put (Act.put (Act.put (Act.put _ (some 39) (sv 12)) (some 38) (sv 11)) (some 37) (sv 10)) (some 36) (sv 9)) (some 35) (sv 8)) (some 34) (sv 7)) (some 33) (sv 6)) (some 32) (sv 5)) (some 31) (sv 4)) (some 30) (sv 3)) (some 29) (sv 2)) (some 28) (sv 1)) (some 27) (sv 0))) _) _)
                try simp only [Act.put, List.setIfInBounds_toArray, List.set_cons_succ, List.set_cons_zero]
                simp [go_sem, quietTo, Ext.refl, f12]
                all_goals first
                  | rfl
              refine fac_quiet 19 rfl rfl rfl (fun _ _ h _ => h) rfl rfl ?_
              apply Exists.intro
              refine ⟨fun sv w' hw' hfa => ?_, ?_⟩
              · obtain ⟨_, _, _, _, _, _, _, _, _, _, _, _, f12, -⟩ := hfa
                replace f12 : sv 12 = _ := f12
                try dsimp only at f12
                refine ⟨by simp [Region.wanted, yielded, putsL, Act.put, f12], ?_⟩
                simp only [putsL]
                change quietTo _ _ _ _ (Sem.run _ (execOp (Act.eval (Act.put (Act.put (Act.put (Act.put (Act.put (Act.put (Act.put (Act.put (Act.put (Act.put (Act.put (Act.put (Act.put _ (some 39) (sv 12)) (some 38) (sv 11)) (some 37) (sv 10)) (some 36) (sv 9)) (some 35) (sv 8)) (some 34) (sv 7)) (some 33) (sv 6)) (some 32) (sv 5)) (some 31) (sv 4)) (some 30) (sv 3)) (some 29) (sv 2)) (some 28) (sv 1)) (some 27) (sv 0))) _) _)
                try simp only [Act.put, List.setIfInBounds_toArray, List.set_cons_succ, List.set_cons_zero]
                simp [go_sem, quietTo, Ext.refl, f12]
                all_goals first
                  | rfl
              refine fac_quiet 20 rfl rfl rfl (fun _ _ h _ => h) rfl rfl ?_
              apply Exists.intro
              refine ⟨fun sv w' hw' hfa => ?_, ?_⟩
              · obtain ⟨_, _, _, _, _, _, _, _, _, _, _, _, f12, f19, -⟩ := hfa
                replace f12 : sv 12 = _ := f12
                try dsimp only at f12
                replace f19 : sv 19 = _ := f19
                try dsimp only at f19
                obtain ⟨hc, hf, hz9⟩ := (hE2.drew.trans hw').walk; have x0 := (hc _ (off + m * 7) hb).trans c0; have x2 := (hc _ (off + m * 7 + 2) hb).trans c2; have y0 := (hc _ (off + j * 7) hb).trans d0; have y2 := (hc _ (off + j * 7 + 2) hb).trans d2
                refine ⟨by simp [Region.wanted, yielded, putsL, Act.put, f12, f19], ?_⟩
                simp only [putsL]
                change quietTo _ _ _ _ (Sem.run _ (execOp (Act.eval (Act.put (Act.put (Act.put (Act.put (Act.put (Act.put (Act.put (Act.put (Act.put (Act.put (Act.put (Act.put (Act.put (Act.put _ (some 46) (sv 19)) (some 39) (sv 12)) (some 38) (sv 11)) (some 37) (sv 10)) (some 36) (sv 9)) (some 35) (sv 8)) (some 34) (sv 7)) (some 33) (sv 6)) (some 32) (sv 5)) (some 31) (sv 4)) (some 30) (sv 3)) (some 29) (sv 2)) (some 28) (sv 1)) (some 27) (sv 0))) _) _)
                try simp only [Act.put, List.setIfInBounds_toArray, List.set_cons_succ, List.set_cons_zero]
                simp [go_sem, quietTo, Ext.refl, ↓IntWalk.iteOmega, f12, f19, hwj]
                all_goals try simp (disch := omega) only [IntWalk.i64_in]
                all_goals first
                  | rfl
              refine fac_quiet 21 rfl rfl rfl (fun _ _ h _ => h) rfl rfl ?_
              apply Exists.intro
              refine ⟨fun sv w' hw' hfa => ?_, ?_⟩
              · obtain ⟨_, _, _, _, _, _, _, _, _, _, _, _, f12, f18, _, f20, -⟩ := hfa
                replace f12 : sv 12 = _ := f12
                try dsimp only at f12
                replace f18 : sv 18 = _ := f18
                try dsimp only at f18
                replace f20 : sv 20 = _ := f20
                try dsimp only at f20
                obtain ⟨hc, hf, hz9⟩ := (hE2.drew.trans hw').walk; have x0 := (hc _ (off + m * 7) hb).trans c0; have x2 := (hc _ (off + m * 7 + 2) hb).trans c2; have y0 := (hc _ (off + j * 7) hb).trans d0; have y2 := (hc _ (off + j * 7 + 2) hb).trans d2
                refine ⟨by simp [Region.wanted, yielded, putsL, Act.put, f12, f18, f20], ?_⟩
                simp only [putsL]
                change quietTo _ _ _ _ (Sem.run _ (execOp (Act.eval (Act.put (Act.put (Act.put (Act.put (Act.put (Act.put (Act.put (Act.put (Act.put (Act.put (Act.put (Act.put (Act.put (Act.put (Act.put (Act.put _ (some 47) (sv 20)) (some 46) (sv 19)) (some 45) (sv 18)) (some 39) (sv 12)) (some 38) (sv 11)) (some 37) (sv 10)) (some 36) (sv 9)) (some 35) (sv 8)) (some 34) (sv 7)) (some 33) (sv 6)) (some 32) (sv 5)) (some 31) (sv 4)) (some 30) (sv 3)) (some 29) (sv 2)) (some 28) (sv 1)) (some 27) (sv 0))) _) _)
                try simp only [Act.put, List.setIfInBounds_toArray, List.set_cons_succ, List.set_cons_zero]
                simp [go_sem, quietTo, Ext.refl, ↓IntWalk.iteOmega, f12, f18, f20, hjI]
                all_goals try simp (disch := omega) only [IntWalk.i64_in]
                all_goals first
                  | rfl
              refine fac_quiet 22 rfl rfl rfl (fun _ _ h _ => h) rfl rfl ?_
              apply Exists.intro
              refine ⟨fun sv w' hw' hfa => ?_, ?_⟩
              · obtain ⟨_, _, _, _, _, _, _, _, _, _, _, _, f12, _, _, _, f21, -⟩ := hfa
                replace f12 : sv 12 = _ := f12
                try dsimp only at f12
                replace f21 : sv 21 = _ := f21
                try dsimp only at f21
                refine ⟨by simp [Region.wanted, yielded, putsL, Act.put, f12, f21], ?_⟩
                simp only [putsL]
                change quietTo _ _ _ _ (Sem.run _ (execOp (Act.eval (Act.put (Act.put (Act.put (Act.put (Act.put (Act.put (Act.put (Act.put (Act.put (Act.put (Act.put (Act.put (Act.put (Act.put (Act.put (Act.put (Act.put _ (some 48) (sv 21)) (some 47) (sv 20)) (some 46) (sv 19)) (some 45) (sv 18)) (some 39) (sv 12)) (some 38) (sv 11)) (some 37) (sv 10)) (some 36) (sv 9)) (some 35) (sv 8)) (some 34) (sv 7)) (some 33) (sv 6)) (some 32) (sv 5)) (some 31) (sv 4)) (some 30) (sv 3)) (some 29) (sv 2)) (some 28) (sv 1)) (some 27) (sv 0))) _) _)
                try simp only [Act.put, List.setIfInBounds_toArray, List.set_cons_succ, List.set_cons_zero]
                simp [go_sem, quietTo, Ext.refl, f12, f21]
                all_goals first
                  | rfl
              refine fac_quiet 23 rfl rfl rfl (fun _ _ h _ => h) rfl rfl ?_
              apply Exists.intro
              refine ⟨fun sv w' hw' hfa => ?_, ?_⟩
              · obtain ⟨_, _, _, _, _, _, _, _, _, _, _, _, f12, _, _, _, _, f22, -⟩ := hfa
                replace f12 : sv 12 = _ := f12
                try dsimp only at f12
                replace f22 : sv 22 = _ := f22
                try dsimp only at f22
                obtain ⟨hc, hf, hz9⟩ := (hE2.drew.trans hw').walk; have x0 := (hc _ (off + m * 7) hb).trans c0; have x2 := (hc _ (off + m * 7 + 2) hb).trans c2; have y0 := (hc _ (off + j * 7) hb).trans d0; have y2 := (hc _ (off + j * 7 + 2) hb).trans d2
                refine ⟨by simp [Region.wanted, yielded, putsL, Act.put, f12, f22], ?_⟩
                simp only [putsL]
                change quietTo _ _ _ _ (Sem.run _ (execOp (Act.eval (Act.put (Act.put (Act.put (Act.put (Act.put (Act.put (Act.put (Act.put (Act.put (Act.put (Act.put (Act.put (Act.put (Act.put (Act.put (Act.put (Act.put (Act.put _ (some 49) (sv 22)) (some 48) (sv 21)) (some 47) (sv 20)) (some 46) (sv 19)) (some 45) (sv 18)) (some 39) (sv 12)) (some 38) (sv 11)) (some 37) (sv 10)) (some 36) (sv 9)) (some 35) (sv 8)) (some 34) (sv 7)) (some 33) (sv 6)) (some 32) (sv 5)) (some 31) (sv 4)) (some 30) (sv 3)) (some 29) (sv 2)) (some 28) (sv 1)) (some 27) (sv 0))) _) _)
                try simp only [Act.put, List.setIfInBounds_toArray, List.set_cons_succ, List.set_cons_zero]
                simp [go_sem, quietTo, Ext.refl, ↓IntWalk.iteOmega, f12, f22, y2]
                all_goals try simp (disch := omega) only [IntWalk.i64_in]
                all_goals first
                  | rfl
              refine fac_quiet 24 rfl rfl rfl (fun _ _ h _ => h) rfl rfl ?_
              apply Exists.intro
              refine ⟨fun sv w' hw' hfa => ?_, ?_⟩
              · obtain ⟨_, _, _, _, _, _, _, _, _, _, _, _, f12, _, _, _, _, f17, _, _, _, _, _, f23, -⟩ := hfa
                replace f12 : sv 12 = _ := f12
                try dsimp only at f12
                replace f17 : sv 17 = _ := f17
                try dsimp only at f17
                replace f23 : sv 23 = _ := f23
                try dsimp only at f23
                obtain ⟨hc, hf, hz9⟩ := (hE2.drew.trans hw').walk; have x0 := (hc _ (off + m * 7) hb).trans c0; have x2 := (hc _ (off + m * 7 + 2) hb).trans c2; have y0 := (hc _ (off + j * 7) hb).trans d0; have y2 := (hc _ (off + j * 7 + 2) hb).trans d2
                refine ⟨by simp [Region.wanted, yielded, putsL, Act.put, f12, f17, f23], ?_⟩
                simp only [putsL]
                change quietTo _ _ _ _ (Sem.run _ (execOp (Act.eval (Act.put (Act.put (Act.put (Act.put (Act.put (Act.put (Act.put (Act.put (Act.put (Act.put (Act.put (Act.put (Act.put (Act.put (Act.put (Act.put (Act.put (Act.put (Act.put (Act.put (Act.put (Act.put (Act.put (Act.put _ (some 50) (sv 23)) (some 49) (sv 22)) (some 48) (sv 21)) (some 47) (sv 20)) (some 46) (sv 19)) (some 45) (sv 18)) (some 44) (sv 17)) (some 43) (sv 16)) (some 42) (sv 15)) (some 41) (sv 14)) (some 40) (sv 13)) (some 39) (sv 12)) (some 38) (sv 11)) (some 37) (sv 10)) (some 36) (sv 9)) (some 35) (sv 8)) (some 34) (sv 7)) (some 33) (sv 6)) (some 32) (sv 5)) (some 31) (sv 4)) (some 30) (sv 3)) (some 29) (sv 2)) (some 28) (sv 1)) (some 27) (sv 0))) _) _)
                try simp only [Act.put, List.setIfInBounds_toArray, List.set_cons_succ, List.set_cons_zero]
                simp [go_sem, quietTo, Ext.refl, ↓IntWalk.iteOmega, f12, f17, f23, hat]
                all_goals try simp (disch := omega) only [IntWalk.i64_in]
                all_goals first
                  | rfl
              refine fac_quiet 25 rfl rfl rfl (fun _ _ h _ => h) rfl rfl ?_
              apply Exists.intro
              refine ⟨fun sv w' hw' hfa => ?_, ?_⟩
              · obtain ⟨_, _, _, _, _, _, _, _, _, _, _, _, f12, _, _, _, _, _, _, _, _, _, _, _, f24, -⟩ := hfa
                replace f12 : sv 12 = _ := f12
                try dsimp only at f12
                replace f24 : sv 24 = _ := f24
                try dsimp only at f24
                refine ⟨rfl, ?_⟩
                simp only [putsL]
                change quietTo _ _ _ _ (Sem.run _ (execOp (Act.eval (Act.put (Act.put (Act.put (Act.put (Act.put (Act.put (Act.put (Act.put (Act.put (Act.put (Act.put (Act.put (Act.put (Act.put (Act.put (Act.put (Act.put (Act.put (Act.put (Act.put (Act.put (Act.put (Act.put (Act.put (Act.put _ (some 51) (sv 24)) (some 50) (sv 23)) (some 49) (sv 22)) (some 48) (sv 21)) (some 47) (sv 20)) (some 46) (sv 19)) (some 45) (sv 18)) (some 44) (sv 17)) (some 43) (sv 16)) (some 42) (sv 15)) (some 41) (sv 14)) (some 40) (sv 13)) (some 39) (sv 12)) (some 38) (sv 11)) (some 37) (sv 10)) (some 36) (sv 9)) (some 35) (sv 8)) (some 34) (sv 7)) (some 33) (sv 6)) (some 32) (sv 5)) (some 31) (sv 4)) (some 30) (sv 3)) (some 29) (sv 2)) (some 28) (sv 1)) (some 27) (sv 0))) _) _)
                try simp only [Act.put, List.setIfInBounds_toArray, List.set_cons_succ, List.set_cons_zero]
                simp [go_sem, quietTo, Ext.refl, ↓IntWalk.iteOmega, f12, f24]
                all_goals try simp (disch := omega) only [IntWalk.i64_in]
                all_goals first
                  | rfl
              refine fac_nil fun xb wrb herb hfrb hcrb holdb hapb => ?_
              obtain ⟨f0, f1, f2, f3, f4, f5, f6, f7, f8, f9, f10, f11, f12, f13, f14, f15, f16, f17, f18, f19, f20, f21, f22, f23, f24, f25, -⟩ := hfrb
              replace f0 : xb 0 = _ := f0
              try dsimp only at f0
              replace f1 : xb 1 = _ := f1
              try dsimp only at f1
              replace f2 : xb 2 = _ := f2
              try dsimp only at f2
              replace f3 : xb 3 = _ := f3
              try dsimp only at f3
              replace f4 : xb 4 = _ := f4
              try dsimp only at f4
              replace f5 : xb 5 = _ := f5
              try dsimp only at f5
              replace f6 : xb 6 = _ := f6
              try dsimp only at f6
              replace f7 : xb 7 = _ := f7
              try dsimp only at f7
              replace f8 : xb 8 = _ := f8
              try dsimp only at f8
              replace f9 : xb 9 = _ := f9
              try dsimp only at f9
              replace f10 : xb 10 = _ := f10
              try dsimp only at f10
              replace f11 : xb 11 = _ := f11
              try dsimp only at f11
              replace f12 : xb 12 = _ := f12
              try dsimp only at f12
              replace f13 : xb 13 = _ := f13
              try dsimp only at f13
              replace f14 : xb 14 = _ := f14
              try dsimp only at f14
              replace f15 : xb 15 = _ := f15
              try dsimp only at f15
              replace f16 : xb 16 = _ := f16
              try dsimp only at f16
              replace f17 : xb 17 = _ := f17
              try dsimp only at f17
              replace f18 : xb 18 = _ := f18
              try dsimp only at f18
              replace f19 : xb 19 = _ := f19
              try dsimp only at f19
              replace f20 : xb 20 = _ := f20
              try dsimp only at f20
              replace f21 : xb 21 = _ := f21
              try dsimp only at f21
              replace f22 : xb 22 = _ := f22
              try dsimp only at f22
              replace f23 : xb 23 = _ := f23
              try dsimp only at f23
              replace f24 : xb 24 = _ := f24
              try dsimp only at f24
              replace f25 : xb 25 = _ := f25
              try dsimp only at f25
              change wpList _ _ _ _ (Act.put (Act.put (Act.put (Act.put (Act.put (Act.put (Act.put (Act.put (Act.put (Act.put (Act.put (Act.put (Act.put (Act.put (Act.put (Act.put (Act.put (Act.put (Act.put (Act.put (Act.put (Act.put (Act.put (Act.put (Act.put (Act.put _ (some 27) (xb 0)) (some 28) (xb 1)) (some 29) (xb 2)) (some 30) (xb 3)) (some 31) (xb 4)) (some 32) (xb 5)) (some 33) (xb 6)) (some 34) (xb 7)) (some 35) (xb 8)) (some 36) (xb 9)) (some 37) (xb 10)) (some 38) (xb 11)) (some 39) (xb 12)) (some 40) (xb 13)) (some 41) (xb 14)) (some 42) (xb 15)) (some 43) (xb 16)) (some 44) (xb 17)) (some 45) (xb 18)) (some 46) (xb 19)) (some 47) (xb 20)) (some 48) (xb 21)) (some 49) (xb 22)) (some 50) (xb 23)) (some 51) (xb 24)) (some 52) (xb 25)) _
              simp only [putsL, Nat.reduceAdd, List.drop_succ_cons, List.drop_zero, List.drop_nil, Act.put, List.setIfInBounds_toArray, List.set_cons_succ, List.set_cons_zero]
              try simp only [f0, f1, f2, f3, f4, f5, f6, f7, f8, f9, f10, f11, f12, f13, f14, f15, f16, f17, f18, f19, f20, f21, f22, f23, f24, f25]
              clear f0 f1 f2 f3 f4 f5 f6 f7 f8 f9 f10 f11 f12 f13 f14 f15 f16 f17 f18 f19 f20 f21 f22 f23 f24 f25
              clear holdb hapb
              clear c0 c2 d0 d2
              go_wp2
              first
                | (go_ret
                   exact ⟨ret_int (by rw [hF.out, if_neg h12, if_pos hsc.out]; exact (scan_late hlt (by rw [hv.out, hne]; simp [hat]; omega)).symm), hE2.trans ((Ext.refl _).drew.trans herb)⟩)
                | (go_roundw
                   case rel => exact ⟨m + 1, by omega, .inl hlt, by go_num, hz.succ (by rw [hv.out, hne]; simp [hat]), hE2.trans ((Ext.refl _).drew.trans herb)⟩
                   case measure => simp [intOf]; omega)
        · go_wp2
          go_ret
          have h0 : Zeros (lateS xs) k := fun i hi => hz i (by omega)
          exact ⟨ret_int (by rw [hF.out, if_neg h12, if_pos hsc.out]; exact (scan_zero h0).symm), hE2⟩

set_option maxRecDepth 100000 in
set_option maxHeartbeats 6400000 in
theorem slipsFault_any (p : Option Addr) (n c : Nat) (xs : List SlipV) (w : World) (h : Sl 7 slipC w p n xs) (hs : ∀ x ∈ xs, x.Small) (hn : n ≤ 1000000) :
    Calls Tryz.prog 68 #[.slice p n c] w fun e w' => e = .returned (.int .i64 (slipsF xs)) ∧ Ext w w' := by
  have hl := h.1
  have hF : slipsF xs = if 3000 < n then 2 else if scanF n (chkSli xs) = 0 then scanF n (lateS xs) else scanF n (chkSli xs) := by unfold slipsF; rw [hl]
  replace hF := Lib.hid hF
  by_cases h12 : 3000 < n
  · clear h hl hs
    go_enter Tryz.func68, Tryz.ntmps68
    go_wp2
    go_ret
    exact ⟨ret_int (by rw [hF.out, if_pos h12]), Ext.refl _⟩
  have hd : decide (3000 < (n : Int)) = false := by simp; omega
  replace hl := Lib.hid hl
  go_enter Tryz.func68, Tryz.ntmps68
  go_wp2
  go_loopw [3, 12] (fun v3 i wr => ∃ (k : Nat) (fl : Bool), k ≤ n ∧ i = .int .i64 k ∧ v3 = .bool fl ∧ Zeros (chkSli xs) k ∧ (fl = false → Zeros (lateS xs) k) ∧ (fl = true → scanF n (lateS xs) = 7) ∧ Ext w wr) (fun _ i _ => n - (intOf i).toNat)
  case atStart => exact ⟨0, false, Nat.zero_le _, rfl, rfl, (fun j hj => by omega), (fun _ j hj => by omega), (fun e => by cases e), Ext.refl _⟩
  case round =>
    obtain ⟨k, fl, hk, rfl, rfl, hz, hf0, hf1, he⟩ := hrel
    by_cases hlt : k < n
    · obtain ⟨b, off, rfl, hb, hE⟩ := h.2.2 (by omega)
      obtain ⟨x, hx⟩ := getD_some hl.out hlt
      have hbw := Nat.lt_of_lt_of_le hb he.size
      obtain ⟨c0, c1, c2, c3, c4, c5, c6⟩ := (hE.ext he hb).slip hx
      have hxs := hs x (List.mem_of_getElem? hx)
      have hv : chkSli xs k = if slipE x = 0 then (if 0 < k && decide (0 ≤ sliO (atL default xs (k - 1)) x) then 7 else 0) else slipE x := by unfold chkSli; rw [atL_of hx]
      have hkI : (k : Int) < n := by omega
      have hX := Lib.hid (Blk.new' (w := wr) (t := 79) (cs := #[.string x.by_, .int .i64 x.no, .int .i64 x.at_, .int .i64 x.kind, .string x.piece, .int .i64 x.copy, .string x.singer]) rfl)
      have hk9 : Ext wr (wr.alloc (.cells #[.string x.by_, .int .i64 x.no, .int .i64 x.at_, .int .i64 x.kind, .string x.piece, .int .i64 x.copy, .string x.singer] 79)) := (Ext.refl _).alloc _
      have hvk := slipFaultR_any x (wr.alloc (.cells #[.string x.by_, .int .i64 x.no, .int .i64 x.at_, .int .i64 x.kind, .string x.piece, .int .i64 x.copy, .string x.singer] 79)) hxs
      have hprev : ∀ j y, k = j + 1 → xs[j]? = some y → w.cell? ⟨b, off + j * 7, none⟩ = some (.string y.by_) ∧ w.cell? ⟨b, off + j * 7 + 1, none⟩ = some (.int .i64 y.no) ∧ w.cell? ⟨b, off + j * 7 + 2, none⟩ = some (.int .i64 y.at_) ∧ w.cell? ⟨b, off + j * 7 + 3, none⟩ = some (.int .i64 y.kind) ∧ w.cell? ⟨b, off + j * 7 + 4, none⟩ = some (.string y.piece) ∧ w.cell? ⟨b, off + j * 7 + 5, none⟩ = some (.int .i64 y.copy) ∧ w.cell? ⟨b, off + j * 7 + 6, none⟩ = some (.string y.singer) := fun j y _ hy => hE.slip hy
      have hl0 : k = 0 → lateS xs k = 0 := fun e => by rw [e]; rfl
      have hl1 : ∀ j y, k = j + 1 → xs[j]? = some y → lateS xs k = if ((x.by_.toList == y.by_.toList) && decide (x.at_ < y.at_)) = true then 7 else 0 := fun j y e hy => by
        unfold lateS
        rw [atL_of hx, show k - 1 = j by omega, atL_of hy, e]
        simp
      replace hl0 := Lib.hid hl0
      replace hl1 := Lib.hid hl1
      replace hx := Lib.hid hx
      replace hv := Lib.hid hv
      replace hprev := Lib.hid hprev
      replace hf0 := Lib.hid hf0
      replace hf1 := Lib.hid hf1
      clear hE hxs
      by_cases hf : slipE x = 0
      rotate_left
      · have hsc : slipE x = scanF n (chkSli xs) := scan_is hz hlt (by rw [hv.out, if_neg hf]) hf
        have hsc2 : scanF n (chkSli xs) ≠ 0 := hsc ▸ hf
        generalize slipE x = f at *
        replace hvk := Lib.hid hvk
        replace hsc := Lib.hid hsc
        go_wp2_with (go_at_call 143; (with_reducible refine Calls.mono hvk.out ?_); rintro e w1 ⟨rfl, hb1⟩)
        go_ret
        exact ⟨ret_int (by rw [hF.out, if_neg h12, if_neg hsc2, hsc.out]), (he.trans hk9).trans hb1⟩
      rw [hf] at hvk
      replace hf := Lib.hid hf
      replace hvk := Lib.hid hvk
      rcases Nat.eq_zero_or_pos k with hk0 | hk0
      · subst hk0
        simp only [Nat.zero_mul, Nat.add_zero] at c0 c1 c2 c3 c4 c5 c6
        go_wp2_with (go_at_call 143; (with_reducible refine Calls.mono hvk.out ?_); rintro e w1 ⟨rfl, hb1⟩)
        go_roundw
        case rel => exact ⟨1, fl, by omega, rfl, rfl, hz.succ (by rw [hv.out, hf.out]; rfl), fun e => (hf0.out e).succ (hl0.out (by simp)), hf1.out, (he.trans hk9).trans hb1⟩
        case measure => simp [intOf]; omega
      · obtain ⟨j, hj⟩ : ∃ j, k = j + 1 := ⟨k - 1, by omega⟩
        obtain ⟨y, hy⟩ := getD_some hl.out (show j < n by omega)
        obtain ⟨d0, d1, d2, d3, d4, d5, d6⟩ := hprev.out j y hj hy
        have hat : atL default xs (k - 1) = y := by rw [show k - 1 = j by omega]; exact atL_of hy
        have hlk := hl1.out j y hj hy
        have hv' := hv.out
        clear hv
        rw [hat] at hv'
        have hv := Lib.hid hv'
        clear hv'
        replace hlk := Lib.hid hlk
        have hwj : IntKind.i64.wrap ((k : Int) - 1) = j := by rw [show (k : Int) - 1 = j by omega]; exact IntWalk.i64_in _ (by omega)
        have hjI : (j : Int) < n := by omega
        have hkp : 0 < (k : Int) := by omega
        replace hj := Lib.hid hj
        clear hat hy hprev hl0 hl1 hx
        go_upto_region 11 with (go_at_call 143; (with_reducible refine Calls.mono hvk.out ?_); rintro e w1 ⟨rfl, hb1⟩)
        have hX1 := hX.out.ext hb1
        have hEw := (he.trans hk9).trans hb1
        have hEr := hk9.trans hb1
        clear c0 c1 c2 c3 c4 c5 c6 hX hvk hk9 hb1
        replace hbw := hb
        rcases sliO_three y x with hlc | hlc | hlc
        rotate_left
        · skip
          refine wp_region_facts [] [([], false, false), ([], false, false), ([1], false, false), ([0, 1, 2], false, false), ([0, 1, 2, 3], false, false), ([], false, false), ([0, 1, 2, 3, 4, 5], false, false), ([0, 1, 2, 3, 4, 5, 6], false, false)] (Ext) Ext (fun _ => True) (by kernel_rfl) (by kernel_rfl) Ext.refl (fun _ _ _ => Ext.trans) (fun _ _ h => h) (fun _ _ h => h.size) (fun _ _ h _ => h) trivial ?_
          dsimp only [List.length_cons, List.length_nil, List.drop_succ_cons, List.drop_zero, List.drop_nil]
          refine fac_quiet 0 rfl rfl rfl (fun _ _ h _ => h) rfl rfl ?_
          apply Exists.intro
          refine ⟨fun sv w' hw' hfa => ?_, ?_⟩
          · refine ⟨rfl, ?_⟩
            simp only [putsL]
            change quietTo _ _ _ _ (Sem.run _ (execOp (Act.eval _) _) _)
            try simp only [Act.put, List.setIfInBounds_toArray, List.set_cons_succ, List.set_cons_zero]
            simp [go_sem, quietTo, Ext.refl]
            all_goals first
              | rfl
          refine fac_quiet 1 rfl rfl rfl (fun _ _ h _ => h) rfl rfl ?_
          apply Exists.intro
          refine ⟨fun sv w' hw' hfa => ?_, ?_⟩
          · refine ⟨rfl, ?_⟩
            simp only [putsL]
            change quietTo _ _ _ _ (Sem.run _ (execOp (Act.eval _) _) _)
            try simp only [Act.put, List.setIfInBounds_toArray, List.set_cons_succ, List.set_cons_zero]
            simp [go_sem, quietTo, Ext.refl]
            all_goals first
              | rfl
          refine fac_quiet 2 rfl rfl rfl (fun _ _ h _ => h) rfl rfl ?_
          apply Exists.intro
          refine ⟨fun sv w' hw' hfa => ?_, ?_⟩
          · obtain ⟨f1, -⟩ := hfa
            replace f1 : sv 1 = _ := f1
            try dsimp only at f1
            obtain ⟨hc, hf, hz9⟩ := (hEw.drew.trans hw').walk; obtain ⟨hc2, hf2, hz8⟩ := ((Ext.refl _).drew.trans hw').walk; have y0 := (hc _ (off + j * 7) hbw).trans d0; have y1 := (hc _ (off + j * 7 + 1) hbw).trans d1; have y2 := (hc _ (off + j * 7 + 2) hbw).trans d2; have y3 := (hc _ (off + j * 7 + 3) hbw).trans d3; have y4 := (hc _ (off + j * 7 + 4) hbw).trans d4; have y5 := (hc _ (off + j * 7 + 5) hbw).trans d5; have y6 := (hc _ (off + j * 7 + 6) hbw).trans d6; have x0 := (hc2 _ 0 hX1.lt).trans (hX1.cell 0); have x1 := (hc2 _ 1 hX1.lt).trans (hX1.cell 1); have x2 := (hc2 _ 2 hX1.lt).trans (hX1.cell 2); have x3 := (hc2 _ 3 hX1.lt).trans (hX1.cell 3); have x4 := (hc2 _ 4 hX1.lt).trans (hX1.cell 4); have x5 := (hc2 _ 5 hX1.lt).trans (hX1.cell 5); have x6 := (hc2 _ 6 hX1.lt).trans (hX1.cell 6)
            refine ⟨rfl, ?_⟩
            simp only [putsL]
            change quietTo _ _ _ _ (Sem.run _ (execOp (Act.eval (Act.put _ (some 25) (sv 1))) _) _)
            try simp only [Act.put, List.setIfInBounds_toArray, List.set_cons_succ, List.set_cons_zero]
            simp [go_sem, quietTo, Ext.refl, ↓IntWalk.iteOmega, f1, hwj]
            all_goals try simp (disch := omega) only [IntWalk.i64_in]
            all_goals first
              | rfl
          refine fac_quiet 3 rfl rfl rfl (fun _ _ h _ => h) rfl rfl ?_
          apply Exists.intro
          refine ⟨fun sv w' hw' hfa => ?_, ?_⟩
          · obtain ⟨f0, _, f2, -⟩ := hfa
            replace f0 : sv 0 = _ := f0
            try dsimp only at f0
            replace f2 : sv 2 = _ := f2
            try dsimp only at f2
            obtain ⟨hc, hf, hz9⟩ := (hEw.drew.trans hw').walk; obtain ⟨hc2, hf2, hz8⟩ := ((Ext.refl _).drew.trans hw').walk; have y0 := (hc _ (off + j * 7) hbw).trans d0; have y1 := (hc _ (off + j * 7 + 1) hbw).trans d1; have y2 := (hc _ (off + j * 7 + 2) hbw).trans d2; have y3 := (hc _ (off + j * 7 + 3) hbw).trans d3; have y4 := (hc _ (off + j * 7 + 4) hbw).trans d4; have y5 := (hc _ (off + j * 7 + 5) hbw).trans d5; have y6 := (hc _ (off + j * 7 + 6) hbw).trans d6; have x0 := (hc2 _ 0 hX1.lt).trans (hX1.cell 0); have x1 := (hc2 _ 1 hX1.lt).trans (hX1.cell 1); have x2 := (hc2 _ 2 hX1.lt).trans (hX1.cell 2); have x3 := (hc2 _ 3 hX1.lt).trans (hX1.cell 3); have x4 := (hc2 _ 4 hX1.lt).trans (hX1.cell 4); have x5 := (hc2 _ 5 hX1.lt).trans (hX1.cell 5); have x6 := (hc2 _ 6 hX1.lt).trans (hX1.cell 6)
            refine ⟨rfl, ?_⟩
            simp only [putsL]
            change quietTo _ _ _ _ (Sem.run _ (execOp (Act.eval (Act.put (Act.put (Act.put _ (some 26) (sv 2)) (some 25) (sv 1)) (some 24) (sv 0))) _) _)
            try simp only [Act.put, List.setIfInBounds_toArray, List.set_cons_succ, List.set_cons_zero]
            simp [go_sem, quietTo, Ext.refl, ↓IntWalk.iteOmega, f0, f2, hjI]
            all_goals try simp (disch := omega) only [IntWalk.i64_in]
            all_goals first
              | rfl
          refine fac_quiet 4 rfl rfl rfl (fun _ _ h _ => h) rfl rfl ?_
          apply Exists.intro
          refine ⟨fun sv w' hw' hfa => ?_, ?_⟩
          · obtain ⟨_, _, _, f3, -⟩ := hfa
            replace f3 : sv 3 = _ := f3
            try dsimp only at f3
            obtain ⟨hc, hf, hz9⟩ := (hEw.drew.trans hw').walk; obtain ⟨hc2, hf2, hz8⟩ := ((Ext.refl _).drew.trans hw').walk; have y0 := (hc _ (off + j * 7) hbw).trans d0; have y1 := (hc _ (off + j * 7 + 1) hbw).trans d1; have y2 := (hc _ (off + j * 7 + 2) hbw).trans d2; have y3 := (hc _ (off + j * 7 + 3) hbw).trans d3; have y4 := (hc _ (off + j * 7 + 4) hbw).trans d4; have y5 := (hc _ (off + j * 7 + 5) hbw).trans d5; have y6 := (hc _ (off + j * 7 + 6) hbw).trans d6; have x0 := (hc2 _ 0 hX1.lt).trans (hX1.cell 0); have x1 := (hc2 _ 1 hX1.lt).trans (hX1.cell 1); have x2 := (hc2 _ 2 hX1.lt).trans (hX1.cell 2); have x3 := (hc2 _ 3 hX1.lt).trans (hX1.cell 3); have x4 := (hc2 _ 4 hX1.lt).trans (hX1.cell 4); have x5 := (hc2 _ 5 hX1.lt).trans (hX1.cell 5); have x6 := (hc2 _ 6 hX1.lt).trans (hX1.cell 6)
            refine ⟨rfl, ?_⟩
            simp only [putsL]
            change quietTo _ _ _ _ (Sem.run _ (execOp (Act.eval (Act.put (Act.put (Act.put (Act.put _ (some 27) (sv 3)) (some 26) (sv 2)) (some 25) (sv 1)) (some 24) (sv 0))) _) _)
            try simp only [Act.put, List.setIfInBounds_toArray, List.set_cons_succ, List.set_cons_zero]
            simp [go_sem, quietTo, Ext.refl, ↓IntWalk.iteOmega, f3, y0, y1, y2, y3, y4, y5, y6]
            all_goals try simp (disch := omega) only [IntWalk.i64_in]
            all_goals first
              | rfl
          refine fac_quiet 5 rfl rfl rfl (fun _ _ h _ => h) rfl rfl ?_
          apply Exists.intro
          refine ⟨fun sv w' hw' hfa => ?_, ?_⟩
          · obtain ⟨hc, hf, hz9⟩ := (hEw.drew.trans hw').walk; obtain ⟨hc2, hf2, hz8⟩ := ((Ext.refl _).drew.trans hw').walk; have y0 := (hc _ (off + j * 7) hbw).trans d0; have y1 := (hc _ (off + j * 7 + 1) hbw).trans d1; have y2 := (hc _ (off + j * 7 + 2) hbw).trans d2; have y3 := (hc _ (off + j * 7 + 3) hbw).trans d3; have y4 := (hc _ (off + j * 7 + 4) hbw).trans d4; have y5 := (hc _ (off + j * 7 + 5) hbw).trans d5; have y6 := (hc _ (off + j * 7 + 6) hbw).trans d6; have x0 := (hc2 _ 0 hX1.lt).trans (hX1.cell 0); have x1 := (hc2 _ 1 hX1.lt).trans (hX1.cell 1); have x2 := (hc2 _ 2 hX1.lt).trans (hX1.cell 2); have x3 := (hc2 _ 3 hX1.lt).trans (hX1.cell 3); have x4 := (hc2 _ 4 hX1.lt).trans (hX1.cell 4); have x5 := (hc2 _ 5 hX1.lt).trans (hX1.cell 5); have x6 := (hc2 _ 6 hX1.lt).trans (hX1.cell 6)
            refine ⟨rfl, ?_⟩
            simp only [putsL]
            change quietTo _ _ _ _ (Sem.run _ (execOp (Act.eval _) _) _)
            try simp only [Act.put, List.setIfInBounds_toArray, List.set_cons_succ, List.set_cons_zero]
            simp [go_sem, quietTo, Ext.refl, ↓IntWalk.iteOmega, x0, x1, x2, x3, x4, x5, x6]
            all_goals try simp (disch := omega) only [IntWalk.i64_in]
            all_goals first
              | rfl
          refine fac_quiet 6 rfl rfl rfl (fun _ _ h _ => h) rfl rfl ?_
          apply Exists.intro
          refine ⟨fun sv w' hw' hfa => ?_, ?_⟩
          · obtain ⟨f0, f1, f2, f3, f4, f5, -⟩ := hfa
            replace f0 : sv 0 = _ := f0
            try dsimp only at f0
            replace f1 : sv 1 = _ := f1
            try dsimp only at f1
            replace f2 : sv 2 = _ := f2
            try dsimp only at f2
            replace f3 : sv 3 = _ := f3
            try dsimp only at f3
            replace f4 : sv 4 = _ := f4
            try dsimp only at f4
            replace f5 : sv 5 = _ := f5
            try dsimp only at f5
            obtain ⟨hc, hf, hz9⟩ := (hEw.drew.trans hw').walk; obtain ⟨hc2, hf2, hz8⟩ := ((Ext.refl _).drew.trans hw').walk; have y0 := (hc _ (off + j * 7) hbw).trans d0; have y1 := (hc _ (off + j * 7 + 1) hbw).trans d1; have y2 := (hc _ (off + j * 7 + 2) hbw).trans d2; have y3 := (hc _ (off + j * 7 + 3) hbw).trans d3; have y4 := (hc _ (off + j * 7 + 4) hbw).trans d4; have y5 := (hc _ (off + j * 7 + 5) hbw).trans d5; have y6 := (hc _ (off + j * 7 + 6) hbw).trans d6; have x0 := (hc2 _ 0 hX1.lt).trans (hX1.cell 0); have x1 := (hc2 _ 1 hX1.lt).trans (hX1.cell 1); have x2 := (hc2 _ 2 hX1.lt).trans (hX1.cell 2); have x3 := (hc2 _ 3 hX1.lt).trans (hX1.cell 3); have x4 := (hc2 _ 4 hX1.lt).trans (hX1.cell 4); have x5 := (hc2 _ 5 hX1.lt).trans (hX1.cell 5); have x6 := (hc2 _ 6 hX1.lt).trans (hX1.cell 6)
            refine ⟨rfl, ?_⟩
            simp only [putsL]
            change quietTo _ _ _ _ (Sem.run _ (execOp (Act.eval (Act.put (Act.put (Act.put (Act.put (Act.put (Act.put _ (some 29) (sv 5)) (some 28) (sv 4)) (some 27) (sv 3)) (some 26) (sv 2)) (some 25) (sv 1)) (some 24) (sv 0))) _) _)
            try simp only [Act.put, List.setIfInBounds_toArray, List.set_cons_succ, List.set_cons_zero]
            simp [go_sem, quietTo, Ext.refl, ↓IntWalk.iteOmega, f4, f5]
            all_goals try simp (disch := omega) only [IntWalk.i64_in]
            all_goals first
              | rfl
              | (exact sliBy_any y x _)
          refine fac_quiet 7 rfl rfl rfl (fun _ _ h _ => h) rfl rfl ?_
          apply Exists.intro
          refine ⟨fun sv w' hw' hfa => ?_, ?_⟩
          · obtain ⟨_, _, _, _, _, _, f6, -⟩ := hfa
            replace f6 : sv 6 = _ := f6
            try dsimp only at f6
            obtain ⟨hc, hf, hz9⟩ := (hEw.drew.trans hw').walk; obtain ⟨hc2, hf2, hz8⟩ := ((Ext.refl _).drew.trans hw').walk; have y0 := (hc _ (off + j * 7) hbw).trans d0; have y1 := (hc _ (off + j * 7 + 1) hbw).trans d1; have y2 := (hc _ (off + j * 7 + 2) hbw).trans d2; have y3 := (hc _ (off + j * 7 + 3) hbw).trans d3; have y4 := (hc _ (off + j * 7 + 4) hbw).trans d4; have y5 := (hc _ (off + j * 7 + 5) hbw).trans d5; have y6 := (hc _ (off + j * 7 + 6) hbw).trans d6; have x0 := (hc2 _ 0 hX1.lt).trans (hX1.cell 0); have x1 := (hc2 _ 1 hX1.lt).trans (hX1.cell 1); have x2 := (hc2 _ 2 hX1.lt).trans (hX1.cell 2); have x3 := (hc2 _ 3 hX1.lt).trans (hX1.cell 3); have x4 := (hc2 _ 4 hX1.lt).trans (hX1.cell 4); have x5 := (hc2 _ 5 hX1.lt).trans (hX1.cell 5); have x6 := (hc2 _ 6 hX1.lt).trans (hX1.cell 6)
            refine ⟨rfl, ?_⟩
            simp only [putsL]
            change quietTo _ _ _ _ (Sem.run _ (execOp (Act.eval (Act.put (Act.put (Act.put (Act.put (Act.put (Act.put (Act.put _ (some 30) (sv 6)) (some 29) (sv 5)) (some 28) (sv 4)) (some 27) (sv 3)) (some 26) (sv 2)) (some 25) (sv 1)) (some 24) (sv 0))) _) _)
            try simp only [Act.put, List.setIfInBounds_toArray, List.set_cons_succ, List.set_cons_zero]
            simp [go_sem, quietTo, Ext.refl, ↓IntWalk.iteOmega, f6, hlc]
            all_goals try simp (disch := omega) only [IntWalk.i64_in]
            all_goals first
              | rfl
          refine fac_nil fun xa wra hera hfra hcra holda hapa => ?_
          obtain ⟨f0, f1, f2, f3, f4, f5, f6, f7, -⟩ := hfra
          replace f0 : xa 0 = _ := f0
          try dsimp only at f0
          replace f1 : xa 1 = _ := f1
          try dsimp only at f1
          replace f2 : xa 2 = _ := f2
          try dsimp only at f2
          replace f3 : xa 3 = _ := f3
          try dsimp only at f3
          replace f4 : xa 4 = _ := f4
          try dsimp only at f4
          replace f5 : xa 5 = _ := f5
          try dsimp only at f5
          replace f6 : xa 6 = _ := f6
          try dsimp only at f6
          replace f7 : xa 7 = _ := f7
          try dsimp only at f7
          change wpList _ _ _ _ (Act.put (Act.put (Act.put (Act.put (Act.put (Act.put (Act.put (Act.put _ (some 24) (xa 0)) (some 25) (xa 1)) (some 26) (xa 2)) (some 27) (xa 3)) (some 28) (xa 4)) (some 29) (xa 5)) (some 30) (xa 6)) (some 31) (xa 7)) _
          simp only [putsL, Nat.reduceAdd, List.drop_succ_cons, List.drop_zero, List.drop_nil, Act.put, List.setIfInBounds_toArray, List.set_cons_succ, List.set_cons_zero]
          try simp only [f0, f1, f2, f3, f4, f5, f6, f7]
          clear f0 f1 f2 f3 f4 f5 f6 f7
          clear holda hapa
          clear hX1 d0 d1 d2 d3 d4 d5 d6
          go_wp2
          go_ret
          have h7 : 7 = scanF n (chkSli xs) := scan_is hz hlt (by rw [hv.out, hf.out, hlc]; simp; omega) (by decide)
          exact ⟨ret_int (by rw [hF.out, if_neg h12, ← h7]; rfl), hEw.trans ((Ext.refl _).drew.trans hera)⟩
        · skip
          refine wp_region_facts [] [([], false, false), ([], false, false), ([1], false, false), ([0, 1, 2], false, false), ([0, 1, 2, 3], false, false), ([], false, false), ([0, 1, 2, 3, 4, 5], false, false), ([0, 1, 2, 3, 4, 5, 6], false, false)] (Ext) Ext (fun _ => True) (by kernel_rfl) (by kernel_rfl) Ext.refl (fun _ _ _ => Ext.trans) (fun _ _ h => h) (fun _ _ h => h.size) (fun _ _ h _ => h) trivial ?_
          dsimp only [List.length_cons, List.length_nil, List.drop_succ_cons, List.drop_zero, List.drop_nil]
          refine fac_quiet 0 rfl rfl rfl (fun _ _ h _ => h) rfl rfl ?_
          apply Exists.intro
          refine ⟨fun sv w' hw' hfa => ?_, ?_⟩
          · refine ⟨rfl, ?_⟩
            simp only [putsL]
            change quietTo _ _ _ _ (Sem.run _ (execOp (Act.eval _) _) _)
            try simp only [Act.put, List.setIfInBounds_toArray, List.set_cons_succ, List.set_cons_zero]
            simp [go_sem, quietTo, Ext.refl]
            all_goals first
              | rfl
          refine fac_quiet 1 rfl rfl rfl (fun _ _ h _ => h) rfl rfl ?_
          apply Exists.intro
          refine ⟨fun sv w' hw' hfa => ?_, ?_⟩
          · refine ⟨rfl, ?_⟩
            simp only [putsL]
            change quietTo _ _ _ _ (Sem.run _ (execOp (Act.eval _) _) _)
            try simp only [Act.put, List.setIfInBounds_toArray, List.set_cons_succ, List.set_cons_zero]
            simp [go_sem, quietTo, Ext.refl]
            all_goals first
              | rfl
          refine fac_quiet 2 rfl rfl rfl (fun _ _ h _ => h) rfl rfl ?_
          apply Exists.intro
          refine ⟨fun sv w' hw' hfa => ?_, ?_⟩
          · obtain ⟨f1, -⟩ := hfa
            replace f1 : sv 1 = _ := f1
            try dsimp only at f1
            obtain ⟨hc, hf, hz9⟩ := (hEw.drew.trans hw').walk; obtain ⟨hc2, hf2, hz8⟩ := ((Ext.refl _).drew.trans hw').walk; have y0 := (hc _ (off + j * 7) hbw).trans d0; have y1 := (hc _ (off + j * 7 + 1) hbw).trans d1; have y2 := (hc _ (off + j * 7 + 2) hbw).trans d2; have y3 := (hc _ (off + j * 7 + 3) hbw).trans d3; have y4 := (hc _ (off + j * 7 + 4) hbw).trans d4; have y5 := (hc _ (off + j * 7 + 5) hbw).trans d5; have y6 := (hc _ (off + j * 7 + 6) hbw).trans d6; have x0 := (hc2 _ 0 hX1.lt).trans (hX1.cell 0); have x1 := (hc2 _ 1 hX1.lt).trans (hX1.cell 1); have x2 := (hc2 _ 2 hX1.lt).trans (hX1.cell 2); have x3 := (hc2 _ 3 hX1.lt).trans (hX1.cell 3); have x4 := (hc2 _ 4 hX1.lt).trans (hX1.cell 4); have x5 := (hc2 _ 5 hX1.lt).trans (hX1.cell 5); have x6 := (hc2 _ 6 hX1.lt).trans (hX1.cell 6)
            refine ⟨rfl, ?_⟩
            simp only [putsL]
            change quietTo _ _ _ _ (Sem.run _ (execOp (Act.eval (Act.put _ (some 25) (sv 1))) _) _)
            try simp only [Act.put, List.setIfInBounds_toArray, List.set_cons_succ, List.set_cons_zero]
            simp [go_sem, quietTo, Ext.refl, ↓IntWalk.iteOmega, f1, hwj]
            all_goals try simp (disch := omega) only [IntWalk.i64_in]
            all_goals first
              | rfl
          refine fac_quiet 3 rfl rfl rfl (fun _ _ h _ => h) rfl rfl ?_
          apply Exists.intro
          refine ⟨fun sv w' hw' hfa => ?_, ?_⟩
          · obtain ⟨f0, _, f2, -⟩ := hfa
            replace f0 : sv 0 = _ := f0
            try dsimp only at f0
            replace f2 : sv 2 = _ := f2
            try dsimp only at f2
            obtain ⟨hc, hf, hz9⟩ := (hEw.drew.trans hw').walk; obtain ⟨hc2, hf2, hz8⟩ := ((Ext.refl _).drew.trans hw').walk; have y0 := (hc _ (off + j * 7) hbw).trans d0; have y1 := (hc _ (off + j * 7 + 1) hbw).trans d1; have y2 := (hc _ (off + j * 7 + 2) hbw).trans d2; have y3 := (hc _ (off + j * 7 + 3) hbw).trans d3; have y4 := (hc _ (off + j * 7 + 4) hbw).trans d4; have y5 := (hc _ (off + j * 7 + 5) hbw).trans d5; have y6 := (hc _ (off + j * 7 + 6) hbw).trans d6; have x0 := (hc2 _ 0 hX1.lt).trans (hX1.cell 0); have x1 := (hc2 _ 1 hX1.lt).trans (hX1.cell 1); have x2 := (hc2 _ 2 hX1.lt).trans (hX1.cell 2); have x3 := (hc2 _ 3 hX1.lt).trans (hX1.cell 3); have x4 := (hc2 _ 4 hX1.lt).trans (hX1.cell 4); have x5 := (hc2 _ 5 hX1.lt).trans (hX1.cell 5); have x6 := (hc2 _ 6 hX1.lt).trans (hX1.cell 6)
            refine ⟨rfl, ?_⟩
            simp only [putsL]
            change quietTo _ _ _ _ (Sem.run _ (execOp (Act.eval (Act.put (Act.put (Act.put _ (some 26) (sv 2)) (some 25) (sv 1)) (some 24) (sv 0))) _) _)
            try simp only [Act.put, List.setIfInBounds_toArray, List.set_cons_succ, List.set_cons_zero]
            simp [go_sem, quietTo, Ext.refl, ↓IntWalk.iteOmega, f0, f2, hjI]
            all_goals try simp (disch := omega) only [IntWalk.i64_in]
            all_goals first
              | rfl
          refine fac_quiet 4 rfl rfl rfl (fun _ _ h _ => h) rfl rfl ?_
          apply Exists.intro
          refine ⟨fun sv w' hw' hfa => ?_, ?_⟩
          · obtain ⟨_, _, _, f3, -⟩ := hfa
            replace f3 : sv 3 = _ := f3
            try dsimp only at f3
            obtain ⟨hc, hf, hz9⟩ := (hEw.drew.trans hw').walk; obtain ⟨hc2, hf2, hz8⟩ := ((Ext.refl _).drew.trans hw').walk; have y0 := (hc _ (off + j * 7) hbw).trans d0; have y1 := (hc _ (off + j * 7 + 1) hbw).trans d1; have y2 := (hc _ (off + j * 7 + 2) hbw).trans d2; have y3 := (hc _ (off + j * 7 + 3) hbw).trans d3; have y4 := (hc _ (off + j * 7 + 4) hbw).trans d4; have y5 := (hc _ (off + j * 7 + 5) hbw).trans d5; have y6 := (hc _ (off + j * 7 + 6) hbw).trans d6; have x0 := (hc2 _ 0 hX1.lt).trans (hX1.cell 0); have x1 := (hc2 _ 1 hX1.lt).trans (hX1.cell 1); have x2 := (hc2 _ 2 hX1.lt).trans (hX1.cell 2); have x3 := (hc2 _ 3 hX1.lt).trans (hX1.cell 3); have x4 := (hc2 _ 4 hX1.lt).trans (hX1.cell 4); have x5 := (hc2 _ 5 hX1.lt).trans (hX1.cell 5); have x6 := (hc2 _ 6 hX1.lt).trans (hX1.cell 6)
            refine ⟨rfl, ?_⟩
            simp only [putsL]
            change quietTo _ _ _ _ (Sem.run _ (execOp (Act.eval (Act.put (Act.put (Act.put (Act.put _ (some 27) (sv 3)) (some 26) (sv 2)) (some 25) (sv 1)) (some 24) (sv 0))) _) _)
            try simp only [Act.put, List.setIfInBounds_toArray, List.set_cons_succ, List.set_cons_zero]
            simp [go_sem, quietTo, Ext.refl, ↓IntWalk.iteOmega, f3, y0, y1, y2, y3, y4, y5, y6]
            all_goals try simp (disch := omega) only [IntWalk.i64_in]
            all_goals first
              | rfl
          refine fac_quiet 5 rfl rfl rfl (fun _ _ h _ => h) rfl rfl ?_
          apply Exists.intro
          refine ⟨fun sv w' hw' hfa => ?_, ?_⟩
          · obtain ⟨hc, hf, hz9⟩ := (hEw.drew.trans hw').walk; obtain ⟨hc2, hf2, hz8⟩ := ((Ext.refl _).drew.trans hw').walk; have y0 := (hc _ (off + j * 7) hbw).trans d0; have y1 := (hc _ (off + j * 7 + 1) hbw).trans d1; have y2 := (hc _ (off + j * 7 + 2) hbw).trans d2; have y3 := (hc _ (off + j * 7 + 3) hbw).trans d3; have y4 := (hc _ (off + j * 7 + 4) hbw).trans d4; have y5 := (hc _ (off + j * 7 + 5) hbw).trans d5; have y6 := (hc _ (off + j * 7 + 6) hbw).trans d6; have x0 := (hc2 _ 0 hX1.lt).trans (hX1.cell 0); have x1 := (hc2 _ 1 hX1.lt).trans (hX1.cell 1); have x2 := (hc2 _ 2 hX1.lt).trans (hX1.cell 2); have x3 := (hc2 _ 3 hX1.lt).trans (hX1.cell 3); have x4 := (hc2 _ 4 hX1.lt).trans (hX1.cell 4); have x5 := (hc2 _ 5 hX1.lt).trans (hX1.cell 5); have x6 := (hc2 _ 6 hX1.lt).trans (hX1.cell 6)
            refine ⟨rfl, ?_⟩
            simp only [putsL]
            change quietTo _ _ _ _ (Sem.run _ (execOp (Act.eval _) _) _)
            try simp only [Act.put, List.setIfInBounds_toArray, List.set_cons_succ, List.set_cons_zero]
            simp [go_sem, quietTo, Ext.refl, ↓IntWalk.iteOmega, x0, x1, x2, x3, x4, x5, x6]
            all_goals try simp (disch := omega) only [IntWalk.i64_in]
            all_goals first
              | rfl
          refine fac_quiet 6 rfl rfl rfl (fun _ _ h _ => h) rfl rfl ?_
          apply Exists.intro
          refine ⟨fun sv w' hw' hfa => ?_, ?_⟩
          · obtain ⟨f0, f1, f2, f3, f4, f5, -⟩ := hfa
            replace f0 : sv 0 = _ := f0
            try dsimp only at f0
            replace f1 : sv 1 = _ := f1
            try dsimp only at f1
            replace f2 : sv 2 = _ := f2
            try dsimp only at f2
            replace f3 : sv 3 = _ := f3
            try dsimp only at f3
            replace f4 : sv 4 = _ := f4
            try dsimp only at f4
            replace f5 : sv 5 = _ := f5
            try dsimp only at f5
            obtain ⟨hc, hf, hz9⟩ := (hEw.drew.trans hw').walk; obtain ⟨hc2, hf2, hz8⟩ := ((Ext.refl _).drew.trans hw').walk; have y0 := (hc _ (off + j * 7) hbw).trans d0; have y1 := (hc _ (off + j * 7 + 1) hbw).trans d1; have y2 := (hc _ (off + j * 7 + 2) hbw).trans d2; have y3 := (hc _ (off + j * 7 + 3) hbw).trans d3; have y4 := (hc _ (off + j * 7 + 4) hbw).trans d4; have y5 := (hc _ (off + j * 7 + 5) hbw).trans d5; have y6 := (hc _ (off + j * 7 + 6) hbw).trans d6; have x0 := (hc2 _ 0 hX1.lt).trans (hX1.cell 0); have x1 := (hc2 _ 1 hX1.lt).trans (hX1.cell 1); have x2 := (hc2 _ 2 hX1.lt).trans (hX1.cell 2); have x3 := (hc2 _ 3 hX1.lt).trans (hX1.cell 3); have x4 := (hc2 _ 4 hX1.lt).trans (hX1.cell 4); have x5 := (hc2 _ 5 hX1.lt).trans (hX1.cell 5); have x6 := (hc2 _ 6 hX1.lt).trans (hX1.cell 6)
            refine ⟨rfl, ?_⟩
            simp only [putsL]
            change quietTo _ _ _ _ (Sem.run _ (execOp (Act.eval (Act.put (Act.put (Act.put (Act.put (Act.put (Act.put _ (some 29) (sv 5)) (some 28) (sv 4)) (some 27) (sv 3)) (some 26) (sv 2)) (some 25) (sv 1)) (some 24) (sv 0))) _) _)
            try simp only [Act.put, List.setIfInBounds_toArray, List.set_cons_succ, List.set_cons_zero]
            simp [go_sem, quietTo, Ext.refl, ↓IntWalk.iteOmega, f4, f5]
            all_goals try simp (disch := omega) only [IntWalk.i64_in]
            all_goals first
              | rfl
              | (exact sliBy_any y x _)
          refine fac_quiet 7 rfl rfl rfl (fun _ _ h _ => h) rfl rfl ?_
          apply Exists.intro
          refine ⟨fun sv w' hw' hfa => ?_, ?_⟩
          · obtain ⟨_, _, _, _, _, _, f6, -⟩ := hfa
            replace f6 : sv 6 = _ := f6
            try dsimp only at f6
            obtain ⟨hc, hf, hz9⟩ := (hEw.drew.trans hw').walk; obtain ⟨hc2, hf2, hz8⟩ := ((Ext.refl _).drew.trans hw').walk; have y0 := (hc _ (off + j * 7) hbw).trans d0; have y1 := (hc _ (off + j * 7 + 1) hbw).trans d1; have y2 := (hc _ (off + j * 7 + 2) hbw).trans d2; have y3 := (hc _ (off + j * 7 + 3) hbw).trans d3; have y4 := (hc _ (off + j * 7 + 4) hbw).trans d4; have y5 := (hc _ (off + j * 7 + 5) hbw).trans d5; have y6 := (hc _ (off + j * 7 + 6) hbw).trans d6; have x0 := (hc2 _ 0 hX1.lt).trans (hX1.cell 0); have x1 := (hc2 _ 1 hX1.lt).trans (hX1.cell 1); have x2 := (hc2 _ 2 hX1.lt).trans (hX1.cell 2); have x3 := (hc2 _ 3 hX1.lt).trans (hX1.cell 3); have x4 := (hc2 _ 4 hX1.lt).trans (hX1.cell 4); have x5 := (hc2 _ 5 hX1.lt).trans (hX1.cell 5); have x6 := (hc2 _ 6 hX1.lt).trans (hX1.cell 6)
            refine ⟨rfl, ?_⟩
            simp only [putsL]
            change quietTo _ _ _ _ (Sem.run _ (execOp (Act.eval (Act.put (Act.put (Act.put (Act.put (Act.put (Act.put (Act.put _ (some 30) (sv 6)) (some 29) (sv 5)) (some 28) (sv 4)) (some 27) (sv 3)) (some 26) (sv 2)) (some 25) (sv 1)) (some 24) (sv 0))) _) _)
            try simp only [Act.put, List.setIfInBounds_toArray, List.set_cons_succ, List.set_cons_zero]
            simp [go_sem, quietTo, Ext.refl, ↓IntWalk.iteOmega, f6, hlc]
            all_goals try simp (disch := omega) only [IntWalk.i64_in]
            all_goals first
              | rfl
          refine fac_nil fun xa wra hera hfra hcra holda hapa => ?_
          obtain ⟨f0, f1, f2, f3, f4, f5, f6, f7, -⟩ := hfra
          replace f0 : xa 0 = _ := f0
          try dsimp only at f0
          replace f1 : xa 1 = _ := f1
          try dsimp only at f1
          replace f2 : xa 2 = _ := f2
          try dsimp only at f2
          replace f3 : xa 3 = _ := f3
          try dsimp only at f3
          replace f4 : xa 4 = _ := f4
          try dsimp only at f4
          replace f5 : xa 5 = _ := f5
          try dsimp only at f5
          replace f6 : xa 6 = _ := f6
          try dsimp only at f6
          replace f7 : xa 7 = _ := f7
          try dsimp only at f7
          change wpList _ _ _ _ (Act.put (Act.put (Act.put (Act.put (Act.put (Act.put (Act.put (Act.put _ (some 24) (xa 0)) (some 25) (xa 1)) (some 26) (xa 2)) (some 27) (xa 3)) (some 28) (xa 4)) (some 29) (xa 5)) (some 30) (xa 6)) (some 31) (xa 7)) _
          simp only [putsL, Nat.reduceAdd, List.drop_succ_cons, List.drop_zero, List.drop_nil, Act.put, List.setIfInBounds_toArray, List.set_cons_succ, List.set_cons_zero]
          try simp only [f0, f1, f2, f3, f4, f5, f6, f7]
          clear f0 f1 f2 f3 f4 f5 f6 f7
          clear holda hapa
          clear hX1 d0 d1 d2 d3 d4 d5 d6
          go_wp2
          go_ret
          have h7 : 7 = scanF n (chkSli xs) := scan_is hz hlt (by rw [hv.out, hf.out, hlc]; simp; omega) (by decide)
          exact ⟨ret_int (by rw [hF.out, if_neg h12, ← h7]; rfl), hEw.trans ((Ext.refl _).drew.trans hera)⟩
        · skip
          refine wp_region_facts [] [([], false, false), ([], false, false), ([1], false, false), ([0, 1, 2], false, false), ([0, 1, 2, 3], false, false), ([], false, false), ([0, 1, 2, 3, 4, 5], false, false), ([0, 1, 2, 3, 4, 5, 6], false, false)] (Ext) Ext (fun _ => True) (by kernel_rfl) (by kernel_rfl) Ext.refl (fun _ _ _ => Ext.trans) (fun _ _ h => h) (fun _ _ h => h.size) (fun _ _ h _ => h) trivial ?_
          dsimp only [List.length_cons, List.length_nil, List.drop_succ_cons, List.drop_zero, List.drop_nil]
          refine fac_quiet 0 rfl rfl rfl (fun _ _ h _ => h) rfl rfl ?_
          apply Exists.intro
          refine ⟨fun sv w' hw' hfa => ?_, ?_⟩
          · refine ⟨rfl, ?_⟩
            simp only [putsL]
            change quietTo _ _ _ _ (Sem.run _ (execOp (Act.eval _) _) _)
            try simp only [Act.put, List.setIfInBounds_toArray, List.set_cons_succ, List.set_cons_zero]
            simp [go_sem, quietTo, Ext.refl]
            all_goals first
              | rfl
          refine fac_quiet 1 rfl rfl rfl (fun _ _ h _ => h) rfl rfl ?_
          apply Exists.intro
          refine ⟨fun sv w' hw' hfa => ?_, ?_⟩
          · refine ⟨rfl, ?_⟩
            simp only [putsL]
            change quietTo _ _ _ _ (Sem.run _ (execOp (Act.eval _) _) _)
            try simp only [Act.put, List.setIfInBounds_toArray, List.set_cons_succ, List.set_cons_zero]
            simp [go_sem, quietTo, Ext.refl]
            all_goals first
              | rfl
          refine fac_quiet 2 rfl rfl rfl (fun _ _ h _ => h) rfl rfl ?_
          apply Exists.intro
          refine ⟨fun sv w' hw' hfa => ?_, ?_⟩
          · obtain ⟨f1, -⟩ := hfa
            replace f1 : sv 1 = _ := f1
            try dsimp only at f1
            obtain ⟨hc, hf, hz9⟩ := (hEw.drew.trans hw').walk; obtain ⟨hc2, hf2, hz8⟩ := ((Ext.refl _).drew.trans hw').walk; have y0 := (hc _ (off + j * 7) hbw).trans d0; have y1 := (hc _ (off + j * 7 + 1) hbw).trans d1; have y2 := (hc _ (off + j * 7 + 2) hbw).trans d2; have y3 := (hc _ (off + j * 7 + 3) hbw).trans d3; have y4 := (hc _ (off + j * 7 + 4) hbw).trans d4; have y5 := (hc _ (off + j * 7 + 5) hbw).trans d5; have y6 := (hc _ (off + j * 7 + 6) hbw).trans d6; have x0 := (hc2 _ 0 hX1.lt).trans (hX1.cell 0); have x1 := (hc2 _ 1 hX1.lt).trans (hX1.cell 1); have x2 := (hc2 _ 2 hX1.lt).trans (hX1.cell 2); have x3 := (hc2 _ 3 hX1.lt).trans (hX1.cell 3); have x4 := (hc2 _ 4 hX1.lt).trans (hX1.cell 4); have x5 := (hc2 _ 5 hX1.lt).trans (hX1.cell 5); have x6 := (hc2 _ 6 hX1.lt).trans (hX1.cell 6)
            refine ⟨rfl, ?_⟩
            simp only [putsL]
            change quietTo _ _ _ _ (Sem.run _ (execOp (Act.eval (Act.put _ (some 25) (sv 1))) _) _)
            try simp only [Act.put, List.setIfInBounds_toArray, List.set_cons_succ, List.set_cons_zero]
            simp [go_sem, quietTo, Ext.refl, ↓IntWalk.iteOmega, f1, hwj]
            all_goals try simp (disch := omega) only [IntWalk.i64_in]
            all_goals first
              | rfl
          refine fac_quiet 3 rfl rfl rfl (fun _ _ h _ => h) rfl rfl ?_
          apply Exists.intro
          refine ⟨fun sv w' hw' hfa => ?_, ?_⟩
          · obtain ⟨f0, _, f2, -⟩ := hfa
            replace f0 : sv 0 = _ := f0
            try dsimp only at f0
            replace f2 : sv 2 = _ := f2
            try dsimp only at f2
            obtain ⟨hc, hf, hz9⟩ := (hEw.drew.trans hw').walk; obtain ⟨hc2, hf2, hz8⟩ := ((Ext.refl _).drew.trans hw').walk; have y0 := (hc _ (off + j * 7) hbw).trans d0; have y1 := (hc _ (off + j * 7 + 1) hbw).trans d1; have y2 := (hc _ (off + j * 7 + 2) hbw).trans d2; have y3 := (hc _ (off + j * 7 + 3) hbw).trans d3; have y4 := (hc _ (off + j * 7 + 4) hbw).trans d4; have y5 := (hc _ (off + j * 7 + 5) hbw).trans d5; have y6 := (hc _ (off + j * 7 + 6) hbw).trans d6; have x0 := (hc2 _ 0 hX1.lt).trans (hX1.cell 0); have x1 := (hc2 _ 1 hX1.lt).trans (hX1.cell 1); have x2 := (hc2 _ 2 hX1.lt).trans (hX1.cell 2); have x3 := (hc2 _ 3 hX1.lt).trans (hX1.cell 3); have x4 := (hc2 _ 4 hX1.lt).trans (hX1.cell 4); have x5 := (hc2 _ 5 hX1.lt).trans (hX1.cell 5); have x6 := (hc2 _ 6 hX1.lt).trans (hX1.cell 6)
            refine ⟨rfl, ?_⟩
            simp only [putsL]
            change quietTo _ _ _ _ (Sem.run _ (execOp (Act.eval (Act.put (Act.put (Act.put _ (some 26) (sv 2)) (some 25) (sv 1)) (some 24) (sv 0))) _) _)
            try simp only [Act.put, List.setIfInBounds_toArray, List.set_cons_succ, List.set_cons_zero]
            simp [go_sem, quietTo, Ext.refl, ↓IntWalk.iteOmega, f0, f2, hjI]
            all_goals try simp (disch := omega) only [IntWalk.i64_in]
            all_goals first
              | rfl
          refine fac_quiet 4 rfl rfl rfl (fun _ _ h _ => h) rfl rfl ?_
          apply Exists.intro
          refine ⟨fun sv w' hw' hfa => ?_, ?_⟩
          · obtain ⟨_, _, _, f3, -⟩ := hfa
            replace f3 : sv 3 = _ := f3
            try dsimp only at f3
            obtain ⟨hc, hf, hz9⟩ := (hEw.drew.trans hw').walk; obtain ⟨hc2, hf2, hz8⟩ := ((Ext.refl _).drew.trans hw').walk; have y0 := (hc _ (off + j * 7) hbw).trans d0; have y1 := (hc _ (off + j * 7 + 1) hbw).trans d1; have y2 := (hc _ (off + j * 7 + 2) hbw).trans d2; have y3 := (hc _ (off + j * 7 + 3) hbw).trans d3; have y4 := (hc _ (off + j * 7 + 4) hbw).trans d4; have y5 := (hc _ (off + j * 7 + 5) hbw).trans d5; have y6 := (hc _ (off + j * 7 + 6) hbw).trans d6; have x0 := (hc2 _ 0 hX1.lt).trans (hX1.cell 0); have x1 := (hc2 _ 1 hX1.lt).trans (hX1.cell 1); have x2 := (hc2 _ 2 hX1.lt).trans (hX1.cell 2); have x3 := (hc2 _ 3 hX1.lt).trans (hX1.cell 3); have x4 := (hc2 _ 4 hX1.lt).trans (hX1.cell 4); have x5 := (hc2 _ 5 hX1.lt).trans (hX1.cell 5); have x6 := (hc2 _ 6 hX1.lt).trans (hX1.cell 6)
            refine ⟨rfl, ?_⟩
            simp only [putsL]
            change quietTo _ _ _ _ (Sem.run _ (execOp (Act.eval (Act.put (Act.put (Act.put (Act.put _ (some 27) (sv 3)) (some 26) (sv 2)) (some 25) (sv 1)) (some 24) (sv 0))) _) _)
            try simp only [Act.put, List.setIfInBounds_toArray, List.set_cons_succ, List.set_cons_zero]
            simp [go_sem, quietTo, Ext.refl, ↓IntWalk.iteOmega, f3, y0, y1, y2, y3, y4, y5, y6]
            all_goals try simp (disch := omega) only [IntWalk.i64_in]
            all_goals first
              | rfl
          refine fac_quiet 5 rfl rfl rfl (fun _ _ h _ => h) rfl rfl ?_
          apply Exists.intro
          refine ⟨fun sv w' hw' hfa => ?_, ?_⟩
          · obtain ⟨hc, hf, hz9⟩ := (hEw.drew.trans hw').walk; obtain ⟨hc2, hf2, hz8⟩ := ((Ext.refl _).drew.trans hw').walk; have y0 := (hc _ (off + j * 7) hbw).trans d0; have y1 := (hc _ (off + j * 7 + 1) hbw).trans d1; have y2 := (hc _ (off + j * 7 + 2) hbw).trans d2; have y3 := (hc _ (off + j * 7 + 3) hbw).trans d3; have y4 := (hc _ (off + j * 7 + 4) hbw).trans d4; have y5 := (hc _ (off + j * 7 + 5) hbw).trans d5; have y6 := (hc _ (off + j * 7 + 6) hbw).trans d6; have x0 := (hc2 _ 0 hX1.lt).trans (hX1.cell 0); have x1 := (hc2 _ 1 hX1.lt).trans (hX1.cell 1); have x2 := (hc2 _ 2 hX1.lt).trans (hX1.cell 2); have x3 := (hc2 _ 3 hX1.lt).trans (hX1.cell 3); have x4 := (hc2 _ 4 hX1.lt).trans (hX1.cell 4); have x5 := (hc2 _ 5 hX1.lt).trans (hX1.cell 5); have x6 := (hc2 _ 6 hX1.lt).trans (hX1.cell 6)
            refine ⟨rfl, ?_⟩
            simp only [putsL]
            change quietTo _ _ _ _ (Sem.run _ (execOp (Act.eval _) _) _)
            try simp only [Act.put, List.setIfInBounds_toArray, List.set_cons_succ, List.set_cons_zero]
            simp [go_sem, quietTo, Ext.refl, ↓IntWalk.iteOmega, x0, x1, x2, x3, x4, x5, x6]
            all_goals try simp (disch := omega) only [IntWalk.i64_in]
            all_goals first
              | rfl
          refine fac_quiet 6 rfl rfl rfl (fun _ _ h _ => h) rfl rfl ?_
          apply Exists.intro
          refine ⟨fun sv w' hw' hfa => ?_, ?_⟩
          · obtain ⟨f0, f1, f2, f3, f4, f5, -⟩ := hfa
            replace f0 : sv 0 = _ := f0
            try dsimp only at f0
            replace f1 : sv 1 = _ := f1
            try dsimp only at f1
            replace f2 : sv 2 = _ := f2
            try dsimp only at f2
            replace f3 : sv 3 = _ := f3
            try dsimp only at f3
            replace f4 : sv 4 = _ := f4
            try dsimp only at f4
            replace f5 : sv 5 = _ := f5
            try dsimp only at f5
            obtain ⟨hc, hf, hz9⟩ := (hEw.drew.trans hw').walk; obtain ⟨hc2, hf2, hz8⟩ := ((Ext.refl _).drew.trans hw').walk; have y0 := (hc _ (off + j * 7) hbw).trans d0; have y1 := (hc _ (off + j * 7 + 1) hbw).trans d1; have y2 := (hc _ (off + j * 7 + 2) hbw).trans d2; have y3 := (hc _ (off + j * 7 + 3) hbw).trans d3; have y4 := (hc _ (off + j * 7 + 4) hbw).trans d4; have y5 := (hc _ (off + j * 7 + 5) hbw).trans d5; have y6 := (hc _ (off + j * 7 + 6) hbw).trans d6; have x0 := (hc2 _ 0 hX1.lt).trans (hX1.cell 0); have x1 := (hc2 _ 1 hX1.lt).trans (hX1.cell 1); have x2 := (hc2 _ 2 hX1.lt).trans (hX1.cell 2); have x3 := (hc2 _ 3 hX1.lt).trans (hX1.cell 3); have x4 := (hc2 _ 4 hX1.lt).trans (hX1.cell 4); have x5 := (hc2 _ 5 hX1.lt).trans (hX1.cell 5); have x6 := (hc2 _ 6 hX1.lt).trans (hX1.cell 6)
            refine ⟨rfl, ?_⟩
            simp only [putsL]
            change quietTo _ _ _ _ (Sem.run _ (execOp (Act.eval (Act.put (Act.put (Act.put (Act.put (Act.put (Act.put _ (some 29) (sv 5)) (some 28) (sv 4)) (some 27) (sv 3)) (some 26) (sv 2)) (some 25) (sv 1)) (some 24) (sv 0))) _) _)
            try simp only [Act.put, List.setIfInBounds_toArray, List.set_cons_succ, List.set_cons_zero]
            simp [go_sem, quietTo, Ext.refl, ↓IntWalk.iteOmega, f4, f5]
            all_goals try simp (disch := omega) only [IntWalk.i64_in]
            all_goals first
              | rfl
              | (exact sliBy_any y x _)
          refine fac_quiet 7 rfl rfl rfl (fun _ _ h _ => h) rfl rfl ?_
          apply Exists.intro
          refine ⟨fun sv w' hw' hfa => ?_, ?_⟩
          · obtain ⟨_, _, _, _, _, _, f6, -⟩ := hfa
            replace f6 : sv 6 = _ := f6
            try dsimp only at f6
            obtain ⟨hc, hf, hz9⟩ := (hEw.drew.trans hw').walk; obtain ⟨hc2, hf2, hz8⟩ := ((Ext.refl _).drew.trans hw').walk; have y0 := (hc _ (off + j * 7) hbw).trans d0; have y1 := (hc _ (off + j * 7 + 1) hbw).trans d1; have y2 := (hc _ (off + j * 7 + 2) hbw).trans d2; have y3 := (hc _ (off + j * 7 + 3) hbw).trans d3; have y4 := (hc _ (off + j * 7 + 4) hbw).trans d4; have y5 := (hc _ (off + j * 7 + 5) hbw).trans d5; have y6 := (hc _ (off + j * 7 + 6) hbw).trans d6; have x0 := (hc2 _ 0 hX1.lt).trans (hX1.cell 0); have x1 := (hc2 _ 1 hX1.lt).trans (hX1.cell 1); have x2 := (hc2 _ 2 hX1.lt).trans (hX1.cell 2); have x3 := (hc2 _ 3 hX1.lt).trans (hX1.cell 3); have x4 := (hc2 _ 4 hX1.lt).trans (hX1.cell 4); have x5 := (hc2 _ 5 hX1.lt).trans (hX1.cell 5); have x6 := (hc2 _ 6 hX1.lt).trans (hX1.cell 6)
            refine ⟨rfl, ?_⟩
            simp only [putsL]
            change quietTo _ _ _ _ (Sem.run _ (execOp (Act.eval (Act.put (Act.put (Act.put (Act.put (Act.put (Act.put (Act.put _ (some 30) (sv 6)) (some 29) (sv 5)) (some 28) (sv 4)) (some 27) (sv 3)) (some 26) (sv 2)) (some 25) (sv 1)) (some 24) (sv 0))) _) _)
            try simp only [Act.put, List.setIfInBounds_toArray, List.set_cons_succ, List.set_cons_zero]
            simp [go_sem, quietTo, Ext.refl, ↓IntWalk.iteOmega, f6, hlc]
            all_goals try simp (disch := omega) only [IntWalk.i64_in]
            all_goals first
              | rfl
          refine fac_nil fun xa wra hera hfra hcra holda hapa => ?_
          obtain ⟨f0, f1, f2, f3, f4, f5, f6, f7, -⟩ := hfra
          replace f0 : xa 0 = _ := f0
          try dsimp only at f0
          replace f1 : xa 1 = _ := f1
          try dsimp only at f1
          replace f2 : xa 2 = _ := f2
          try dsimp only at f2
          replace f3 : xa 3 = _ := f3
          try dsimp only at f3
          replace f4 : xa 4 = _ := f4
          try dsimp only at f4
          replace f5 : xa 5 = _ := f5
          try dsimp only at f5
          replace f6 : xa 6 = _ := f6
          try dsimp only at f6
          replace f7 : xa 7 = _ := f7
          try dsimp only at f7
          change wpList _ _ _ _ (Act.put (Act.put (Act.put (Act.put (Act.put (Act.put (Act.put (Act.put _ (some 24) (xa 0)) (some 25) (xa 1)) (some 26) (xa 2)) (some 27) (xa 3)) (some 28) (xa 4)) (some 29) (xa 5)) (some 30) (xa 6)) (some 31) (xa 7)) _
          simp only [putsL, Nat.reduceAdd, List.drop_succ_cons, List.drop_zero, List.drop_nil, Act.put, List.setIfInBounds_toArray, List.set_cons_succ, List.set_cons_zero]
          try simp only [f0, f1, f2, f3, f4, f5, f6, f7]
          clear f0 f1 f2 f3 f4 f5 f6 f7
          clear holda hapa
          go_upto_region 13 with fail
          have hka := (Ext.refl w1).drew.trans hera
          have hX2 := hX1.ext hka
          replace hEw := hEw.trans hka
          have hzs := hz.succ (k := k) (by rw [hv.out, hf.out, hlc]; simp)
          clear hX1 d1 d3 d4 d5 d6 hera hka
          cases fl
          · cases hne : (x.by_.toList == y.by_.toList)
            · have hne2 : (y.by_.toList == x.by_.toList) = false := by rw [← hne]; exact Bool.beq_comm
              refine wp_region_facts [] [([], false, false), ([0], false, false), ([0, 1], false, false), ([0, 1], false, false), ([0, 1, 3], false, false), ([0, 1, 2, 3, 4], false, false), ([0, 1, 2, 3, 4, 5], false, false), ([0, 1, 2, 3, 4, 5, 6], false, false), ([0, 1], false, false), ([0, 1, 8], false, false), ([0, 1, 2, 3, 4, 5, 6, 7, 8, 9], false, false), ([0, 1, 2, 3, 4, 5, 6, 7, 8, 9, 10], false, false), ([0, 1, 2, 3, 4, 5, 6, 7, 8, 9, 10, 11], false, false), ([0, 1, 2, 3, 4, 5, 6, 7, 8, 9, 10, 11, 12], false, false), ([0, 1, 2, 3, 4, 5, 6, 7, 8, 9, 10, 11], false, false), ([0, 1, 2, 3, 4, 5, 6, 7, 8, 9, 10, 11], false, false), ([0, 1, 2, 3, 4, 5, 6, 7, 8, 9, 10, 11, 15], false, false), ([0, 1, 2, 3, 4, 5, 6, 7, 8, 9, 10, 11, 14, 15, 16], false, false), ([0, 1, 2, 3, 4, 5, 6, 7, 8, 9, 10, 11, 14, 15, 16, 17], false, false), ([0, 1, 2, 3, 4, 5, 6, 7, 8, 9, 10, 11, 14, 15, 16, 17, 18], false, false), ([0, 1, 2, 3, 4, 5, 6, 7, 8, 9, 10, 11, 12, 13, 14, 15, 16, 17, 18, 19], false, false), ([0, 1, 2, 3, 4, 5, 6, 7, 8, 9, 10, 11, 12, 13, 14, 15, 16, 17, 18, 19, 20], false, false), ([0, 1, 2, 3, 4, 5, 6, 7, 8, 9, 10, 11, 12, 13, 14, 15, 16, 17, 18, 19, 20, 21], false, false), ([0, 1, 2, 3, 4, 5, 6, 7, 8, 9, 10, 11, 12, 13, 14, 15, 16, 17, 18, 19, 20, 21, 22], false, false)] (Ext) Ext (fun _ => True) (by kernel_rfl) (by kernel_rfl) Ext.refl (fun _ _ _ => Ext.trans) (fun _ _ h => h) (fun _ _ h => h.size) (fun _ _ h _ => h) trivial ?_
              dsimp only [List.length_cons, List.length_nil, List.drop_succ_cons, List.drop_zero, List.drop_nil]
              refine fac_quiet 0 rfl rfl rfl (fun _ _ h _ => h) rfl rfl ?_
              apply Exists.intro
              refine ⟨fun sv w' hw' hfa => ?_, ?_⟩
              · refine ⟨rfl, ?_⟩
                simp only [putsL]
                change quietTo _ _ _ _ (Sem.run _ (execOp (Act.eval _) _) _)
                try simp only [Act.put, List.setIfInBounds_toArray, List.set_cons_succ, List.set_cons_zero]
                simp [go_sem, quietTo, Ext.refl]
                all_goals first
                  | rfl
              refine fac_quiet 1 rfl rfl rfl (fun _ _ h _ => h) rfl rfl ?_
              apply Exists.intro
              refine ⟨fun sv w' hw' hfa => ?_, ?_⟩
              · obtain ⟨f0, -⟩ := hfa
                replace f0 : sv 0 = _ := f0
                try dsimp only at f0
                refine ⟨rfl, ?_⟩
                simp only [putsL]
                change quietTo _ _ _ _ (Sem.run _ (execOp (Act.eval (Act.put _ (some 32) (sv 0))) _) _)
                try simp only [Act.put, List.setIfInBounds_toArray, List.set_cons_succ, List.set_cons_zero]
                simp [go_sem, quietTo, Ext.refl, f0]
                all_goals first
                  | rfl
              refine fac_quiet 2 rfl rfl rfl (fun _ _ h _ => h) rfl rfl ?_
              apply Exists.intro
              refine ⟨fun sv w' hw' hfa => ?_, ?_⟩
              · obtain ⟨_, f1, -⟩ := hfa
                replace f1 : sv 1 = _ := f1
                try dsimp only at f1
                refine ⟨by simp [Region.wanted, yielded, putsL, Act.put, f1], ?_⟩
                simp only [putsL]
                change quietTo _ _ _ _ (Sem.run _ (execOp (Act.eval (Act.put (Act.put _ (some 33) (sv 1)) (some 32) (sv 0))) _) _)
                try simp only [Act.put, List.setIfInBounds_toArray, List.set_cons_succ, List.set_cons_zero]
                simp [go_sem, quietTo, Ext.refl, f1]
                all_goals first
                  | rfl
              refine fac_quiet 3 rfl rfl rfl (fun _ _ h _ => h) rfl rfl ?_
              apply Exists.intro
              refine ⟨fun sv w' hw' hfa => ?_, ?_⟩
              · obtain ⟨_, f1, -⟩ := hfa
                replace f1 : sv 1 = _ := f1
                try dsimp only at f1
                refine ⟨by simp [Region.wanted, yielded, putsL, Act.put, f1], ?_⟩
                simp only [putsL]
                change quietTo _ _ _ _ (Sem.run _ (execOp (Act.eval (Act.put (Act.put _ (some 33) (sv 1)) (some 32) (sv 0))) _) _)
                try simp only [Act.put, List.setIfInBounds_toArray, List.set_cons_succ, List.set_cons_zero]
                simp [go_sem, quietTo, Ext.refl, f1]
                all_goals first
                  | rfl
              refine fac_quiet 4 rfl rfl rfl (fun _ _ h _ => h) rfl rfl ?_
              apply Exists.intro
              refine ⟨fun sv w' hw' hfa => ?_, ?_⟩
              · obtain ⟨_, f1, f3, -⟩ := hfa
                replace f1 : sv 1 = _ := f1
                try dsimp only at f1
                replace f3 : sv 3 = _ := f3
                try dsimp only at f3
                obtain ⟨hc, hf, hz9⟩ := (hEw.drew.trans hw').walk; obtain ⟨hc2, hf2, hz8⟩ := ((Ext.refl _).drew.trans hw').walk; have y0 := (hc _ (off + j * 7) hbw).trans d0; have y2 := (hc _ (off + j * 7 + 2) hbw).trans d2; have x0 := (hc2 _ 0 hX2.lt).trans (hX2.cell 0); have x2 := (hc2 _ 2 hX2.lt).trans (hX2.cell 2)
                refine ⟨by simp [Region.wanted, yielded, putsL, Act.put, f1, f3], ?_⟩
                simp only [putsL]
                change quietTo _ _ _ _ (Sem.run _ (execOp (Act.eval (Act.put (Act.put (Act.put _ (some 35) (sv 3)) (some 33) (sv 1)) (some 32) (sv 0))) _) _)
                try simp only [Act.put, List.setIfInBounds_toArray, List.set_cons_succ, List.set_cons_zero]
                simp [go_sem, quietTo, Ext.refl, ↓IntWalk.iteOmega, f1, f3, hwj]
                all_goals try simp (disch := omega) only [IntWalk.i64_in]
                all_goals first
                  | rfl
              refine fac_quiet 5 rfl rfl rfl (fun _ _ h _ => h) rfl rfl ?_
              apply Exists.intro
              refine ⟨fun sv w' hw' hfa => ?_, ?_⟩
              · obtain ⟨_, f1, f2, _, f4, -⟩ := hfa
                replace f1 : sv 1 = _ := f1
                try dsimp only at f1
                replace f2 : sv 2 = _ := f2
                try dsimp only at f2
                replace f4 : sv 4 = _ := f4
                try dsimp only at f4
                obtain ⟨hc, hf, hz9⟩ := (hEw.drew.trans hw').walk; obtain ⟨hc2, hf2, hz8⟩ := ((Ext.refl _).drew.trans hw').walk; have y0 := (hc _ (off + j * 7) hbw).trans d0; have y2 := (hc _ (off + j * 7 + 2) hbw).trans d2; have x0 := (hc2 _ 0 hX2.lt).trans (hX2.cell 0); have x2 := (hc2 _ 2 hX2.lt).trans (hX2.cell 2)
                refine ⟨by simp [Region.wanted, yielded, putsL, Act.put, f1, f2, f4], ?_⟩
                simp only [putsL]
                change quietTo _ _ _ _ (Sem.run _ (execOp (Act.eval (Act.put (Act.put (Act.put (Act.put (Act.put _ (some 36) (sv 4)) (some 35) (sv 3)) (some 34) (sv 2)) (some 33) (sv 1)) (some 32) (sv 0))) _) _)
                try simp only [Act.put, List.setIfInBounds_toArray, List.set_cons_succ, List.set_cons_zero]
                simp [go_sem, quietTo, Ext.refl, ↓IntWalk.iteOmega, f1, f2, f4, hjI]
                all_goals try simp (disch := omega) only [IntWalk.i64_in]
                all_goals first
                  | rfl
              refine fac_quiet 6 rfl rfl rfl (fun _ _ h _ => h) rfl rfl ?_
              apply Exists.intro
              refine ⟨fun sv w' hw' hfa => ?_, ?_⟩
              · obtain ⟨_, f1, _, _, _, f5, -⟩ := hfa
                replace f1 : sv 1 = _ := f1
                try dsimp only at f1
                replace f5 : sv 5 = _ := f5
                try dsimp only at f5
                refine ⟨by simp [Region.wanted, yielded, putsL, Act.put, f1, f5], ?_⟩
                simp only [putsL]
                change quietTo _ _ _ _ (Sem.run _ (execOp (Act.eval (Act.put (Act.put (Act.put (Act.put (Act.put (Act.put _ (some 37) (sv 5)) (some 36) (sv 4)) (some 35) (sv 3)) (some 34) (sv 2)) (some 33) (sv 1)) (some 32) (sv 0))) _) _)
                try simp only [Act.put, List.setIfInBounds_toArray, List.set_cons_succ, List.set_cons_zero]
                simp [go_sem, quietTo, Ext.refl, f1, f5]
                all_goals first
                  | rfl
              refine fac_quiet 7 rfl rfl rfl (fun _ _ h _ => h) rfl rfl ?_
              apply Exists.intro
              refine ⟨fun sv w' hw' hfa => ?_, ?_⟩
              · obtain ⟨_, f1, _, _, _, _, f6, -⟩ := hfa
                replace f1 : sv 1 = _ := f1
                try dsimp only at f1
                replace f6 : sv 6 = _ := f6
                try dsimp only at f6
                obtain ⟨hc, hf, hz9⟩ := (hEw.drew.trans hw').walk; obtain ⟨hc2, hf2, hz8⟩ := ((Ext.refl _).drew.trans hw').walk; have y0 := (hc _ (off + j * 7) hbw).trans d0; have y2 := (hc _ (off + j * 7 + 2) hbw).trans d2; have x0 := (hc2 _ 0 hX2.lt).trans (hX2.cell 0); have x2 := (hc2 _ 2 hX2.lt).trans (hX2.cell 2)
                refine ⟨by simp [Region.wanted, yielded, putsL, Act.put, f1, f6], ?_⟩
                simp only [putsL]
                change quietTo _ _ _ _ (Sem.run _ (execOp (Act.eval (Act.put (Act.put (Act.put (Act.put (Act.put (Act.put (Act.put _ (some 38) (sv 6)) (some 37) (sv 5)) (some 36) (sv 4)) (some 35) (sv 3)) (some 34) (sv 2)) (some 33) (sv 1)) (some 32) (sv 0))) _) _)
                try simp only [Act.put, List.setIfInBounds_toArray, List.set_cons_succ, List.set_cons_zero]
                simp [go_sem, quietTo, Ext.refl, ↓IntWalk.iteOmega, f1, f6, y0]
                all_goals try simp (disch := omega) only [IntWalk.i64_in]
                all_goals first
                  | rfl
              refine fac_quiet 8 rfl rfl rfl (fun _ _ h _ => h) rfl rfl ?_
              apply Exists.intro
              refine ⟨fun sv w' hw' hfa => ?_, ?_⟩
              · obtain ⟨_, f1, -⟩ := hfa
                replace f1 : sv 1 = _ := f1
                try dsimp only at f1
                refine ⟨by simp [Region.wanted, yielded, putsL, Act.put, f1], ?_⟩
                simp only [putsL]
                change quietTo _ _ _ _ (Sem.run _ (execOp (Act.eval (Act.put (Act.put _ (some 33) (sv 1)) (some 32) (sv 0))) _) _)
                try simp only [Act.put, List.setIfInBounds_toArray, List.set_cons_succ, List.set_cons_zero]
                simp [go_sem, quietTo, Ext.refl, f1]
                all_goals first
                  | rfl
              refine fac_quiet 9 rfl rfl rfl (fun _ _ h _ => h) rfl rfl ?_
              apply Exists.intro
              refine ⟨fun sv w' hw' hfa => ?_, ?_⟩
              · obtain ⟨_, f1, f8, -⟩ := hfa
                replace f1 : sv 1 = _ := f1
                try dsimp only at f1
                replace f8 : sv 8 = _ := f8
                try dsimp only at f8
                obtain ⟨hc, hf, hz9⟩ := (hEw.drew.trans hw').walk; obtain ⟨hc2, hf2, hz8⟩ := ((Ext.refl _).drew.trans hw').walk; have y0 := (hc _ (off + j * 7) hbw).trans d0; have y2 := (hc _ (off + j * 7 + 2) hbw).trans d2; have x0 := (hc2 _ 0 hX2.lt).trans (hX2.cell 0); have x2 := (hc2 _ 2 hX2.lt).trans (hX2.cell 2)
                refine ⟨by simp [Region.wanted, yielded, putsL, Act.put, f1, f8], ?_⟩
                simp only [putsL]
                change quietTo _ _ _ _ (Sem.run _ (execOp (Act.eval (Act.put (Act.put (Act.put _ (some 40) (sv 8)) (some 33) (sv 1)) (some 32) (sv 0))) _) _)
                try simp only [Act.put, List.setIfInBounds_toArray, List.set_cons_succ, List.set_cons_zero]
                simp [go_sem, quietTo, Ext.refl, ↓IntWalk.iteOmega, f1, f8, x0]
                all_goals try simp (disch := omega) only [IntWalk.i64_in]
                all_goals first
                  | rfl
              refine fac_quiet 10 rfl rfl rfl (fun _ _ h _ => h) rfl rfl ?_
              apply Exists.intro
              refine ⟨fun sv w' hw' hfa => ?_, ?_⟩
              · obtain ⟨_, f1, _, _, _, _, _, f7, _, f9, -⟩ := hfa
                replace f1 : sv 1 = _ := f1
                try dsimp only at f1
                replace f7 : sv 7 = _ := f7
                try dsimp only at f7
                replace f9 : sv 9 = _ := f9
                try dsimp only at f9
                obtain ⟨hc, hf, hz9⟩ := (hEw.drew.trans hw').walk; obtain ⟨hc2, hf2, hz8⟩ := ((Ext.refl _).drew.trans hw').walk; have y0 := (hc _ (off + j * 7) hbw).trans d0; have y2 := (hc _ (off + j * 7 + 2) hbw).trans d2; have x0 := (hc2 _ 0 hX2.lt).trans (hX2.cell 0); have x2 := (hc2 _ 2 hX2.lt).trans (hX2.cell 2)
                refine ⟨by simp [Region.wanted, yielded, putsL, Act.put, f1, f7, f9], ?_⟩
                simp only [putsL]
                change quietTo _ _ _ _ (Sem.run _ (execOp (Act.eval (Act.put (Act.put (Act.put (Act.put (Act.put (Act.put (Act.put (Act.put (Act.put (Act.put _ (some 41) (sv 9)) (some 40) (sv 8)) (some 39) (sv 7)) (some 38) (sv 6)) (some 37) (sv 5)) (some 36) (sv 4)) (some 35) (sv 3)) (some 34) (sv 2)) (some 33) (sv 1)) (some 32) (sv 0))) _) _)
                try simp only [Act.put, List.setIfInBounds_toArray, List.set_cons_succ, List.set_cons_zero]
                simp [go_sem, quietTo, Ext.refl, ↓IntWalk.iteOmega, f1, f7, f9, hne2]
                all_goals try simp (disch := omega) only [IntWalk.i64_in]
                all_goals first
                  | rfl
              refine fac_quiet 11 rfl rfl rfl (fun _ _ h _ => h) rfl rfl ?_
              apply Exists.intro
              refine ⟨fun sv w' hw' hfa => ?_, ?_⟩
              · obtain ⟨_, f1, _, _, _, _, _, _, _, _, f10, -⟩ := hfa
                replace f1 : sv 1 = _ := f1
                try dsimp only at f1
                replace f10 : sv 10 = _ := f10
                try dsimp only at f10
                refine ⟨by simp [Region.wanted, yielded, putsL, Act.put, f1, f10], ?_⟩
                simp only [putsL]
                change quietTo _ _ _ _ (Sem.run _ (execOp (Act.eval (Act.put (Act.put (Act.put (Act.put (Act.put (Act.put (Act.put (Act.put (Act.put (Act.put (Act.put _ (some 42) (sv 10)) (some 41) (sv 9)) (some 40) (sv 8)) (some 39) (sv 7)) (some 38) (sv 6)) (some 37) (sv 5)) (some 36) (sv 4)) (some 35) (sv 3)) (some 34) (sv 2)) (some 33) (sv 1)) (some 32) (sv 0))) _) _)
                try simp only [Act.put, List.setIfInBounds_toArray, List.set_cons_succ, List.set_cons_zero]
                simp [go_sem, quietTo, Ext.refl, f1, f10]
                all_goals first
                  | rfl
              refine fac_skip 12 rfl rfl rfl (fun _ _ h _ => h) Ext.refl ?_ ?_
              · intro sv w' hw' hfa
                obtain ⟨f0, f1, f2, f3, f4, f5, f6, f7, f8, f9, f10, f11, -⟩ := hfa
                replace f0 : sv 0 = _ := f0
                try dsimp only at f0
                replace f1 : sv 1 = _ := f1
                try dsimp only at f1
                replace f2 : sv 2 = _ := f2
                try dsimp only at f2
                replace f3 : sv 3 = _ := f3
                try dsimp only at f3
                replace f4 : sv 4 = _ := f4
                try dsimp only at f4
                replace f5 : sv 5 = _ := f5
                try dsimp only at f5
                replace f6 : sv 6 = _ := f6
                try dsimp only at f6
                replace f7 : sv 7 = _ := f7
                try dsimp only at f7
                replace f8 : sv 8 = _ := f8
                try dsimp only at f8
                replace f9 : sv 9 = _ := f9
                try dsimp only at f9
                replace f10 : sv 10 = _ := f10
                try dsimp only at f10
                replace f11 : sv 11 = _ := f11
                try dsimp only at f11
                simp [Region.wanted, yielded, putsL, Act.put, f11]
              refine fac_skip 13 rfl rfl rfl (fun _ _ h _ => h) Ext.refl ?_ ?_
              · intro sv w' hw' hfa
                obtain ⟨f0, f1, f2, f3, f4, f5, f6, f7, f8, f9, f10, f11, f12, -⟩ := hfa
                replace f0 : sv 0 = _ := f0
                try dsimp only at f0
                replace f1 : sv 1 = _ := f1
                try dsimp only at f1
                replace f2 : sv 2 = _ := f2
                try dsimp only at f2
                replace f3 : sv 3 = _ := f3
                try dsimp only at f3
                replace f4 : sv 4 = _ := f4
                try dsimp only at f4
                replace f5 : sv 5 = _ := f5
                try dsimp only at f5
                replace f6 : sv 6 = _ := f6
                try dsimp only at f6
                replace f7 : sv 7 = _ := f7
                try dsimp only at f7
                replace f8 : sv 8 = _ := f8
                try dsimp only at f8
                replace f9 : sv 9 = _ := f9
                try dsimp only at f9
                replace f10 : sv 10 = _ := f10
                try dsimp only at f10
                replace f11 : sv 11 = _ := f11
                try dsimp only at f11
                replace f12 : sv 12 = _ := f12
                try dsimp only at f12
                simp [Region.wanted, yielded, putsL, Act.put, f11, f12]
              refine fac_skip 14 rfl rfl rfl (fun _ _ h _ => h) Ext.refl ?_ ?_
              · intro sv w' hw' hfa
                obtain ⟨f0, f1, f2, f3, f4, f5, f6, f7, f8, f9, f10, f11, -⟩ := hfa
                replace f0 : sv 0 = _ := f0
                try dsimp only at f0
                replace f1 : sv 1 = _ := f1
                try dsimp only at f1
                replace f2 : sv 2 = _ := f2
                try dsimp only at f2
                replace f3 : sv 3 = _ := f3
                try dsimp only at f3
                replace f4 : sv 4 = _ := f4
                try dsimp only at f4
                replace f5 : sv 5 = _ := f5
                try dsimp only at f5
                replace f6 : sv 6 = _ := f6
                try dsimp only at f6
                replace f7 : sv 7 = _ := f7
                try dsimp only at f7
                replace f8 : sv 8 = _ := f8
                try dsimp only at f8
                replace f9 : sv 9 = _ := f9
                try dsimp only at f9
                replace f10 : sv 10 = _ := f10
                try dsimp only at f10
                replace f11 : sv 11 = _ := f11
                try dsimp only at f11
                simp [Region.wanted, yielded, putsL, Act.put, f11]
              refine fac_skip 15 rfl rfl rfl (fun _ _ h _ => h) Ext.refl ?_ ?_
              · intro sv w' hw' hfa
                obtain ⟨f0, f1, f2, f3, f4, f5, f6, f7, f8, f9, f10, f11, -⟩ := hfa
                replace f0 : sv 0 = _ := f0
                try dsimp only at f0
                replace f1 : sv 1 = _ := f1
                try dsimp only at f1
                replace f2 : sv 2 = _ := f2
                try dsimp only at f2
                replace f3 : sv 3 = _ := f3
                try dsimp only at f3
                replace f4 : sv 4 = _ := f4
                try dsimp only at f4
                replace f5 : sv 5 = _ := f5
                try dsimp only at f5
                replace f6 : sv 6 = _ := f6
                try dsimp only at f6
                replace f7 : sv 7 = _ := f7
                try dsimp only at f7
                replace f8 : sv 8 = _ := f8
                try dsimp only at f8
                replace f9 : sv 9 = _ := f9
                try dsimp only at f9
                replace f10 : sv 10 = _ := f10
                try dsimp only at f10
                replace f11 : sv 11 = _ := f11
                try dsimp only at f11
                simp [Region.wanted, yielded, putsL, Act.put, f11]
              refine fac_skip 16 rfl rfl rfl (fun _ _ h _ => h) Ext.refl ?_ ?_
              · intro sv w' hw' hfa
                obtain ⟨f0, f1, f2, f3, f4, f5, f6, f7, f8, f9, f10, f11, f15, -⟩ := hfa
                replace f0 : sv 0 = _ := f0
                try dsimp only at f0
                replace f1 : sv 1 = _ := f1
                try dsimp only at f1
                replace f2 : sv 2 = _ := f2
                try dsimp only at f2
                replace f3 : sv 3 = _ := f3
                try dsimp only at f3
                replace f4 : sv 4 = _ := f4
                try dsimp only at f4
                replace f5 : sv 5 = _ := f5
                try dsimp only at f5
                replace f6 : sv 6 = _ := f6
                try dsimp only at f6
                replace f7 : sv 7 = _ := f7
                try dsimp only at f7
                replace f8 : sv 8 = _ := f8
                try dsimp only at f8
                replace f9 : sv 9 = _ := f9
                try dsimp only at f9
                replace f10 : sv 10 = _ := f10
                try dsimp only at f10
                replace f11 : sv 11 = _ := f11
                try dsimp only at f11
                replace f15 : sv 15 = _ := f15
                try dsimp only at f15
                simp [Region.wanted, yielded, putsL, Act.put, f11, f15]
              refine fac_skip 17 rfl rfl rfl (fun _ _ h _ => h) Ext.refl ?_ ?_
              · intro sv w' hw' hfa
                obtain ⟨f0, f1, f2, f3, f4, f5, f6, f7, f8, f9, f10, f11, f14, f15, f16, -⟩ := hfa
                replace f0 : sv 0 = _ := f0
                try dsimp only at f0
                replace f1 : sv 1 = _ := f1
                try dsimp only at f1
                replace f2 : sv 2 = _ := f2
                try dsimp only at f2
                replace f3 : sv 3 = _ := f3
                try dsimp only at f3
                replace f4 : sv 4 = _ := f4
                try dsimp only at f4
                replace f5 : sv 5 = _ := f5
                try dsimp only at f5
                replace f6 : sv 6 = _ := f6
                try dsimp only at f6
                replace f7 : sv 7 = _ := f7
                try dsimp only at f7
                replace f8 : sv 8 = _ := f8
                try dsimp only at f8
                replace f9 : sv 9 = _ := f9
                try dsimp only at f9
                replace f10 : sv 10 = _ := f10
                try dsimp only at f10
                replace f11 : sv 11 = _ := f11
                try dsimp only at f11
                replace f14 : sv 14 = _ := f14
                try dsimp only at f14
                replace f15 : sv 15 = _ := f15
                try dsimp only at f15
                replace f16 : sv 16 = _ := f16
                try dsimp only at f16
                simp [Region.wanted, yielded, putsL, Act.put, f11, f14, f16]
              refine fac_skip 18 rfl rfl rfl (fun _ _ h _ => h) Ext.refl ?_ ?_
              · intro sv w' hw' hfa
                obtain ⟨f0, f1, f2, f3, f4, f5, f6, f7, f8, f9, f10, f11, f14, f15, f16, f17, -⟩ := hfa
                replace f0 : sv 0 = _ := f0
                try dsimp only at f0
                replace f1 : sv 1 = _ := f1
                try dsimp only at f1
                replace f2 : sv 2 = _ := f2
                try dsimp only at f2
                replace f3 : sv 3 = _ := f3
                try dsimp only at f3
                replace f4 : sv 4 = _ := f4
                try dsimp only at f4
                replace f5 : sv 5 = _ := f5
                try dsimp only at f5
                replace f6 : sv 6 = _ := f6
                try dsimp only at f6
                replace f7 : sv 7 = _ := f7
                try dsimp only at f7
                replace f8 : sv 8 = _ := f8
                try dsimp only at f8
                replace f9 : sv 9 = _ := f9
                try dsimp only at f9
                replace f10 : sv 10 = _ := f10
                try dsimp only at f10
                replace f11 : sv 11 = _ := f11
                try dsimp only at f11
                replace f14 : sv 14 = _ := f14
                try dsimp only at f14
                replace f15 : sv 15 = _ := f15
                try dsimp only at f15
                replace f16 : sv 16 = _ := f16
                try dsimp only at f16
                replace f17 : sv 17 = _ := f17
                try dsimp only at f17
                simp [Region.wanted, yielded, putsL, Act.put, f11, f17]
              refine fac_skip 19 rfl rfl rfl (fun _ _ h _ => h) Ext.refl ?_ ?_
              · intro sv w' hw' hfa
                obtain ⟨f0, f1, f2, f3, f4, f5, f6, f7, f8, f9, f10, f11, f14, f15, f16, f17, f18, -⟩ := hfa
                replace f0 : sv 0 = _ := f0
                try dsimp only at f0
                replace f1 : sv 1 = _ := f1
                try dsimp only at f1
                replace f2 : sv 2 = _ := f2
                try dsimp only at f2
                replace f3 : sv 3 = _ := f3
                try dsimp only at f3
                replace f4 : sv 4 = _ := f4
                try dsimp only at f4
                replace f5 : sv 5 = _ := f5
                try dsimp only at f5
                replace f6 : sv 6 = _ := f6
                try dsimp only at f6
                replace f7 : sv 7 = _ := f7
                try dsimp only at f7
                replace f8 : sv 8 = _ := f8
                try dsimp only at f8
                replace f9 : sv 9 = _ := f9
                try dsimp only at f9
                replace f10 : sv 10 = _ := f10
                try dsimp only at f10
                replace f11 : sv 11 = _ := f11
                try dsimp only at f11
                replace f14 : sv 14 = _ := f14
                try dsimp only at f14
                replace f15 : sv 15 = _ := f15
                try dsimp only at f15
                replace f16 : sv 16 = _ := f16
                try dsimp only at f16
                replace f17 : sv 17 = _ := f17
                try dsimp only at f17
                replace f18 : sv 18 = _ := f18
                try dsimp only at f18
                simp [Region.wanted, yielded, putsL, Act.put, f11, f18]
              refine fac_skip 20 rfl rfl rfl (fun _ _ h _ => h) Ext.refl ?_ ?_
              · intro sv w' hw' hfa
                obtain ⟨f0, f1, f2, f3, f4, f5, f6, f7, f8, f9, f10, f11, f12, f13, f14, f15, f16, f17, f18, f19, -⟩ := hfa
                replace f0 : sv 0 = _ := f0
                try dsimp only at f0
                replace f1 : sv 1 = _ := f1
                try dsimp only at f1
                replace f2 : sv 2 = _ := f2
                try dsimp only at f2
                replace f3 : sv 3 = _ := f3
                try dsimp only at f3
                replace f4 : sv 4 = _ := f4
                try dsimp only at f4
                replace f5 : sv 5 = _ := f5
                try dsimp only at f5
                replace f6 : sv 6 = _ := f6
                try dsimp only at f6
                replace f7 : sv 7 = _ := f7
                try dsimp only at f7
                replace f8 : sv 8 = _ := f8
                try dsimp only at f8
                replace f9 : sv 9 = _ := f9
                try dsimp only at f9
                replace f10 : sv 10 = _ := f10
                try dsimp only at f10
                replace f11 : sv 11 = _ := f11
                try dsimp only at f11
                replace f12 : sv 12 = _ := f12
                try dsimp only at f12
                replace f13 : sv 13 = _ := f13
                try dsimp only at f13
                replace f14 : sv 14 = _ := f14
                try dsimp only at f14
                replace f15 : sv 15 = _ := f15
                try dsimp only at f15
                replace f16 : sv 16 = _ := f16
                try dsimp only at f16
                replace f17 : sv 17 = _ := f17
                try dsimp only at f17
                replace f18 : sv 18 = _ := f18
                try dsimp only at f18
                replace f19 : sv 19 = _ := f19
                try dsimp only at f19
                simp [Region.wanted, yielded, putsL, Act.put, f11, f13, f19]
              refine fac_quiet 21 rfl rfl rfl (fun _ _ h _ => h) rfl rfl ?_
              apply Exists.intro
              refine ⟨fun sv w' hw' hfa => ?_, ?_⟩
              · obtain ⟨_, f1, _, _, _, _, _, _, _, _, _, f11, _, _, _, _, _, _, _, _, f20, -⟩ := hfa
                replace f1 : sv 1 = _ := f1
                try dsimp only at f1
                replace f11 : sv 11 = _ := f11
                try dsimp only at f11
                replace f20 : sv 20 = _ := f20
                try dsimp only at f20
                refine ⟨by simp [Region.wanted, yielded, putsL, Act.put, f1, f11, f20], ?_⟩
                simp only [putsL]
                change quietTo _ _ _ _ (Sem.run _ (execOp (Act.eval (Act.put (Act.put (Act.put (Act.put (Act.put (Act.put (Act.put (Act.put (Act.put (Act.put (Act.put (Act.put (Act.put (Act.put (Act.put (Act.put (Act.put (Act.put (Act.put (Act.put (Act.put _ (some 52) (sv 20)) (some 51) (sv 19)) (some 50) (sv 18)) (some 49) (sv 17)) (some 48) (sv 16)) (some 47) (sv 15)) (some 46) (sv 14)) (some 45) (sv 13)) (some 44) (sv 12)) (some 43) (sv 11)) (some 42) (sv 10)) (some 41) (sv 9)) (some 40) (sv 8)) (some 39) (sv 7)) (some 38) (sv 6)) (some 37) (sv 5)) (some 36) (sv 4)) (some 35) (sv 3)) (some 34) (sv 2)) (some 33) (sv 1)) (some 32) (sv 0))) _) _)
                try simp only [Act.put, List.setIfInBounds_toArray, List.set_cons_succ, List.set_cons_zero]
                simp [go_sem, quietTo, Ext.refl, ↓IntWalk.iteOmega, f1, f11, f20]
                all_goals try simp (disch := omega) only [IntWalk.i64_in]
                all_goals first
                  | rfl
              refine fac_quiet 22 rfl rfl rfl (fun _ _ h _ => h) rfl rfl ?_
              apply Exists.intro
              refine ⟨fun sv w' hw' hfa => ?_, ?_⟩
              · obtain ⟨_, f1, _, _, _, _, _, _, _, _, _, _, _, _, _, _, _, _, _, _, _, f21, -⟩ := hfa
                replace f1 : sv 1 = _ := f1
                try dsimp only at f1
                replace f21 : sv 21 = _ := f21
                try dsimp only at f21
                refine ⟨rfl, ?_⟩
                simp only [putsL]
                change quietTo _ _ _ _ (Sem.run _ (execOp (Act.eval (Act.put (Act.put (Act.put (Act.put (Act.put (Act.put (Act.put (Act.put (Act.put (Act.put (Act.put (Act.put (Act.put (Act.put (Act.put (Act.put (Act.put (Act.put (Act.put (Act.put (Act.put (Act.put _ (some 53) (sv 21)) (some 52) (sv 20)) (some 51) (sv 19)) (some 50) (sv 18)) (some 49) (sv 17)) (some 48) (sv 16)) (some 47) (sv 15)) (some 46) (sv 14)) (some 45) (sv 13)) (some 44) (sv 12)) (some 43) (sv 11)) (some 42) (sv 10)) (some 41) (sv 9)) (some 40) (sv 8)) (some 39) (sv 7)) (some 38) (sv 6)) (some 37) (sv 5)) (some 36) (sv 4)) (some 35) (sv 3)) (some 34) (sv 2)) (some 33) (sv 1)) (some 32) (sv 0))) _) _)
                try simp only [Act.put, List.setIfInBounds_toArray, List.set_cons_succ, List.set_cons_zero]
                simp [go_sem, quietTo, Ext.refl, ↓IntWalk.iteOmega, f1, f21]
                all_goals try simp (disch := omega) only [IntWalk.i64_in]
                all_goals first
                  | rfl
              refine fac_quiet 23 rfl rfl rfl (fun _ _ h _ => h) rfl rfl ?_
              apply Exists.intro
              refine ⟨fun sv w' hw' hfa => ?_, ?_⟩
              · obtain ⟨_, _, _, _, _, _, _, _, _, _, _, _, _, _, _, _, _, _, _, _, _, _, f22, -⟩ := hfa
                replace f22 : sv 22 = _ := f22
                try dsimp only at f22
                refine ⟨rfl, ?_⟩
                simp only [putsL]
                change quietTo _ _ _ _ (Sem.run _ (execOp (Act.eval (Act.put (Act.put (Act.put (Act.put (Act.put (Act.put (Act.put (Act.put (Act.put (Act.put (Act.put (Act.put (Act.put (Act.put (Act.put (Act.put (Act.put (Act.put (Act.put (Act.put (Act.put (Act.put (Act.put _ (some 54) (sv 22)) (some 53) (sv 21)) (some 52) (sv 20)) (some 51) (sv 19)) (some 50) (sv 18)) (some 49) (sv 17)) (some 48) (sv 16)) (some 47) (sv 15)) (some 46) (sv 14)) (some 45) (sv 13)) (some 44) (sv 12)) (some 43) (sv 11)) (some 42) (sv 10)) (some 41) (sv 9)) (some 40) (sv 8)) (some 39) (sv 7)) (some 38) (sv 6)) (some 37) (sv 5)) (some 36) (sv 4)) (some 35) (sv 3)) (some 34) (sv 2)) (some 33) (sv 1)) (some 32) (sv 0))) _) _)
                try simp only [Act.put, List.setIfInBounds_toArray, List.set_cons_succ, List.set_cons_zero]
                simp [go_sem, quietTo, Ext.refl, f22]
                all_goals first
                  | rfl
              refine fac_nil fun xc wrc herc hfrc hcrc holdc hapc => ?_
              obtain ⟨f0, f1, f2, f3, f4, f5, f6, f7, f8, f9, f10, f11, f12, f13, f14, f15, f16, f17, f18, f19, f20, f21, f22, f23, -⟩ := hfrc
              replace f0 : xc 0 = _ := f0
              try dsimp only at f0
              replace f1 : xc 1 = _ := f1
              try dsimp only at f1
              replace f2 : xc 2 = _ := f2
              try dsimp only at f2
              replace f3 : xc 3 = _ := f3
              try dsimp only at f3
              replace f4 : xc 4 = _ := f4
              try dsimp only at f4
              replace f5 : xc 5 = _ := f5
              try dsimp only at f5
              replace f6 : xc 6 = _ := f6
              try dsimp only at f6
              replace f7 : xc 7 = _ := f7
              try dsimp only at f7
              replace f8 : xc 8 = _ := f8
              try dsimp only at f8
              replace f9 : xc 9 = _ := f9
              try dsimp only at f9
              replace f10 : xc 10 = _ := f10
              try dsimp only at f10
              replace f11 : xc 11 = _ := f11
              try dsimp only at f11
              replace f12 : xc 12 = _ := f12
              try dsimp only at f12
              replace f13 : xc 13 = _ := f13
              try dsimp only at f13
              replace f14 : xc 14 = _ := f14
              try dsimp only at f14
              replace f15 : xc 15 = _ := f15
              try dsimp only at f15
              replace f16 : xc 16 = _ := f16
              try dsimp only at f16
              replace f17 : xc 17 = _ := f17
              try dsimp only at f17
              replace f18 : xc 18 = _ := f18
              try dsimp only at f18
              replace f19 : xc 19 = _ := f19
              try dsimp only at f19
              replace f20 : xc 20 = _ := f20
              try dsimp only at f20
              replace f21 : xc 21 = _ := f21
              try dsimp only at f21
              replace f22 : xc 22 = _ := f22
              try dsimp only at f22
              replace f23 : xc 23 = _ := f23
              try dsimp only at f23
              change wpList _ _ _ _ (Act.put (Act.put (Act.put (Act.put (Act.put (Act.put (Act.put (Act.put (Act.put (Act.put (Act.put (Act.put (Act.put (Act.put (Act.put (Act.put (Act.put (Act.put (Act.put (Act.put (Act.put (Act.put (Act.put (Act.put _ (some 32) (xc 0)) (some 33) (xc 1)) (some 34) (xc 2)) (some 35) (xc 3)) (some 36) (xc 4)) (some 37) (xc 5)) (some 38) (xc 6)) (some 39) (xc 7)) (some 40) (xc 8)) (some 41) (xc 9)) (some 42) (xc 10)) (some 43) (xc 11)) (some 44) (xc 12)) (some 45) (xc 13)) (some 46) (xc 14)) (some 47) (xc 15)) (some 48) (xc 16)) (some 49) (xc 17)) (some 50) (xc 18)) (some 51) (xc 19)) (some 52) (xc 20)) (some 53) (xc 21)) (some 54) (xc 22)) (some 3) (xc 23)) _
              simp only [putsL, Nat.reduceAdd, List.drop_succ_cons, List.drop_zero, List.drop_nil, Act.put, List.setIfInBounds_toArray, List.set_cons_succ, List.set_cons_zero]
              try simp only [f0, f1, f2, f3, f4, f5, f6, f7, f8, f9, f10, f11, f12, f13, f14, f15, f16, f17, f18, f19, f20, f21, f22, f23]
              clear f0 f1 f2 f3 f4 f5 f6 f7 f8 f9 f10 f11 f12 f13 f14 f15 f16 f17 f18 f19 f20 f21 f22 f23
              clear holdc hapc
              clear hX2 d0 d2
              go_wp2
              go_roundw
              case rel => exact ⟨k + 1, false, hlt, by go_num, rfl, hzs, fun e => (hf0.out rfl).succ (by rw [hlk.out, hne]; rfl), (fun e => by cases e), hEw.trans ((Ext.refl _).drew.trans herc)⟩
              case measure => simp [intOf]; omega
            · have hne2 : (y.by_.toList == x.by_.toList) = true := by rw [← hne]; exact Bool.beq_comm
              by_cases hat : x.at_ < y.at_
              all_goals
                refine wp_region_facts [] [([], false, false), ([0], false, false), ([0, 1], false, false), ([0, 1], false, false), ([0, 1, 3], false, false), ([0, 1, 2, 3, 4], false, false), ([0, 1, 2, 3, 4, 5], false, false), ([0, 1, 2, 3, 4, 5, 6], false, false), ([0, 1], false, false), ([0, 1, 8], false, false), ([0, 1, 2, 3, 4, 5, 6, 7, 8, 9], false, false), ([0, 1, 2, 3, 4, 5, 6, 7, 8, 9, 10], false, false), ([0, 1, 2, 3, 4, 5, 6, 7, 8, 9, 10, 11], false, false), ([0, 1, 2, 3, 4, 5, 6, 7, 8, 9, 10, 11, 12], false, false), ([0, 1, 2, 3, 4, 5, 6, 7, 8, 9, 10, 11], false, false), ([0, 1, 2, 3, 4, 5, 6, 7, 8, 9, 10, 11], false, false), ([0, 1, 2, 3, 4, 5, 6, 7, 8, 9, 10, 11, 15], false, false), ([0, 1, 2, 3, 4, 5, 6, 7, 8, 9, 10, 11, 14, 15, 16], false, false), ([0, 1, 2, 3, 4, 5, 6, 7, 8, 9, 10, 11, 14, 15, 16, 17], false, false), ([0, 1, 2, 3, 4, 5, 6, 7, 8, 9, 10, 11, 14, 15, 16, 17, 18], false, false), ([0, 1, 2, 3, 4, 5, 6, 7, 8, 9, 10, 11, 12, 13, 14, 15, 16, 17, 18, 19], false, false), ([0, 1, 2, 3, 4, 5, 6, 7, 8, 9, 10, 11, 12, 13, 14, 15, 16, 17, 18, 19, 20], false, false), ([0, 1, 2, 3, 4, 5, 6, 7, 8, 9, 10, 11, 12, 13, 14, 15, 16, 17, 18, 19, 20, 21], false, false), ([0, 1, 2, 3, 4, 5, 6, 7, 8, 9, 10, 11, 12, 13, 14, 15, 16, 17, 18, 19, 20, 21, 22], false, false)] (Ext) Ext (fun _ => True) (by kernel_rfl) (by kernel_rfl) Ext.refl (fun _ _ _ => Ext.trans) (fun _ _ h => h) (fun _ _ h => h.size) (fun _ _ h _ => h) trivial ?_
                dsimp only [List.length_cons, List.length_nil, List.drop_succ_cons, List.drop_zero, List.drop_nil]
                refine fac_quiet 0 rfl rfl rfl (fun _ _ h _ => h) rfl rfl ?_
                apply Exists.intro
                refine ⟨fun sv w' hw' hfa => ?_, ?_⟩
                · refine ⟨rfl, ?_⟩
                  simp only [putsL]
                  change quietTo _ _ _ _ (Sem.run _ (execOp (Act.eval _) _) _)
                  try simp only [Act.put, List.setIfInBounds_toArray, List.set_cons_succ, List.set_cons_zero]
                  simp [go_sem, quietTo, Ext.refl]
                  all_goals first
                    | rfl
                refine fac_quiet 1 rfl rfl rfl (fun _ _ h _ => h) rfl rfl ?_
                apply Exists.intro
                refine ⟨fun sv w' hw' hfa => ?_, ?_⟩
                · obtain ⟨f0, -⟩ := hfa
                  replace f0 : sv 0 = _ := f0
                  try dsimp only at f0
                  refine ⟨rfl, ?_⟩
                  simp only [putsL]
                  change quietTo _ _ _ _ (Sem.run _ (execOp (Act.eval (Act.put _ (some 32) (sv 0))) _) _)
                  try simp only [Act.put, List.setIfInBounds_toArray, List.set_cons_succ, List.set_cons_zero]
                  simp [go_sem, quietTo, Ext.refl, f0]
                  all_goals first
                    | rfl
                refine fac_quiet 2 rfl rfl rfl (fun _ _ h _ => h) rfl rfl ?_
                apply Exists.intro
                refine ⟨fun sv w' hw' hfa => ?_, ?_⟩
                · obtain ⟨_, f1, -⟩ := hfa
                  replace f1 : sv 1 = _ := f1
                  try dsimp only at f1
                  refine ⟨by simp [Region.wanted, yielded, putsL, Act.put, f1], ?_⟩
                  simp only [putsL]
                  change quietTo _ _ _ _ (Sem.run _ (execOp (Act.eval (Act.put (Act.put _ (some 33) (sv 1)) (some 32) (sv 0))) _) _)
                  try simp only [Act.put, List.setIfInBounds_toArray, List.set_cons_succ, List.set_cons_zero]
                  simp [go_sem, quietTo, Ext.refl, f1]
                  all_goals first
                    | rfl
                refine fac_quiet 3 rfl rfl rfl (fun _ _ h _ => h) rfl rfl ?_
                apply Exists.intro
                refine ⟨fun sv w' hw' hfa => ?_, ?_⟩
                · obtain ⟨_, f1, -⟩ := hfa
                  replace f1 : sv 1 = _ := f1
                  try dsimp only at f1
                  refine ⟨by simp [Region.wanted, yielded, putsL, Act.put, f1], ?_⟩
                  simp only [putsL]
                  change quietTo _ _ _ _ (Sem.run _ (execOp (Act.eval (Act.put (Act.put _ (some 33) (sv 1)) (some 32) (sv 0))) _) _)
                  try simp only [Act.put, List.setIfInBounds_toArray, List.set_cons_succ, List.set_cons_zero]
                  simp [go_sem, quietTo, Ext.refl, f1]
                  all_goals first
                    | rfl
                refine fac_quiet 4 rfl rfl rfl (fun _ _ h _ => h) rfl rfl ?_
                apply Exists.intro
                refine ⟨fun sv w' hw' hfa => ?_, ?_⟩
                · obtain ⟨_, f1, f3, -⟩ := hfa
                  replace f1 : sv 1 = _ := f1
                  try dsimp only at f1
                  replace f3 : sv 3 = _ := f3
                  try dsimp only at f3
                  obtain ⟨hc, hf, hz9⟩ := (hEw.drew.trans hw').walk; obtain ⟨hc2, hf2, hz8⟩ := ((Ext.refl _).drew.trans hw').walk; have y0 := (hc _ (off + j * 7) hbw).trans d0; have y2 := (hc _ (off + j * 7 + 2) hbw).trans d2; have x0 := (hc2 _ 0 hX2.lt).trans (hX2.cell 0); have x2 := (hc2 _ 2 hX2.lt).trans (hX2.cell 2)
                  refine ⟨by simp [Region.wanted, yielded, putsL, Act.put, f1, f3], ?_⟩
                  simp only [putsL]
                  change quietTo _ _ _ _ (Sem.run _ (execOp (Act.eval (Act.put (Act.put (Act.put _ (some 35) (sv 3)) (some 33) (sv 1)) (some 32) (sv 0))) _) _)
                  try simp only [Act.put, List.setIfInBounds_toArray, List.set_cons_succ, List.set_cons_zero]
                  simp [go_sem, quietTo, Ext.refl, ↓IntWalk.iteOmega, f1, f3, hwj]
                  all_goals try simp (disch := omega) only [IntWalk.i64_in]
                  all_goals first
                    | rfl
                refine fac_quiet 5 rfl rfl rfl (fun _ _ h _ => h) rfl rfl ?_
                apply Exists.intro
                refine ⟨fun sv w' hw' hfa => ?_, ?_⟩
                · obtain ⟨_, f1, f2, _, f4, -⟩ := hfa
                  replace f1 : sv 1 = _ := f1
                  try dsimp only at f1
                  replace f2 : sv 2 = _ := f2
                  try dsimp only at f2
                  replace f4 : sv 4 = _ := f4
                  try dsimp only at f4
                  obtain ⟨hc, hf, hz9⟩ := (hEw.drew.trans hw').walk; obtain ⟨hc2, hf2, hz8⟩ := ((Ext.refl _).drew.trans hw').walk; have y0 := (hc _ (off + j * 7) hbw).trans d0; have y2 := (hc _ (off + j * 7 + 2) hbw).trans d2; have x0 := (hc2 _ 0 hX2.lt).trans (hX2.cell 0); have x2 := (hc2 _ 2 hX2.lt).trans (hX2.cell 2)
                  refine ⟨by simp [Region.wanted, yielded, putsL, Act.put, f1, f2, f4], ?_⟩
                  simp only [putsL]
                  change quietTo _ _ _ _ (Sem.run _ (execOp (Act.eval (Act.put (Act.put (Act.put (Act.put (Act.put _ (some 36) (sv 4)) (some 35) (sv 3)) (some 34) (sv 2)) (some 33) (sv 1)) (some 32) (sv 0))) _) _)
                  try simp only [Act.put, List.setIfInBounds_toArray, List.set_cons_succ, List.set_cons_zero]
                  simp [go_sem, quietTo, Ext.refl, ↓IntWalk.iteOmega, f1, f2, f4, hjI]
                  all_goals try simp (disch := omega) only [IntWalk.i64_in]
                  all_goals first
                    | rfl
                refine fac_quiet 6 rfl rfl rfl (fun _ _ h _ => h) rfl rfl ?_
                apply Exists.intro
                refine ⟨fun sv w' hw' hfa => ?_, ?_⟩
                · obtain ⟨_, f1, _, _, _, f5, -⟩ := hfa
                  replace f1 : sv 1 = _ := f1
                  try dsimp only at f1
                  replace f5 : sv 5 = _ := f5
                  try dsimp only at f5
                  refine ⟨by simp [Region.wanted, yielded, putsL, Act.put, f1, f5], ?_⟩
                  simp only [putsL]
                  change quietTo _ _ _ _ (Sem.run _ (execOp (Act.eval (Act.put (Act.put (Act.put (Act.put (Act.put (Act.put _ (some 37) (sv 5)) (some 36) (sv 4)) (some 35) (sv 3)) (some 34) (sv 2)) (some 33) (sv 1)) (some 32) (sv 0))) _) _)
                  try simp only [Act.put, List.setIfInBounds_toArray, List.set_cons_succ, List.set_cons_zero]
                  simp [go_sem, quietTo, Ext.refl, f1, f5]
                  all_goals first
                    | rfl
                refine fac_quiet 7 rfl rfl rfl (fun _ _ h _ => h) rfl rfl ?_
                apply Exists.intro
                refine ⟨fun sv w' hw' hfa => ?_, ?_⟩
                · obtain ⟨_, f1, _, _, _, _, f6, -⟩ := hfa
                  replace f1 : sv 1 = _ := f1
                  try dsimp only at f1
                  replace f6 : sv 6 = _ := f6
                  try dsimp only at f6
                  obtain ⟨hc, hf, hz9⟩ := (hEw.drew.trans hw').walk; obtain ⟨hc2, hf2, hz8⟩ := ((Ext.refl _).drew.trans hw').walk; have y0 := (hc _ (off + j * 7) hbw).trans d0; have y2 := (hc _ (off + j * 7 + 2) hbw).trans d2; have x0 := (hc2 _ 0 hX2.lt).trans (hX2.cell 0); have x2 := (hc2 _ 2 hX2.lt).trans (hX2.cell 2)
                  refine ⟨by simp [Region.wanted, yielded, putsL, Act.put, f1, f6], ?_⟩
                  simp only [putsL]
                  change quietTo _ _ _ _ (Sem.run _ (execOp (Act.eval (Act.put (Act.put (Act.put (Act.put (Act.put (Act.put (Act.put _ (some 38) (sv 6)) (some 37) (sv 5)) (some 36) (sv 4)) (some 35) (sv 3)) (some 34) (sv 2)) (some 33) (sv 1)) (some 32) (sv 0))) _) _)
                  try simp only [Act.put, List.setIfInBounds_toArray, List.set_cons_succ, List.set_cons_zero]
                  simp [go_sem, quietTo, Ext.refl, ↓IntWalk.iteOmega, f1, f6, y0]
                  all_goals try simp (disch := omega) only [IntWalk.i64_in]
                  all_goals first
                    | rfl
                refine fac_quiet 8 rfl rfl rfl (fun _ _ h _ => h) rfl rfl ?_
                apply Exists.intro
                refine ⟨fun sv w' hw' hfa => ?_, ?_⟩
                · obtain ⟨_, f1, -⟩ := hfa
                  replace f1 : sv 1 = _ := f1
                  try dsimp only at f1
                  refine ⟨by simp [Region.wanted, yielded, putsL, Act.put, f1], ?_⟩
                  simp only [putsL]
                  change quietTo _ _ _ _ (Sem.run _ (execOp (Act.eval (Act.put (Act.put _ (some 33) (sv 1)) (some 32) (sv 0))) _) _)
                  try simp only [Act.put, List.setIfInBounds_toArray, List.set_cons_succ, List.set_cons_zero]
                  simp [go_sem, quietTo, Ext.refl, f1]
                  all_goals first
                    | rfl
                refine fac_quiet 9 rfl rfl rfl (fun _ _ h _ => h) rfl rfl ?_
                apply Exists.intro
                refine ⟨fun sv w' hw' hfa => ?_, ?_⟩
                · obtain ⟨_, f1, f8, -⟩ := hfa
                  replace f1 : sv 1 = _ := f1
                  try dsimp only at f1
                  replace f8 : sv 8 = _ := f8
                  try dsimp only at f8
                  obtain ⟨hc, hf, hz9⟩ := (hEw.drew.trans hw').walk; obtain ⟨hc2, hf2, hz8⟩ := ((Ext.refl _).drew.trans hw').walk; have y0 := (hc _ (off + j * 7) hbw).trans d0; have y2 := (hc _ (off + j * 7 + 2) hbw).trans d2; have x0 := (hc2 _ 0 hX2.lt).trans (hX2.cell 0); have x2 := (hc2 _ 2 hX2.lt).trans (hX2.cell 2)
                  refine ⟨by simp [Region.wanted, yielded, putsL, Act.put, f1, f8], ?_⟩
                  simp only [putsL]
                  change quietTo _ _ _ _ (Sem.run _ (execOp (Act.eval (Act.put (Act.put (Act.put _ (some 40) (sv 8)) (some 33) (sv 1)) (some 32) (sv 0))) _) _)
                  try simp only [Act.put, List.setIfInBounds_toArray, List.set_cons_succ, List.set_cons_zero]
                  simp [go_sem, quietTo, Ext.refl, ↓IntWalk.iteOmega, f1, f8, x0]
                  all_goals try simp (disch := omega) only [IntWalk.i64_in]
                  all_goals first
                    | rfl
                refine fac_quiet 10 rfl rfl rfl (fun _ _ h _ => h) rfl rfl ?_
                apply Exists.intro
                refine ⟨fun sv w' hw' hfa => ?_, ?_⟩
                · obtain ⟨_, f1, _, _, _, _, _, f7, _, f9, -⟩ := hfa
                  replace f1 : sv 1 = _ := f1
                  try dsimp only at f1
                  replace f7 : sv 7 = _ := f7
                  try dsimp only at f7
                  replace f9 : sv 9 = _ := f9
                  try dsimp only at f9
                  obtain ⟨hc, hf, hz9⟩ := (hEw.drew.trans hw').walk; obtain ⟨hc2, hf2, hz8⟩ := ((Ext.refl _).drew.trans hw').walk; have y0 := (hc _ (off + j * 7) hbw).trans d0; have y2 := (hc _ (off + j * 7 + 2) hbw).trans d2; have x0 := (hc2 _ 0 hX2.lt).trans (hX2.cell 0); have x2 := (hc2 _ 2 hX2.lt).trans (hX2.cell 2)
                  refine ⟨by simp [Region.wanted, yielded, putsL, Act.put, f1, f7, f9], ?_⟩
                  simp only [putsL]
                  change quietTo _ _ _ _ (Sem.run _ (execOp (Act.eval (Act.put (Act.put (Act.put (Act.put (Act.put (Act.put (Act.put (Act.put (Act.put (Act.put _ (some 41) (sv 9)) (some 40) (sv 8)) (some 39) (sv 7)) (some 38) (sv 6)) (some 37) (sv 5)) (some 36) (sv 4)) (some 35) (sv 3)) (some 34) (sv 2)) (some 33) (sv 1)) (some 32) (sv 0))) _) _)
                  try simp only [Act.put, List.setIfInBounds_toArray, List.set_cons_succ, List.set_cons_zero]
                  simp [go_sem, quietTo, Ext.refl, ↓IntWalk.iteOmega, f1, f7, f9, hne2]
                  all_goals try simp (disch := omega) only [IntWalk.i64_in]
                  all_goals first
                    | rfl
                refine fac_quiet 11 rfl rfl rfl (fun _ _ h _ => h) rfl rfl ?_
                apply Exists.intro
                refine ⟨fun sv w' hw' hfa => ?_, ?_⟩
                · obtain ⟨_, f1, _, _, _, _, _, _, _, _, f10, -⟩ := hfa
                  replace f1 : sv 1 = _ := f1
                  try dsimp only at f1
                  replace f10 : sv 10 = _ := f10
                  try dsimp only at f10
                  refine ⟨by simp [Region.wanted, yielded, putsL, Act.put, f1, f10], ?_⟩
                  simp only [putsL]
                  change quietTo _ _ _ _ (Sem.run _ (execOp (Act.eval (Act.put (Act.put (Act.put (Act.put (Act.put (Act.put (Act.put (Act.put (Act.put (Act.put (Act.put _ (some 42) (sv 10)) (some 41) (sv 9)) (some 40) (sv 8)) (some 39) (sv 7)) (some 38) (sv 6)) (some 37) (sv 5)) (some 36) (sv 4)) (some 35) (sv 3)) (some 34) (sv 2)) (some 33) (sv 1)) (some 32) (sv 0))) _) _)
                  try simp only [Act.put, List.setIfInBounds_toArray, List.set_cons_succ, List.set_cons_zero]
                  simp [go_sem, quietTo, Ext.refl, f1, f10]
                  all_goals first
                    | rfl
                refine fac_quiet 12 rfl rfl rfl (fun _ _ h _ => h) rfl rfl ?_
                apply Exists.intro
                refine ⟨fun sv w' hw' hfa => ?_, ?_⟩
                · obtain ⟨_, _, _, _, _, _, _, _, _, _, _, f11, -⟩ := hfa
                  replace f11 : sv 11 = _ := f11
                  try dsimp only at f11
                  refine ⟨by simp [Region.wanted, yielded, putsL, Act.put, f11], ?_⟩
                  simp only [putsL]
                  change quietTo _ _ _ _ (Sem.run _ (execOp (Act.eval (Act.put (Act.put (Act.put (Act.put (Act.put (Act.put (Act.put (Act.put (Act.put (Act.put (Act.put (Act.put _ (some 43) (sv 11)) (some 42) (sv 10)) (some 41) (sv 9)) (some 40) (sv 8)) (some 39) (sv 7)) (some 38) (sv 6)) (some 37) (sv 5)) (some 36) (sv 4)) (some 35) (sv 3)) (some 34) (sv 2)) (some 33) (sv 1)) (some 32) (sv 0))) _) _)
                  try simp only [Act.put, List.setIfInBounds_toArray, List.set_cons_succ, List.set_cons_zero]
                  simp [go_sem, quietTo, Ext.refl, f11]
                  all_goals first
                    | rfl
                refine fac_quiet 13 rfl rfl rfl (fun _ _ h _ => h) rfl rfl ?_
                apply Exists.intro
                refine ⟨fun sv w' hw' hfa => ?_, ?_⟩
                · obtain ⟨_, _, _, _, _, _, _, _, _, _, _, f11, f12, -⟩ := hfa
                  replace f11 : sv 11 = _ := f11
                  try dsimp only at f11
                  replace f12 : sv 12 = _ := f12
                  try dsimp only at f12
                  obtain ⟨hc, hf, hz9⟩ := (hEw.drew.trans hw').walk; obtain ⟨hc2, hf2, hz8⟩ := ((Ext.refl _).drew.trans hw').walk; have y0 := (hc _ (off + j * 7) hbw).trans d0; have y2 := (hc _ (off + j * 7 + 2) hbw).trans d2; have x0 := (hc2 _ 0 hX2.lt).trans (hX2.cell 0); have x2 := (hc2 _ 2 hX2.lt).trans (hX2.cell 2)
                  refine ⟨by simp [Region.wanted, yielded, putsL, Act.put, f11, f12], ?_⟩
                  simp only [putsL]
                  change quietTo _ _ _ _ (Sem.run _ (execOp (Act.eval (Act.put (Act.put (Act.put (Act.put (Act.put (Act.put (Act.put (Act.put (Act.put (Act.put (Act.put (Act.put (Act.put _ (some 44) (sv 12)) (some 43) (sv 11)) (some 42) (sv 10)) (some 41) (sv 9)) (some 40) (sv 8)) (some 39) (sv 7)) (some 38) (sv 6)) (some 37) (sv 5)) (some 36) (sv 4)) (some 35) (sv 3)) (some 34) (sv 2)) (some 33) (sv 1)) (some 32) (sv 0))) _) _)
                  try simp only [Act.put, List.setIfInBounds_toArray, List.set_cons_succ, List.set_cons_zero]
                  simp [go_sem, quietTo, Ext.refl, ↓IntWalk.iteOmega, f11, f12, x2]
                  all_goals try simp (disch := omega) only [IntWalk.i64_in]
                  all_goals first
                    | rfl
                refine fac_quiet 14 rfl rfl rfl (fun _ _ h _ => h) rfl rfl ?_
                apply Exists.intro
                refine ⟨fun sv w' hw' hfa => ?_, ?_⟩
                · obtain ⟨_, _, _, _, _, _, _, _, _, _, _, f11, -⟩ := hfa
                  replace f11 : sv 11 = _ := f11
                  try dsimp only at f11
                  refine ⟨by simp [Region.wanted, yielded, putsL, Act.put, f11], ?_⟩
                  simp only [putsL]
                  change quietTo _ _ _ _ (Sem.run _ (execOp (Act.eval (Act.put (Act.put (Act.put (Act.put (Act.put (Act.put (Act.put (Act.put (Act.put (Act.put (Act.put (Act.put _ (some 43) (sv 11)) (some 42) (sv 10)) (some 41) (sv 9)) (some 40) (sv 8)) (some 39) (sv 7)) (some 38) (sv 6)) (some 37) (sv 5)) (some 36) (sv 4)) (some 35) (sv 3)) (some 34) (sv 2)) (some 33) (sv 1)) (some 32) (sv 0))) _) _)
                  try simp only [Act.put, List.setIfInBounds_toArray, List.set_cons_succ, List.set_cons_zero]
                  simp [go_sem, quietTo, Ext.refl, f11]
                  all_goals first
                    | rfl
                refine fac_quiet 15 rfl rfl rfl (fun _ _ h _ => h) rfl rfl ?_
                apply Exists.intro
                refine ⟨fun sv w' hw' hfa => ?_, ?_⟩
                · obtain ⟨_, _, _, _, _, _, _, _, _, _, _, f11, -⟩ := hfa
                  replace f11 : sv 11 = _ := f11
                  try dsimp only at f11
                  refine ⟨by simp [Region.wanted, yielded, putsL, Act.put, f11], ?_⟩
                  simp only [putsL]
                  change quietTo _ _ _ _ (Sem.run _ (execOp (Act.eval (Act.put (Act.put (Act.put (Act.put (Act.put (Act.put (Act.put (Act.put (Act.put (Act.put (Act.put (Act.put _ (some 43) (sv 11)) (some 42) (sv 10)) (some 41) (sv 9)) (some 40) (sv 8)) (some 39) (sv 7)) (some 38) (sv 6)) (some 37) (sv 5)) (some 36) (sv 4)) (some 35) (sv 3)) (some 34) (sv 2)) (some 33) (sv 1)) (some 32) (sv 0))) _) _)
                  try simp only [Act.put, List.setIfInBounds_toArray, List.set_cons_succ, List.set_cons_zero]
                  simp [go_sem, quietTo, Ext.refl, f11]
                  all_goals first
                    | rfl
                refine fac_quiet 16 rfl rfl rfl (fun _ _ h _ => h) rfl rfl ?_
                apply Exists.intro
                refine ⟨fun sv w' hw' hfa => ?_, ?_⟩
                · obtain ⟨_, _, _, _, _, _, _, _, _, _, _, f11, f15, -⟩ := hfa
                  replace f11 : sv 11 = _ := f11
                  try dsimp only at f11
                  replace f15 : sv 15 = _ := f15
                  try dsimp only at f15
                  obtain ⟨hc, hf, hz9⟩ := (hEw.drew.trans hw').walk; obtain ⟨hc2, hf2, hz8⟩ := ((Ext.refl _).drew.trans hw').walk; have y0 := (hc _ (off + j * 7) hbw).trans d0; have y2 := (hc _ (off + j * 7 + 2) hbw).trans d2; have x0 := (hc2 _ 0 hX2.lt).trans (hX2.cell 0); have x2 := (hc2 _ 2 hX2.lt).trans (hX2.cell 2)
                  refine ⟨by simp [Region.wanted, yielded, putsL, Act.put, f11, f15], ?_⟩
                  simp only [putsL]
                  change quietTo _ _ _ _ (Sem.run _ (execOp (Act.eval (Act.put (Act.put (Act.put (Act.put (Act.put (Act.put (Act.put (Act.put (Act.put (Act.put (Act.put (Act.put (Act.put _ (some 47) (sv 15)) (some 43) (sv 11)) (some 42) (sv 10)) (some 41) (sv 9)) (some 40) (sv 8)) (some 39) (sv 7)) (some 38) (sv 6)) (some 37) (sv 5)) (some 36) (sv 4)) (some 35) (sv 3)) (some 34) (sv 2)) (some 33) (sv 1)) (some 32) (sv 0))) _) _)
                  try simp only [Act.put, List.setIfInBounds_toArray, List.set_cons_succ, List.set_cons_zero]
                  simp [go_sem, quietTo, Ext.refl, ↓IntWalk.iteOmega, f11, f15, hwj]
                  all_goals try simp (disch := omega) only [IntWalk.i64_in]
                  all_goals first
                    | rfl
                refine fac_quiet 17 rfl rfl rfl (fun _ _ h _ => h) rfl rfl ?_
                apply Exists.intro
                refine ⟨fun sv w' hw' hfa => ?_, ?_⟩
                · obtain ⟨_, _, _, _, _, _, _, _, _, _, _, f11, f14, _, f16, -⟩ := hfa
                  replace f11 : sv 11 = _ := f11
                  try dsimp only at f11
                  replace f14 : sv 14 = _ := f14
                  try dsimp only at f14
                  replace f16 : sv 16 = _ := f16
                  try dsimp only at f16
                  obtain ⟨hc, hf, hz9⟩ := (hEw.drew.trans hw').walk; obtain ⟨hc2, hf2, hz8⟩ := ((Ext.refl _).drew.trans hw').walk; have y0 := (hc _ (off + j * 7) hbw).trans d0; have y2 := (hc _ (off + j * 7 + 2) hbw).trans d2; have x0 := (hc2 _ 0 hX2.lt).trans (hX2.cell 0); have x2 := (hc2 _ 2 hX2.lt).trans (hX2.cell 2)
                  refine ⟨by simp [Region.wanted, yielded, putsL, Act.put, f11, f14, f16], ?_⟩
                  simp only [putsL]
                  change quietTo _ _ _ _ (Sem.run _ (execOp (Act.eval (Act.put (Act.put (Act.put (Act.put (Act.put (Act.put (Act.put (Act.put (Act.put (Act.put (Act.put (Act.put (Act.put (Act.put (Act.put _ (some 48) (sv 16)) (some 47) (sv 15)) (some 46) (sv 14)) (some 43) (sv 11)) (some 42) (sv 10)) (some 41) (sv 9)) (some 40) (sv 8)) (some 39) (sv 7)) (some 38) (sv 6)) (some 37) (sv 5)) (some 36) (sv 4)) (some 35) (sv 3)) (some 34) (sv 2)) (some 33) (sv 1)) (some 32) (sv 0))) _) _)
                  try simp only [Act.put, List.setIfInBounds_toArray, List.set_cons_succ, List.set_cons_zero]
                  simp [go_sem, quietTo, Ext.refl, ↓IntWalk.iteOmega, f11, f14, f16, hjI]
                  all_goals try simp (disch := omega) only [IntWalk.i64_in]
                  all_goals first
                    | rfl
                refine fac_quiet 18 rfl rfl rfl (fun _ _ h _ => h) rfl rfl ?_
                apply Exists.intro
                refine ⟨fun sv w' hw' hfa => ?_, ?_⟩
                · obtain ⟨_, _, _, _, _, _, _, _, _, _, _, f11, _, _, _, f17, -⟩ := hfa
                  replace f11 : sv 11 = _ := f11
                  try dsimp only at f11
                  replace f17 : sv 17 = _ := f17
                  try dsimp only at f17
                  refine ⟨by simp [Region.wanted, yielded, putsL, Act.put, f11, f17], ?_⟩
                  simp only [putsL]
                  change quietTo _ _ _ _ (Sem.run _ (execOp (Act.eval (Act.put (Act.put (Act.put (Act.put (Act.put (Act.put (Act.put (Act.put (Act.put (Act.put (Act.put (Act.put (Act.put (Act.put (Act.put (Act.put _ (some 49) (sv 17)) (some 48) (sv 16)) (some 47) (sv 15)) (some 46) (sv 14)) (some 43) (sv 11)) (some 42) (sv 10)) (some 41) (sv 9)) (some 40) (sv 8)) (some 39) (sv 7)) (some 38) (sv 6)) (some 37) (sv 5)) (some 36) (sv 4)) (some 35) (sv 3)) (some 34) (sv 2)) (some 33) (sv 1)) (some 32) (sv 0))) _) _)
                  try simp only [Act.put, List.setIfInBounds_toArray, List.set_cons_succ, List.set_cons_zero]
                  simp [go_sem, quietTo, Ext.refl, f11, f17]
                  all_goals first
                    | rfl
                refine fac_quiet 19 rfl rfl rfl (fun _ _ h _ => h) rfl rfl ?_
                apply Exists.intro
                refine ⟨fun sv w' hw' hfa => ?_, ?_⟩
                · obtain ⟨_, _, _, _, _, _, _, _, _, _, _, f11, _, _, _, _, f18, -⟩ := hfa
                  replace f11 : sv 11 = _ := f11
                  try dsimp only at f11
                  replace f18 : sv 18 = _ := f18
                  try dsimp only at f18
                  obtain ⟨hc, hf, hz9⟩ := (hEw.drew.trans hw').walk; obtain ⟨hc2, hf2, hz8⟩ := ((Ext.refl _).drew.trans hw').walk; have y0 := (hc _ (off + j * 7) hbw).trans d0; have y2 := (hc _ (off + j * 7 + 2) hbw).trans d2; have x0 := (hc2 _ 0 hX2.lt).trans (hX2.cell 0); have x2 := (hc2 _ 2 hX2.lt).trans (hX2.cell 2)
                  refine ⟨by simp [Region.wanted, yielded, putsL, Act.put, f11, f18], ?_⟩
                  simp only [putsL]
                  change quietTo _ _ _ _ (Sem.run _ (execOp (Act.eval (Act.put (Act.put (Act.put (Act.put (Act.put (Act.put (Act.put (Act.put (Act.put (Act.put (Act.put (Act.put (Act.put (Act.put (Act.put (Act.put (Act.put _ (some 50) (sv 18)) (some 49) (sv 17)) (some 48) (sv 16)) (some 47) (sv 15)) (some 46) (sv 14)) (some 43) (sv 11)) (some 42) (sv 10)) (some 41) (sv 9)) (some 40) (sv 8)) (some 39) (sv 7)) (some 38) (sv 6)) (some 37) (sv 5)) (some 36) (sv 4)) (some 35) (sv 3)) (some 34) (sv 2)) (some 33) (sv 1)) (some 32) (sv 0))) _) _)
                  try simp only [Act.put, List.setIfInBounds_toArray, List.set_cons_succ, List.set_cons_zero]
                  simp [go_sem, quietTo, Ext.refl, ↓IntWalk.iteOmega, f11, f18, y2]
                  all_goals try simp (disch := omega) only [IntWalk.i64_in]
                  all_goals first
                    | rfl
                refine fac_quiet 20 rfl rfl rfl (fun _ _ h _ => h) rfl rfl ?_
                apply Exists.intro
                refine ⟨fun sv w' hw' hfa => ?_, ?_⟩
                · obtain ⟨_, _, _, _, _, _, _, _, _, _, _, f11, _, f13, _, _, _, _, _, f19, -⟩ := hfa
                  replace f11 : sv 11 = _ := f11
                  try dsimp only at f11
                  replace f13 : sv 13 = _ := f13
                  try dsimp only at f13
                  replace f19 : sv 19 = _ := f19
                  try dsimp only at f19
                  obtain ⟨hc, hf, hz9⟩ := (hEw.drew.trans hw').walk; obtain ⟨hc2, hf2, hz8⟩ := ((Ext.refl _).drew.trans hw').walk; have y0 := (hc _ (off + j * 7) hbw).trans d0; have y2 := (hc _ (off + j * 7 + 2) hbw).trans d2; have x0 := (hc2 _ 0 hX2.lt).trans (hX2.cell 0); have x2 := (hc2 _ 2 hX2.lt).trans (hX2.cell 2)
                  refine ⟨by simp [Region.wanted, yielded, putsL, Act.put, f11, f13, f19], ?_⟩
                  simp only [putsL]
                  change quietTo _ _ _ _ (Sem.run _ (execOp (Act.eval (Act.put (Act.put (Act.put (Act.put (Act.put (Act.put (Act.put (Act.put (Act.put (Act.put (Act.put (Act.put (Act.put (Act.put (Act.put (Act.put (Act.put (Act.put (Act.put (Act.put _ (some 51) (sv 19)) (some 50) (sv 18)) (some 49) (sv 17)) (some 48) (sv 16)) (some 47) (sv 15)) (some 46) (sv 14)) (some 45) (sv 13)) (some 44) (sv 12)) (some 43) (sv 11)) (some 42) (sv 10)) (some 41) (sv 9)) (some 40) (sv 8)) (some 39) (sv 7)) (some 38) (sv 6)) (some 37) (sv 5)) (some 36) (sv 4)) (some 35) (sv 3)) (some 34) (sv 2)) (some 33) (sv 1)) (some 32) (sv 0))) _) _)
                  try simp only [Act.put, List.setIfInBounds_toArray, List.set_cons_succ, List.set_cons_zero]
                  simp [go_sem, quietTo, Ext.refl, ↓IntWalk.iteOmega, f11, f13, f19, hat]
                  all_goals try simp (disch := omega) only [IntWalk.i64_in]
                  all_goals first
                    | rfl
                refine fac_quiet 21 rfl rfl rfl (fun _ _ h _ => h) rfl rfl ?_
                apply Exists.intro
                refine ⟨fun sv w' hw' hfa => ?_, ?_⟩
                · obtain ⟨_, f1, _, _, _, _, _, _, _, _, _, f11, _, _, _, _, _, _, _, _, f20, -⟩ := hfa
                  replace f1 : sv 1 = _ := f1
                  try dsimp only at f1
                  replace f11 : sv 11 = _ := f11
                  try dsimp only at f11
                  replace f20 : sv 20 = _ := f20
                  try dsimp only at f20
                  refine ⟨by simp [Region.wanted, yielded, putsL, Act.put, f1, f11, f20], ?_⟩
                  simp only [putsL]
                  change quietTo _ _ _ _ (Sem.run _ (execOp (Act.eval (Act.put (Act.put (Act.put (Act.put (Act.put (Act.put (Act.put (Act.put (Act.put (Act.put (Act.put (Act.put (Act.put (Act.put (Act.put (Act.put (Act.put (Act.put (Act.put (Act.put (Act.put _ (some 52) (sv 20)) (some 51) (sv 19)) (some 50) (sv 18)) (some 49) (sv 17)) (some 48) (sv 16)) (some 47) (sv 15)) (some 46) (sv 14)) (some 45) (sv 13)) (some 44) (sv 12)) (some 43) (sv 11)) (some 42) (sv 10)) (some 41) (sv 9)) (some 40) (sv 8)) (some 39) (sv 7)) (some 38) (sv 6)) (some 37) (sv 5)) (some 36) (sv 4)) (some 35) (sv 3)) (some 34) (sv 2)) (some 33) (sv 1)) (some 32) (sv 0))) _) _)
                  try simp only [Act.put, List.setIfInBounds_toArray, List.set_cons_succ, List.set_cons_zero]
                  simp [go_sem, quietTo, Ext.refl, ↓IntWalk.iteOmega, f1, f11, f20]
                  all_goals try simp (disch := omega) only [IntWalk.i64_in]
                  all_goals first
                    | rfl
                refine fac_quiet 22 rfl rfl rfl (fun _ _ h _ => h) rfl rfl ?_
                apply Exists.intro
                refine ⟨fun sv w' hw' hfa => ?_, ?_⟩
                · obtain ⟨_, f1, _, _, _, _, _, _, _, _, _, _, _, _, _, _, _, _, _, _, _, f21, -⟩ := hfa
                  replace f1 : sv 1 = _ := f1
                  try dsimp only at f1
                  replace f21 : sv 21 = _ := f21
                  try dsimp only at f21
                  refine ⟨rfl, ?_⟩
                  simp only [putsL]
                  change quietTo _ _ _ _ (Sem.run _ (execOp (Act.eval (Act.put (Act.put (Act.put (Act.put (Act.put (Act.put (Act.put (Act.put (Act.put (Act.put (Act.put (Act.put (Act.put (Act.put (Act.put (Act.put (Act.put (Act.put (Act.put (Act.put (Act.put (Act.put _ (some 53) (sv 21)) (some 52) (sv 20)) (some 51) (sv 19)) (some 50) (sv 18)) (some 49) (sv 17)) (some 48) (sv 16)) (some 47) (sv 15)) (some 46) (sv 14)) (some 45) (sv 13)) (some 44) (sv 12)) (some 43) (sv 11)) (some 42) (sv 10)) (some 41) (sv 9)) (some 40) (sv 8)) (some 39) (sv 7)) (some 38) (sv 6)) (some 37) (sv 5)) (some 36) (sv 4)) (some 35) (sv 3)) (some 34) (sv 2)) (some 33) (sv 1)) (some 32) (sv 0))) _) _)
                  try simp only [Act.put, List.setIfInBounds_toArray, List.set_cons_succ, List.set_cons_zero]
                  simp [go_sem, quietTo, Ext.refl, ↓IntWalk.iteOmega, f1, f21]
                  all_goals try simp (disch := omega) only [IntWalk.i64_in]
                  all_goals first
                    | rfl
                refine fac_quiet 23 rfl rfl rfl (fun _ _ h _ => h) rfl rfl ?_
                apply Exists.intro
                refine ⟨fun sv w' hw' hfa => ?_, ?_⟩
                · obtain ⟨_, _, _, _, _, _, _, _, _, _, _, _, _, _, _, _, _, _, _, _, _, _, f22, -⟩ := hfa
                  replace f22 : sv 22 = _ := f22
                  try dsimp only at f22
                  refine ⟨rfl, ?_⟩
                  simp only [putsL]
                  change quietTo _ _ _ _ (Sem.run _ (execOp (Act.eval (Act.put (Act.put (Act.put (Act.put (Act.put (Act.put (Act.put (Act.put (Act.put (Act.put (Act.put (Act.put (Act.put (Act.put (Act.put (Act.put (Act.put (Act.put (Act.put (Act.put (Act.put (Act.put (Act.put _ (some 54) (sv 22)) (some 53) (sv 21)) (some 52) (sv 20)) (some 51) (sv 19)) (some 50) (sv 18)) (some 49) (sv 17)) (some 48) (sv 16)) (some 47) (sv 15)) (some 46) (sv 14)) (some 45) (sv 13)) (some 44) (sv 12)) (some 43) (sv 11)) (some 42) (sv 10)) (some 41) (sv 9)) (some 40) (sv 8)) (some 39) (sv 7)) (some 38) (sv 6)) (some 37) (sv 5)) (some 36) (sv 4)) (some 35) (sv 3)) (some 34) (sv 2)) (some 33) (sv 1)) (some 32) (sv 0))) _) _)
                  try simp only [Act.put, List.setIfInBounds_toArray, List.set_cons_succ, List.set_cons_zero]
                  simp [go_sem, quietTo, Ext.refl, f22]
                  all_goals first
                    | rfl
                refine fac_nil fun xc wrc herc hfrc hcrc holdc hapc => ?_
                obtain ⟨f0, f1, f2, f3, f4, f5, f6, f7, f8, f9, f10, f11, f12, f13, f14, f15, f16, f17, f18, f19, f20, f21, f22, f23, -⟩ := hfrc
                replace f0 : xc 0 = _ := f0
                try dsimp only at f0
                replace f1 : xc 1 = _ := f1
                try dsimp only at f1
                replace f2 : xc 2 = _ := f2
                try dsimp only at f2
                replace f3 : xc 3 = _ := f3
                try dsimp only at f3
                replace f4 : xc 4 = _ := f4
                try dsimp only at f4
                replace f5 : xc 5 = _ := f5
                try dsimp only at f5
                replace f6 : xc 6 = _ := f6
                try dsimp only at f6
                replace f7 : xc 7 = _ := f7
                try dsimp only at f7
                replace f8 : xc 8 = _ := f8
                try dsimp only at f8
                replace f9 : xc 9 = _ := f9
                try dsimp only at f9
                replace f10 : xc 10 = _ := f10
                try dsimp only at f10
                replace f11 : xc 11 = _ := f11
                try dsimp only at f11
                replace f12 : xc 12 = _ := f12
                try dsimp only at f12
                replace f13 : xc 13 = _ := f13
                try dsimp only at f13
                replace f14 : xc 14 = _ := f14
                try dsimp only at f14
                replace f15 : xc 15 = _ := f15
                try dsimp only at f15
                replace f16 : xc 16 = _ := f16
                try dsimp only at f16
                replace f17 : xc 17 = _ := f17
                try dsimp only at f17
                replace f18 : xc 18 = _ := f18
                try dsimp only at f18
                replace f19 : xc 19 = _ := f19
                try dsimp only at f19
                replace f20 : xc 20 = _ := f20
                try dsimp only at f20
                replace f21 : xc 21 = _ := f21
                try dsimp only at f21
                replace f22 : xc 22 = _ := f22
                try dsimp only at f22
                replace f23 : xc 23 = _ := f23
                try dsimp only at f23
                change wpList _ _ _ _ (Act.put (Act.put (Act.put (Act.put (Act.put (Act.put (Act.put (Act.put (Act.put (Act.put (Act.put (Act.put (Act.put (Act.put (Act.put (Act.put (Act.put (Act.put (Act.put (Act.put (Act.put (Act.put (Act.put (Act.put _ (some 32) (xc 0)) (some 33) (xc 1)) (some 34) (xc 2)) (some 35) (xc 3)) (some 36) (xc 4)) (some 37) (xc 5)) (some 38) (xc 6)) (some 39) (xc 7)) (some 40) (xc 8)) (some 41) (xc 9)) (some 42) (xc 10)) (some 43) (xc 11)) (some 44) (xc 12)) (some 45) (xc 13)) (some 46) (xc 14)) (some 47) (xc 15)) (some 48) (xc 16)) (some 49) (xc 17)) (some 50) (xc 18)) (some 51) (xc 19)) (some 52) (xc 20)) (some 53) (xc 21)) (some 54) (xc 22)) (some 3) (xc 23)) _
                simp only [putsL, Nat.reduceAdd, List.drop_succ_cons, List.drop_zero, List.drop_nil, Act.put, List.setIfInBounds_toArray, List.set_cons_succ, List.set_cons_zero]
                try simp only [f0, f1, f2, f3, f4, f5, f6, f7, f8, f9, f10, f11, f12, f13, f14, f15, f16, f17, f18, f19, f20, f21, f22, f23]
                clear f0 f1 f2 f3 f4 f5 f6 f7 f8 f9 f10 f11 f12 f13 f14 f15 f16 f17 f18 f19 f20 f21 f22 f23
                clear holdc hapc
                clear hX2 d0 d2
                go_wp2
                go_roundw
                case rel =>
                  first
                    | exact ⟨k + 1, false, hlt, by go_num, rfl, hzs, fun e => (hf0.out rfl).succ (by rw [hlk.out, hne]; simp [hat]), (fun e => by cases e), hEw.trans ((Ext.refl _).drew.trans herc)⟩
                    | exact ⟨k + 1, true, hlt, by go_num, rfl, hzs, (fun e => by cases e), fun e => scan_late hlt (by rw [hlk.out, hne]; simp [hat]), hEw.trans ((Ext.refl _).drew.trans herc)⟩
                case measure => simp [intOf]; omega
          · skip
            refine wp_region_facts [] [([], false, false), ([0], false, false), ([0, 1], false, false), ([0, 1], false, false), ([0, 1, 3], false, false), ([0, 1, 2, 3, 4], false, false), ([0, 1, 2, 3, 4, 5], false, false), ([0, 1, 2, 3, 4, 5, 6], false, false), ([0, 1], false, false), ([0, 1, 8], false, false), ([0, 1, 2, 3, 4, 5, 6, 7, 8, 9], false, false), ([0, 1, 2, 3, 4, 5, 6, 7, 8, 9, 10], false, false), ([0, 1, 2, 3, 4, 5, 6, 7, 8, 9, 10, 11], false, false), ([0, 1, 2, 3, 4, 5, 6, 7, 8, 9, 10, 11, 12], false, false), ([0, 1, 2, 3, 4, 5, 6, 7, 8, 9, 10, 11], false, false), ([0, 1, 2, 3, 4, 5, 6, 7, 8, 9, 10, 11], false, false), ([0, 1, 2, 3, 4, 5, 6, 7, 8, 9, 10, 11, 15], false, false), ([0, 1, 2, 3, 4, 5, 6, 7, 8, 9, 10, 11, 14, 15, 16], false, false), ([0, 1, 2, 3, 4, 5, 6, 7, 8, 9, 10, 11, 14, 15, 16, 17], false, false), ([0, 1, 2, 3, 4, 5, 6, 7, 8, 9, 10, 11, 14, 15, 16, 17, 18], false, false), ([0, 1, 2, 3, 4, 5, 6, 7, 8, 9, 10, 11, 12, 13, 14, 15, 16, 17, 18, 19], false, false), ([0, 1, 2, 3, 4, 5, 6, 7, 8, 9, 10, 11, 12, 13, 14, 15, 16, 17, 18, 19, 20], false, false), ([0, 1, 2, 3, 4, 5, 6, 7, 8, 9, 10, 11, 12, 13, 14, 15, 16, 17, 18, 19, 20, 21], false, false), ([0, 1, 2, 3, 4, 5, 6, 7, 8, 9, 10, 11, 12, 13, 14, 15, 16, 17, 18, 19, 20, 21, 22], false, false)] (Ext) Ext (fun _ => True) (by kernel_rfl) (by kernel_rfl) Ext.refl (fun _ _ _ => Ext.trans) (fun _ _ h => h) (fun _ _ h => h.size) (fun _ _ h _ => h) trivial ?_
            dsimp only [List.length_cons, List.length_nil, List.drop_succ_cons, List.drop_zero, List.drop_nil]
            refine fac_quiet 0 rfl rfl rfl (fun _ _ h _ => h) rfl rfl ?_
            apply Exists.intro
            refine ⟨fun sv w' hw' hfa => ?_, ?_⟩
            · refine ⟨rfl, ?_⟩
              simp only [putsL]
              change quietTo _ _ _ _ (Sem.run _ (execOp (Act.eval _) _) _)
              try simp only [Act.put, List.setIfInBounds_toArray, List.set_cons_succ, List.set_cons_zero]
              simp [go_sem, quietTo, Ext.refl]
              all_goals first
                | rfl
            refine fac_quiet 1 rfl rfl rfl (fun _ _ h _ => h) rfl rfl ?_
            apply Exists.intro
            refine ⟨fun sv w' hw' hfa => ?_, ?_⟩
            · obtain ⟨f0, -⟩ := hfa
              replace f0 : sv 0 = _ := f0
              try dsimp only at f0
              refine ⟨rfl, ?_⟩
              simp only [putsL]
              change quietTo _ _ _ _ (Sem.run _ (execOp (Act.eval (Act.put _ (some 32) (sv 0))) _) _)
              try simp only [Act.put, List.setIfInBounds_toArray, List.set_cons_succ, List.set_cons_zero]
              simp [go_sem, quietTo, Ext.refl, f0]
              all_goals first
                | rfl
            refine fac_skip 2 rfl rfl rfl (fun _ _ h _ => h) Ext.refl ?_ ?_
            · intro sv w' hw' hfa
              obtain ⟨f0, f1, -⟩ := hfa
              replace f0 : sv 0 = _ := f0
              try dsimp only at f0
              replace f1 : sv 1 = _ := f1
              try dsimp only at f1
              simp [Region.wanted, yielded, putsL, Act.put, f1]
            refine fac_skip 3 rfl rfl rfl (fun _ _ h _ => h) Ext.refl ?_ ?_
            · intro sv w' hw' hfa
              obtain ⟨f0, f1, -⟩ := hfa
              replace f0 : sv 0 = _ := f0
              try dsimp only at f0
              replace f1 : sv 1 = _ := f1
              try dsimp only at f1
              simp [Region.wanted, yielded, putsL, Act.put, f1]
            refine fac_skip 4 rfl rfl rfl (fun _ _ h _ => h) Ext.refl ?_ ?_
            · intro sv w' hw' hfa
              obtain ⟨f0, f1, f3, -⟩ := hfa
              replace f0 : sv 0 = _ := f0
              try dsimp only at f0
              replace f1 : sv 1 = _ := f1
              try dsimp only at f1
              replace f3 : sv 3 = _ := f3
              try dsimp only at f3
              simp [Region.wanted, yielded, putsL, Act.put, f1, f3]
            refine fac_skip 5 rfl rfl rfl (fun _ _ h _ => h) Ext.refl ?_ ?_
            · intro sv w' hw' hfa
              obtain ⟨f0, f1, f2, f3, f4, -⟩ := hfa
              replace f0 : sv 0 = _ := f0
              try dsimp only at f0
              replace f1 : sv 1 = _ := f1
              try dsimp only at f1
              replace f2 : sv 2 = _ := f2
              try dsimp only at f2
              replace f3 : sv 3 = _ := f3
              try dsimp only at f3
              replace f4 : sv 4 = _ := f4
              try dsimp only at f4
              simp [Region.wanted, yielded, putsL, Act.put, f1, f2, f4]
            refine fac_skip 6 rfl rfl rfl (fun _ _ h _ => h) Ext.refl ?_ ?_
            · intro sv w' hw' hfa
              obtain ⟨f0, f1, f2, f3, f4, f5, -⟩ := hfa
              replace f0 : sv 0 = _ := f0
              try dsimp only at f0
              replace f1 : sv 1 = _ := f1
              try dsimp only at f1
              replace f2 : sv 2 = _ := f2
              try dsimp only at f2
              replace f3 : sv 3 = _ := f3
              try dsimp only at f3
              replace f4 : sv 4 = _ := f4
              try dsimp only at f4
              replace f5 : sv 5 = _ := f5
              try dsimp only at f5
              simp [Region.wanted, yielded, putsL, Act.put, f1, f5]
            refine fac_skip 7 rfl rfl rfl (fun _ _ h _ => h) Ext.refl ?_ ?_
            · intro sv w' hw' hfa
              obtain ⟨f0, f1, f2, f3, f4, f5, f6, -⟩ := hfa
              replace f0 : sv 0 = _ := f0
              try dsimp only at f0
              replace f1 : sv 1 = _ := f1
              try dsimp only at f1
              replace f2 : sv 2 = _ := f2
              try dsimp only at f2
              replace f3 : sv 3 = _ := f3
              try dsimp only at f3
              replace f4 : sv 4 = _ := f4
              try dsimp only at f4
              replace f5 : sv 5 = _ := f5
              try dsimp only at f5
              replace f6 : sv 6 = _ := f6
              try dsimp only at f6
              simp [Region.wanted, yielded, putsL, Act.put, f1, f6]
            refine fac_skip 8 rfl rfl rfl (fun _ _ h _ => h) Ext.refl ?_ ?_
            · intro sv w' hw' hfa
              obtain ⟨f0, f1, -⟩ := hfa
              replace f0 : sv 0 = _ := f0
              try dsimp only at f0
              replace f1 : sv 1 = _ := f1
              try dsimp only at f1
              simp [Region.wanted, yielded, putsL, Act.put, f1]
            refine fac_skip 9 rfl rfl rfl (fun _ _ h _ => h) Ext.refl ?_ ?_
            · intro sv w' hw' hfa
              obtain ⟨f0, f1, f8, -⟩ := hfa
              replace f0 : sv 0 = _ := f0
              try dsimp only at f0
              replace f1 : sv 1 = _ := f1
              try dsimp only at f1
              replace f8 : sv 8 = _ := f8
              try dsimp only at f8
              simp [Region.wanted, yielded, putsL, Act.put, f1, f8]
            refine fac_skip 10 rfl rfl rfl (fun _ _ h _ => h) Ext.refl ?_ ?_
            · intro sv w' hw' hfa
              obtain ⟨f0, f1, f2, f3, f4, f5, f6, f7, f8, f9, -⟩ := hfa
              replace f0 : sv 0 = _ := f0
              try dsimp only at f0
              replace f1 : sv 1 = _ := f1
              try dsimp only at f1
              replace f2 : sv 2 = _ := f2
              try dsimp only at f2
              replace f3 : sv 3 = _ := f3
              try dsimp only at f3
              replace f4 : sv 4 = _ := f4
              try dsimp only at f4
              replace f5 : sv 5 = _ := f5
              try dsimp only at f5
              replace f6 : sv 6 = _ := f6
              try dsimp only at f6
              replace f7 : sv 7 = _ := f7
              try dsimp only at f7
              replace f8 : sv 8 = _ := f8
              try dsimp only at f8
              replace f9 : sv 9 = _ := f9
              try dsimp only at f9
              simp [Region.wanted, yielded, putsL, Act.put, f1, f7, f9]
            refine fac_skip 11 rfl rfl rfl (fun _ _ h _ => h) Ext.refl ?_ ?_
            · intro sv w' hw' hfa
              obtain ⟨f0, f1, f2, f3, f4, f5, f6, f7, f8, f9, f10, -⟩ := hfa
              replace f0 : sv 0 = _ := f0
              try dsimp only at f0
              replace f1 : sv 1 = _ := f1
              try dsimp only at f1
              replace f2 : sv 2 = _ := f2
              try dsimp only at f2
              replace f3 : sv 3 = _ := f3
              try dsimp only at f3
              replace f4 : sv 4 = _ := f4
              try dsimp only at f4
              replace f5 : sv 5 = _ := f5
              try dsimp only at f5
              replace f6 : sv 6 = _ := f6
              try dsimp only at f6
              replace f7 : sv 7 = _ := f7
              try dsimp only at f7
              replace f8 : sv 8 = _ := f8
              try dsimp only at f8
              replace f9 : sv 9 = _ := f9
              try dsimp only at f9
              replace f10 : sv 10 = _ := f10
              try dsimp only at f10
              simp [Region.wanted, yielded, putsL, Act.put, f1, f10]
            refine fac_skip 12 rfl rfl rfl (fun _ _ h _ => h) Ext.refl ?_ ?_
            · intro sv w' hw' hfa
              obtain ⟨f0, f1, f2, f3, f4, f5, f6, f7, f8, f9, f10, f11, -⟩ := hfa
              replace f0 : sv 0 = _ := f0
              try dsimp only at f0
              replace f1 : sv 1 = _ := f1
              try dsimp only at f1
              replace f2 : sv 2 = _ := f2
              try dsimp only at f2
              replace f3 : sv 3 = _ := f3
              try dsimp only at f3
              replace f4 : sv 4 = _ := f4
              try dsimp only at f4
              replace f5 : sv 5 = _ := f5
              try dsimp only at f5
              replace f6 : sv 6 = _ := f6
              try dsimp only at f6
              replace f7 : sv 7 = _ := f7
              try dsimp only at f7
              replace f8 : sv 8 = _ := f8
              try dsimp only at f8
              replace f9 : sv 9 = _ := f9
              try dsimp only at f9
              replace f10 : sv 10 = _ := f10
              try dsimp only at f10
              replace f11 : sv 11 = _ := f11
              try dsimp only at f11
              simp [Region.wanted, yielded, putsL, Act.put, f11, undef]
            refine fac_skip 13 rfl rfl rfl (fun _ _ h _ => h) Ext.refl ?_ ?_
            · intro sv w' hw' hfa
              obtain ⟨f0, f1, f2, f3, f4, f5, f6, f7, f8, f9, f10, f11, f12, -⟩ := hfa
              replace f0 : sv 0 = _ := f0
              try dsimp only at f0
              replace f1 : sv 1 = _ := f1
              try dsimp only at f1
              replace f2 : sv 2 = _ := f2
              try dsimp only at f2
              replace f3 : sv 3 = _ := f3
              try dsimp only at f3
              replace f4 : sv 4 = _ := f4
              try dsimp only at f4
              replace f5 : sv 5 = _ := f5
              try dsimp only at f5
              replace f6 : sv 6 = _ := f6
              try dsimp only at f6
              replace f7 : sv 7 = _ := f7
              try dsimp only at f7
              replace f8 : sv 8 = _ := f8
              try dsimp only at f8
              replace f9 : sv 9 = _ := f9
              try dsimp only at f9
              replace f10 : sv 10 = _ := f10
              try dsimp only at f10
              replace f11 : sv 11 = _ := f11
              try dsimp only at f11
              replace f12 : sv 12 = _ := f12
              try dsimp only at f12
              simp [Region.wanted, yielded, putsL, Act.put, f11, f12, undef]
            refine fac_skip 14 rfl rfl rfl (fun _ _ h _ => h) Ext.refl ?_ ?_
            · intro sv w' hw' hfa
              obtain ⟨f0, f1, f2, f3, f4, f5, f6, f7, f8, f9, f10, f11, -⟩ := hfa
              replace f0 : sv 0 = _ := f0
              try dsimp only at f0
              replace f1 : sv 1 = _ := f1
              try dsimp only at f1
              replace f2 : sv 2 = _ := f2
              try dsimp only at f2
              replace f3 : sv 3 = _ := f3
              try dsimp only at f3
              replace f4 : sv 4 = _ := f4
              try dsimp only at f4
              replace f5 : sv 5 = _ := f5
              try dsimp only at f5
              replace f6 : sv 6 = _ := f6
              try dsimp only at f6
              replace f7 : sv 7 = _ := f7
              try dsimp only at f7
              replace f8 : sv 8 = _ := f8
              try dsimp only at f8
              replace f9 : sv 9 = _ := f9
              try dsimp only at f9
              replace f10 : sv 10 = _ := f10
              try dsimp only at f10
              replace f11 : sv 11 = _ := f11
              try dsimp only at f11
              simp [Region.wanted, yielded, putsL, Act.put, f11, undef]
            refine fac_skip 15 rfl rfl rfl (fun _ _ h _ => h) Ext.refl ?_ ?_
            · intro sv w' hw' hfa
              obtain ⟨f0, f1, f2, f3, f4, f5, f6, f7, f8, f9, f10, f11, -⟩ := hfa
              replace f0 : sv 0 = _ := f0
              try dsimp only at f0
              replace f1 : sv 1 = _ := f1
              try dsimp only at f1
              replace f2 : sv 2 = _ := f2
              try dsimp only at f2
              replace f3 : sv 3 = _ := f3
              try dsimp only at f3
              replace f4 : sv 4 = _ := f4
              try dsimp only at f4
              replace f5 : sv 5 = _ := f5
              try dsimp only at f5
              replace f6 : sv 6 = _ := f6
              try dsimp only at f6
              replace f7 : sv 7 = _ := f7
              try dsimp only at f7
              replace f8 : sv 8 = _ := f8
              try dsimp only at f8
              replace f9 : sv 9 = _ := f9
              try dsimp only at f9
              replace f10 : sv 10 = _ := f10
              try dsimp only at f10
              replace f11 : sv 11 = _ := f11
              try dsimp only at f11
              simp [Region.wanted, yielded, putsL, Act.put, f11, undef]
            refine fac_skip 16 rfl rfl rfl (fun _ _ h _ => h) Ext.refl ?_ ?_
            · intro sv w' hw' hfa
              obtain ⟨f0, f1, f2, f3, f4, f5, f6, f7, f8, f9, f10, f11, f15, -⟩ := hfa
              replace f0 : sv 0 = _ := f0
              try dsimp only at f0
              replace f1 : sv 1 = _ := f1
              try dsimp only at f1
              replace f2 : sv 2 = _ := f2
              try dsimp only at f2
              replace f3 : sv 3 = _ := f3
              try dsimp only at f3
              replace f4 : sv 4 = _ := f4
              try dsimp only at f4
              replace f5 : sv 5 = _ := f5
              try dsimp only at f5
              replace f6 : sv 6 = _ := f6
              try dsimp only at f6
              replace f7 : sv 7 = _ := f7
              try dsimp only at f7
              replace f8 : sv 8 = _ := f8
              try dsimp only at f8
              replace f9 : sv 9 = _ := f9
              try dsimp only at f9
              replace f10 : sv 10 = _ := f10
              try dsimp only at f10
              replace f11 : sv 11 = _ := f11
              try dsimp only at f11
              replace f15 : sv 15 = _ := f15
              try dsimp only at f15
              simp [Region.wanted, yielded, putsL, Act.put, f11, f15, undef]
            refine fac_skip 17 rfl rfl rfl (fun _ _ h _ => h) Ext.refl ?_ ?_
            · intro sv w' hw' hfa
              obtain ⟨f0, f1, f2, f3, f4, f5, f6, f7, f8, f9, f10, f11, f14, f15, f16, -⟩ := hfa
              replace f0 : sv 0 = _ := f0
              try dsimp only at f0
              replace f1 : sv 1 = _ := f1
              try dsimp only at f1
              replace f2 : sv 2 = _ := f2
              try dsimp only at f2
              replace f3 : sv 3 = _ := f3
              try dsimp only at f3
              replace f4 : sv 4 = _ := f4
              try dsimp only at f4
              replace f5 : sv 5 = _ := f5
              try dsimp only at f5
              replace f6 : sv 6 = _ := f6
              try dsimp only at f6
              replace f7 : sv 7 = _ := f7
              try dsimp only at f7
              replace f8 : sv 8 = _ := f8
              try dsimp only at f8
              replace f9 : sv 9 = _ := f9
              try dsimp only at f9
              replace f10 : sv 10 = _ := f10
              try dsimp only at f10
              replace f11 : sv 11 = _ := f11
              try dsimp only at f11
              replace f14 : sv 14 = _ := f14
              try dsimp only at f14
              replace f15 : sv 15 = _ := f15
              try dsimp only at f15
              replace f16 : sv 16 = _ := f16
              try dsimp only at f16
              simp [Region.wanted, yielded, putsL, Act.put, f11, f14, f16, undef]
            refine fac_skip 18 rfl rfl rfl (fun _ _ h _ => h) Ext.refl ?_ ?_
            · intro sv w' hw' hfa
              obtain ⟨f0, f1, f2, f3, f4, f5, f6, f7, f8, f9, f10, f11, f14, f15, f16, f17, -⟩ := hfa
              replace f0 : sv 0 = _ := f0
              try dsimp only at f0
              replace f1 : sv 1 = _ := f1
              try dsimp only at f1
              replace f2 : sv 2 = _ := f2
              try dsimp only at f2
              replace f3 : sv 3 = _ := f3
              try dsimp only at f3
              replace f4 : sv 4 = _ := f4
              try dsimp only at f4
              replace f5 : sv 5 = _ := f5
              try dsimp only at f5
              replace f6 : sv 6 = _ := f6
              try dsimp only at f6
              replace f7 : sv 7 = _ := f7
              try dsimp only at f7
              replace f8 : sv 8 = _ := f8
              try dsimp only at f8
              replace f9 : sv 9 = _ := f9
              try dsimp only at f9
              replace f10 : sv 10 = _ := f10
              try dsimp only at f10
              replace f11 : sv 11 = _ := f11
              try dsimp only at f11
              replace f14 : sv 14 = _ := f14
              try dsimp only at f14
              replace f15 : sv 15 = _ := f15
              try dsimp only at f15
              replace f16 : sv 16 = _ := f16
              try dsimp only at f16
              replace f17 : sv 17 = _ := f17
              try dsimp only at f17
              simp [Region.wanted, yielded, putsL, Act.put, f11, f17, undef]
            refine fac_skip 19 rfl rfl rfl (fun _ _ h _ => h) Ext.refl ?_ ?_
            · intro sv w' hw' hfa
              obtain ⟨f0, f1, f2, f3, f4, f5, f6, f7, f8, f9, f10, f11, f14, f15, f16, f17, f18, -⟩ := hfa
              replace f0 : sv 0 = _ := f0
              try dsimp only at f0
              replace f1 : sv 1 = _ := f1
              try dsimp only at f1
              replace f2 : sv 2 = _ := f2
              try dsimp only at f2
              replace f3 : sv 3 = _ := f3
              try dsimp only at f3
              replace f4 : sv 4 = _ := f4
              try dsimp only at f4
              replace f5 : sv 5 = _ := f5
              try dsimp only at f5
              replace f6 : sv 6 = _ := f6
              try dsimp only at f6
              replace f7 : sv 7 = _ := f7
              try dsimp only at f7
              replace f8 : sv 8 = _ := f8
              try dsimp only at f8
              replace f9 : sv 9 = _ := f9
              try dsimp only at f9
              replace f10 : sv 10 = _ := f10
              try dsimp only at f10
              replace f11 : sv 11 = _ := f11
              try dsimp only at f11
              replace f14 : sv 14 = _ := f14
              try dsimp only at f14
              replace f15 : sv 15 = _ := f15
              try dsimp only at f15
              replace f16 : sv 16 = _ := f16
              try dsimp only at f16
              replace f17 : sv 17 = _ := f17
              try dsimp only at f17
              replace f18 : sv 18 = _ := f18
              try dsimp only at f18
              simp [Region.wanted, yielded, putsL, Act.put, f11, f18, undef]
            refine fac_skip 20 rfl rfl rfl (fun _ _ h _ => h) Ext.refl ?_ ?_
            · intro sv w' hw' hfa
              obtain ⟨f0, f1, f2, f3, f4, f5, f6, f7, f8, f9, f10, f11, f12, f13, f14, f15, f16, f17, f18, f19, -⟩ := hfa
              replace f0 : sv 0 = _ := f0
              try dsimp only at f0
              replace f1 : sv 1 = _ := f1
              try dsimp only at f1
              replace f2 : sv 2 = _ := f2
              try dsimp only at f2
              replace f3 : sv 3 = _ := f3
              try dsimp only at f3
              replace f4 : sv 4 = _ := f4
              try dsimp only at f4
              replace f5 : sv 5 = _ := f5
              try dsimp only at f5
              replace f6 : sv 6 = _ := f6
              try dsimp only at f6
              replace f7 : sv 7 = _ := f7
              try dsimp only at f7
              replace f8 : sv 8 = _ := f8
              try dsimp only at f8
              replace f9 : sv 9 = _ := f9
              try dsimp only at f9
              replace f10 : sv 10 = _ := f10
              try dsimp only at f10
              replace f11 : sv 11 = _ := f11
              try dsimp only at f11
              replace f12 : sv 12 = _ := f12
              try dsimp only at f12
              replace f13 : sv 13 = _ := f13
              try dsimp only at f13
              replace f14 : sv 14 = _ := f14
              try dsimp only at f14
              replace f15 : sv 15 = _ := f15
              try dsimp only at f15
              replace f16 : sv 16 = _ := f16
              try dsimp only at f16
              replace f17 : sv 17 = _ := f17
              try dsimp only at f17
              replace f18 : sv 18 = _ := f18
              try dsimp only at f18
              replace f19 : sv 19 = _ := f19
              try dsimp only at f19
              simp [Region.wanted, yielded, putsL, Act.put, f11, f13, f19, undef]
            refine fac_skip 21 rfl rfl rfl (fun _ _ h _ => h) Ext.refl ?_ ?_
            · intro sv w' hw' hfa
              obtain ⟨f0, f1, f2, f3, f4, f5, f6, f7, f8, f9, f10, f11, f12, f13, f14, f15, f16, f17, f18, f19, f20, -⟩ := hfa
              replace f0 : sv 0 = _ := f0
              try dsimp only at f0
              replace f1 : sv 1 = _ := f1
              try dsimp only at f1
              replace f2 : sv 2 = _ := f2
              try dsimp only at f2
              replace f3 : sv 3 = _ := f3
              try dsimp only at f3
              replace f4 : sv 4 = _ := f4
              try dsimp only at f4
              replace f5 : sv 5 = _ := f5
              try dsimp only at f5
              replace f6 : sv 6 = _ := f6
              try dsimp only at f6
              replace f7 : sv 7 = _ := f7
              try dsimp only at f7
              replace f8 : sv 8 = _ := f8
              try dsimp only at f8
              replace f9 : sv 9 = _ := f9
              try dsimp only at f9
              replace f10 : sv 10 = _ := f10
              try dsimp only at f10
              replace f11 : sv 11 = _ := f11
              try dsimp only at f11
              replace f12 : sv 12 = _ := f12
              try dsimp only at f12
              replace f13 : sv 13 = _ := f13
              try dsimp only at f13
              replace f14 : sv 14 = _ := f14
              try dsimp only at f14
              replace f15 : sv 15 = _ := f15
              try dsimp only at f15
              replace f16 : sv 16 = _ := f16
              try dsimp only at f16
              replace f17 : sv 17 = _ := f17
              try dsimp only at f17
              replace f18 : sv 18 = _ := f18
              try dsimp only at f18
              replace f19 : sv 19 = _ := f19
              try dsimp only at f19
              replace f20 : sv 20 = _ := f20
              try dsimp only at f20
              simp [Region.wanted, yielded, putsL, Act.put, f1, f11, f20]
            refine fac_quiet 22 rfl rfl rfl (fun _ _ h _ => h) rfl rfl ?_
            apply Exists.intro
            refine ⟨fun sv w' hw' hfa => ?_, ?_⟩
            · obtain ⟨_, f1, _, _, _, _, _, _, _, _, _, _, _, _, _, _, _, _, _, _, _, f21, -⟩ := hfa
              replace f1 : sv 1 = _ := f1
              try dsimp only at f1
              replace f21 : sv 21 = _ := f21
              try dsimp only at f21
              refine ⟨rfl, ?_⟩
              simp only [putsL]
              change quietTo _ _ _ _ (Sem.run _ (execOp (Act.eval (Act.put (Act.put (Act.put (Act.put (Act.put (Act.put (Act.put (Act.put (Act.put (Act.put (Act.put (Act.put (Act.put (Act.put (Act.put (Act.put (Act.put (Act.put (Act.put (Act.put (Act.put (Act.put _ (some 53) (sv 21)) (some 52) (sv 20)) (some 51) (sv 19)) (some 50) (sv 18)) (some 49) (sv 17)) (some 48) (sv 16)) (some 47) (sv 15)) (some 46) (sv 14)) (some 45) (sv 13)) (some 44) (sv 12)) (some 43) (sv 11)) (some 42) (sv 10)) (some 41) (sv 9)) (some 40) (sv 8)) (some 39) (sv 7)) (some 38) (sv 6)) (some 37) (sv 5)) (some 36) (sv 4)) (some 35) (sv 3)) (some 34) (sv 2)) (some 33) (sv 1)) (some 32) (sv 0))) _) _)
              try simp only [Act.put, List.setIfInBounds_toArray, List.set_cons_succ, List.set_cons_zero]
              simp [go_sem, quietTo, Ext.refl, ↓IntWalk.iteOmega, f1, f21]
              all_goals try simp (disch := omega) only [IntWalk.i64_in]
              all_goals first
                | rfl
            refine fac_quiet 23 rfl rfl rfl (fun _ _ h _ => h) rfl rfl ?_
            apply Exists.intro
            refine ⟨fun sv w' hw' hfa => ?_, ?_⟩
            · obtain ⟨_, _, _, _, _, _, _, _, _, _, _, _, _, _, _, _, _, _, _, _, _, _, f22, -⟩ := hfa
              replace f22 : sv 22 = _ := f22
              try dsimp only at f22
              refine ⟨rfl, ?_⟩
              simp only [putsL]
              change quietTo _ _ _ _ (Sem.run _ (execOp (Act.eval (Act.put (Act.put (Act.put (Act.put (Act.put (Act.put (Act.put (Act.put (Act.put (Act.put (Act.put (Act.put (Act.put (Act.put (Act.put (Act.put (Act.put (Act.put (Act.put (Act.put (Act.put (Act.put (Act.put _ (some 54) (sv 22)) (some 53) (sv 21)) (some 52) (sv 20)) (some 51) (sv 19)) (some 50) (sv 18)) (some 49) (sv 17)) (some 48) (sv 16)) (some 47) (sv 15)) (some 46) (sv 14)) (some 45) (sv 13)) (some 44) (sv 12)) (some 43) (sv 11)) (some 42) (sv 10)) (some 41) (sv 9)) (some 40) (sv 8)) (some 39) (sv 7)) (some 38) (sv 6)) (some 37) (sv 5)) (some 36) (sv 4)) (some 35) (sv 3)) (some 34) (sv 2)) (some 33) (sv 1)) (some 32) (sv 0))) _) _)
              try simp only [Act.put, List.setIfInBounds_toArray, List.set_cons_succ, List.set_cons_zero]
              simp [go_sem, quietTo, Ext.refl, f22]
              all_goals first
                | rfl
            refine fac_nil fun xc wrc herc hfrc hcrc holdc hapc => ?_
            obtain ⟨f0, f1, f2, f3, f4, f5, f6, f7, f8, f9, f10, f11, f12, f13, f14, f15, f16, f17, f18, f19, f20, f21, f22, f23, -⟩ := hfrc
            replace f0 : xc 0 = _ := f0
            try dsimp only at f0
            replace f1 : xc 1 = _ := f1
            try dsimp only at f1
            replace f2 : xc 2 = _ := f2
            try dsimp only at f2
            replace f3 : xc 3 = _ := f3
            try dsimp only at f3
            replace f4 : xc 4 = _ := f4
            try dsimp only at f4
            replace f5 : xc 5 = _ := f5
            try dsimp only at f5
            replace f6 : xc 6 = _ := f6
            try dsimp only at f6
            replace f7 : xc 7 = _ := f7
            try dsimp only at f7
            replace f8 : xc 8 = _ := f8
            try dsimp only at f8
            replace f9 : xc 9 = _ := f9
            try dsimp only at f9
            replace f10 : xc 10 = _ := f10
            try dsimp only at f10
            replace f11 : xc 11 = _ := f11
            try dsimp only at f11
            replace f12 : xc 12 = _ := f12
            try dsimp only at f12
            replace f13 : xc 13 = _ := f13
            try dsimp only at f13
            replace f14 : xc 14 = _ := f14
            try dsimp only at f14
            replace f15 : xc 15 = _ := f15
            try dsimp only at f15
            replace f16 : xc 16 = _ := f16
            try dsimp only at f16
            replace f17 : xc 17 = _ := f17
            try dsimp only at f17
            replace f18 : xc 18 = _ := f18
            try dsimp only at f18
            replace f19 : xc 19 = _ := f19
            try dsimp only at f19
            replace f20 : xc 20 = _ := f20
            try dsimp only at f20
            replace f21 : xc 21 = _ := f21
            try dsimp only at f21
            replace f22 : xc 22 = _ := f22
            try dsimp only at f22
            replace f23 : xc 23 = _ := f23
            try dsimp only at f23
            change wpList _ _ _ _ (Act.put (Act.put (Act.put (Act.put (Act.put (Act.put (Act.put (Act.put (Act.put (Act.put (Act.put (Act.put (Act.put (Act.put (Act.put (Act.put (Act.put (Act.put (Act.put (Act.put (Act.put (Act.put (Act.put (Act.put _ (some 32) (xc 0)) (some 33) (xc 1)) (some 34) (xc 2)) (some 35) (xc 3)) (some 36) (xc 4)) (some 37) (xc 5)) (some 38) (xc 6)) (some 39) (xc 7)) (some 40) (xc 8)) (some 41) (xc 9)) (some 42) (xc 10)) (some 43) (xc 11)) (some 44) (xc 12)) (some 45) (xc 13)) (some 46) (xc 14)) (some 47) (xc 15)) (some 48) (xc 16)) (some 49) (xc 17)) (some 50) (xc 18)) (some 51) (xc 19)) (some 52) (xc 20)) (some 53) (xc 21)) (some 54) (xc 22)) (some 3) (xc 23)) _
            simp only [putsL, Nat.reduceAdd, List.drop_succ_cons, List.drop_zero, List.drop_nil, Act.put, List.setIfInBounds_toArray, List.set_cons_succ, List.set_cons_zero]
            try simp only [f0, f1, f2, f3, f4, f5, f6, f7, f8, f9, f10, f11, f12, f13, f14, f15, f16, f17, f18, f19, f20, f21, f22, f23]
            clear f0 f1 f2 f3 f4 f5 f6 f7 f8 f9 f10 f11 f12 f13 f14 f15 f16 f17 f18 f19 f20 f21 f22 f23
            clear holdc hapc
            clear hX2 d0 d2
            go_wp2
            go_roundw
            case rel => exact ⟨k + 1, true, hlt, by go_num, rfl, hzs, (fun e => by cases e), hf1.out, hEw.trans ((Ext.refl _).drew.trans herc)⟩
            case measure => simp [intOf]; omega
    · obtain rfl : k = n := by omega
      have hsc := scan_zero hz
      replace hsc := Lib.hid hsc
      cases fl
      · have h0 := scan_zero (hf0 rfl)
        clear hf0 hf1 hz h
        go_wp2
        go_ret
        exact ⟨ret_int (by rw [hF.out, if_neg h12, if_pos hsc.out, h0]), he⟩
      · have h0 := hf1 rfl
        clear hf0 hf1 hz h
        go_wp2
        go_ret
        exact ⟨ret_int (by rw [hF.out, if_neg h12, if_pos hsc.out, h0]), he⟩
end Go.Proofs.YtehboinleolihaaGreatDoor