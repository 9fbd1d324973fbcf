/- The text of voices, by the document: what is written. Conditions: sizes. -/
import Derived.Test.YtboplnogfjmpnaaGreatDoorVkVtC
set_option linter.unusedSimpArgs false
set_option linter.unusedVariables false
namespace Go.Proofs.YtboplnogfjmpnaaGreatDoor
open Go Go.RowKit

theorem lnVo_cat (x : VoiceV) : ((((((x.name ++ ⟨#[32]⟩) ++ itoaL x.fr) ++ ⟨#[32]⟩) ++ itoaL x.lo) ++ ⟨#[32]⟩) ++ itoaL x.hi) ++ (⟨#[10]⟩ : ByteArray) = (⟨(lnVo x).toArray⟩ : ByteArray) ++ ⟨#[10]⟩ := by
  refine ba_eq ?_
  have e : lnVo x = x.name.data.toList ++ 32 :: ((itoaL x.fr).data.toList ++ 32 :: ((itoaL x.lo).data.toList ++ 32 :: (itoaL x.hi).data.toList)) := by
    show Lib.join [x.name.data.toList, (itoaL x.fr).data.toList, (itoaL x.lo).data.toList, (itoaL x.hi).data.toList] [32] = _
    rw [joinL_cons2, joinL_cons2, joinL_cons2, Lib.join_one]
  rw [e]
  simp

set_option maxRecDepth 100000 in
set_option maxHeartbeats 6400000 in
theorem voiceLines_any (T0 : Nat) (p : Option Addr) (n c : Nat) (xs : List VoiceV) (w : World) (h : Sl 4 voiC w p n xs) (hok : ∀ x ∈ xs, VoiOk x) (hn : n ≤ 1000) (ht : Tab T0 w) :
    Calls Tryz.prog 26 #[.slice p n c] w fun e w' => e = .returned (.string ⟨(textG lnVo xs).toArray⟩) ∧ Ext w w' := by
  have hl := h.1
  have hq1 : xs.length ≤ 1000 := by omega
  go_enter Tryz.func26, Tryz.ntmps26
  go_wp2
  have hb0 := bld_new w
  have hlow : ∀ wr, Ext w wr → Tab T0 wr := fun wr hr => ht.ext hr
  replace hb0 := Lib.hid hb0
  replace hlow := Lib.hid hlow
  replace hl := Lib.hid hl
  go_loopw [9] (fun i wr => ∃ k : Nat, k ≤ n ∧ i = .int .i64 k ∧ BldF w.heap.size w.heap.size (Lib.byteCells (textG lnVo (xs.take k))) wr ∧ Ext w wr) (fun i _ => n - (intOf i).toNat)
  case atStart => exact ⟨0, Nat.zero_le _, rfl, hb0.out, (Ext.refl _).alloc _⟩
  case round =>
    obtain ⟨k, hk, rfl, hB, he⟩ := hrel
    by_cases hlt : k < n
    · obtain ⟨b, off, rfl, hb, hE⟩ := h.2.2 (by omega)
      obtain ⟨x, hx⟩ := getD_some hl.out hlt
      have hbw := Nat.lt_of_lt_of_le hb he.size
      obtain ⟨c0, c1, c2, c3⟩ := (hE.ext he hb).voi hx
      have hxo := hok x (List.mem_of_getElem? hx)
      have hxo2 := hxo
      obtain ⟨-, n1, n2, n3⟩ := hxo2
      obtain ⟨n1a, n1b⟩ := n1
      obtain ⟨n2a, n2b⟩ := n2
      obtain ⟨n3a, n3b⟩ := n3
      have hwz := voi_words hxo
      have z0 : x.name.size ≤ 40 := by have := (hwz x.name (by simp [wordsVo])).2.2.2; rwa [Array.length_toList] at this
      have z1 : (itoaL x.fr).size ≤ 40 := by have := (hwz (itoaL x.fr) (by simp [wordsVo])).2.2.2; rwa [Array.length_toList] at this
      have z2 : (itoaL x.lo).size ≤ 40 := by have := (hwz (itoaL x.lo) (by simp [wordsVo])).2.2.2; rwa [Array.length_toList] at this
      have z3 : (itoaL x.hi).size ≤ 40 := by have := (hwz (itoaL x.hi) (by simp [wordsVo])).2.2.2; rwa [Array.length_toList] at this
      have a2 : ¬ 9223372036854775807 < x.name.size + 1 := by omega
      have a7 : ¬ 9223372036854775807 < x.name.size + 1 + (itoaL x.fr).size := by omega
      have a8 : ¬ 9223372036854775807 < x.name.size + 1 + (itoaL x.fr).size + 1 := by omega
      have a14 : ¬ 9223372036854775807 < x.name.size + 1 + (itoaL x.fr).size + 1 + (itoaL x.lo).size := by omega
      have a15 : ¬ 9223372036854775807 < x.name.size + 1 + (itoaL x.fr).size + 1 + (itoaL x.lo).size + 1 := by omega
      have a21 : ¬ 9223372036854775807 < x.name.size + 1 + (itoaL x.fr).size + 1 + (itoaL x.lo).size + 1 + (itoaL x.hi).size := by omega
      have a22 : ¬ 9223372036854775807 < x.name.size + 1 + (itoaL x.fr).size + 1 + (itoaL x.lo).size + 1 + (itoaL x.hi).size + 1 := by omega
      have hcat := lnVo_cat x
      have hstep := textG_step (ln := lnVo) hx
      have hll := lnVo_len hxo
      have htk := textG_len (ln := lnVo) (m := 164) (d := xs.take k) fun y hy => lnVo_len (hok y (List.mem_of_mem_take hy))
      have htk2 : (xs.take k).length * (164 + 1) ≤ 1000 * 165 := Nat.mul_le_mul (by rw [List.length_take]; omega) (Nat.le_refl _)
      have hlen0 : (Lib.byteCells (textG lnVo (xs.take k))).length ≤ 900000 := by rw [Lib.byteCells_length]; omega
      have hkI : (k : Int) < n := by omega
      have hX := Lib.hid (Blk.new' (w := wr) (t := 37) (cs := #[.string x.name, .int .i64 x.fr, .int .i64 x.lo, .int .i64 x.hi]) rfl)
      have hex : Ext wr (wr.alloc (.cells #[.string x.name, .int .i64 x.fr, .int .i64 x.lo, .int .i64 x.hi] 37)) := (Ext.refl _).alloc _
      have htx := hlow.out _ (he.trans hex)
      have hBx := bld_ext hB hex
      have hkg : k + 1 ≤ n := hlt
      replace hstep := Lib.hid hstep
      replace hcat := Lib.hid hcat
      replace hll := Lib.hid hll
      replace hlen0 := Lib.hid hlen0
      replace htx := Lib.hid htx
      replace hBx := Lib.hid hBx
      replace hxo := Lib.hid hxo
      clear hx hE hB htk htk2 hwz
      go_upto_region 6 with fail
      replace htx := htx.out
      refine wp_region_facts [] [([], false, false), ([0], false, false), ([0, 1], false, false), ([], false, false), ([], false, false), ([4], false, false), ([3, 4, 5], false, false), ([0, 1, 2, 3, 4, 5, 6], false, false), ([0, 1, 2, 3, 4, 5, 6, 7], false, false), ([], false, false), ([], false, false), ([10], false, false), ([10, 11], false, false), ([9, 10, 11, 12], false, false), ([0, 1, 2, 3, 4, 5, 6, 7, 8, 9, 10, 11, 12, 13], false, false), ([0, 1, 2, 3, 4, 5, 6, 7, 8, 9, 10, 11, 12, 13, 14], false, false), ([], false, false), ([], false, false), ([17], false, false), ([17, 18], false, false), ([16, 17, 18, 19], false, false), ([0, 1, 2, 3, 4, 5, 6, 7, 8, 9, 10, 11, 12, 13, 14, 15, 16, 17, 18, 19, 20], false, false), ([0, 1, 2, 3, 4, 5, 6, 7, 8, 9, 10, 11, 12, 13, 14, 15, 16, 17, 18, 19, 20, 21], false, false)] (Ext) Ext (fun _ => True) (by kernel_rfl) (by kernel_rfl) Ext.refl (fun _ _ _ => Ext.trans) (fun _ _ h => h) (fun _ _ h => h.size) (fun _ _ h _ => h) trivial ?_
      dsimp only [List.length_cons, List.length_nil, List.drop_succ_cons, List.drop_zero, List.drop_nil]
      refine fac_quiet 0 rfl rfl rfl (fun _ _ h _ => h) rfl rfl ?_
      apply Exists.intro
      refine ⟨fun sv w' hw' hfa => ?_, ?_⟩
      · refine ⟨rfl, ?_⟩
        simp only [putsL]
        change quietTo _ _ _ _ (Sem.run _ (execOp (Act.eval _) _) _)
        try simp only [Act.put, List.setIfInBounds_toArray, List.set_cons_succ, List.set_cons_zero]
        simp [go_sem, quietTo, Ext.refl]
        all_goals first
          | rfl
      refine fac_quiet 1 rfl rfl rfl (fun _ _ h _ => h) rfl rfl ?_
      apply Exists.intro
      refine ⟨fun sv w' hw' hfa => ?_, ?_⟩
      · obtain ⟨f0, -⟩ := hfa
        replace f0 : sv 0 = _ := f0
        try dsimp only at f0
        obtain ⟨hc, hf, hz9⟩ := ((Ext.refl _).drew.trans hw').walk; have ht9 := htx.ext ((Ext.refl _).drew.trans hw'); have x0 := (hc _ 0 hX.out.lt).trans (hX.out.cell 0); have x1 := (hc _ 1 hX.out.lt).trans (hX.out.cell 1); have x2 := (hc _ 2 hX.out.lt).trans (hX.out.cell 2); have x3 := (hc _ 3 hX.out.lt).trans (hX.out.cell 3)
        refine ⟨rfl, ?_⟩
        simp only [putsL]
        change quietTo _ _ _ _ (Sem.run _ (execOp (Act.eval (Act.put _ (some 13) (sv 0))) _) _)
        try simp only [Act.put, List.setIfInBounds_toArray, List.set_cons_succ, List.set_cons_zero]
        simp [go_sem, quietTo, Ext.refl, ↓IntWalk.iteOmega, f0, x0]
        all_goals try simp (disch := omega) only [IntWalk.i64_in]
        all_goals first
          | rfl
      refine fac_quiet 2 rfl rfl rfl (fun _ _ h _ => h) rfl rfl ?_
      apply Exists.intro
      refine ⟨fun sv w' hw' hfa => ?_, ?_⟩
      · obtain ⟨_, f1, -⟩ := hfa
        replace f1 : sv 1 = _ := f1
        try dsimp only at f1
        obtain ⟨hc, hf, hz9⟩ := ((Ext.refl _).drew.trans hw').walk; have ht9 := htx.ext ((Ext.refl _).drew.trans hw'); have x0 := (hc _ 0 hX.out.lt).trans (hX.out.cell 0); have x1 := (hc _ 1 hX.out.lt).trans (hX.out.cell 1); have x2 := (hc _ 2 hX.out.lt).trans (hX.out.cell 2); have x3 := (hc _ 3 hX.out.lt).trans (hX.out.cell 3)
        refine ⟨rfl, ?_⟩
        simp only [putsL]
        change quietTo _ _ _ _ (Sem.run _ (execOp (Act.eval (Act.put (Act.put _ (some 14) (sv 1)) (some 13) (sv 0))) _) _)
        try simp only [Act.put, List.setIfInBounds_toArray, List.set_cons_succ, List.set_cons_zero]
        simp [go_sem, quietTo, Ext.refl, ↓IntWalk.iteOmega, f1, a2]
        all_goals try simp (disch := omega) only [IntWalk.i64_in]
        all_goals first
          | rfl
      refine fac_quiet 3 rfl rfl rfl (fun _ _ h _ => h) rfl rfl ?_
      apply Exists.intro
      refine ⟨fun sv w' hw' hfa => ?_, ?_⟩
      · refine ⟨rfl, ?_⟩
        simp only [putsL]
        change quietTo _ _ _ _ (Sem.run _ (execOp (Act.eval _) _) _)
        try simp only [Act.put, List.setIfInBounds_toArray, List.set_cons_succ, List.set_cons_zero]
        simp [go_sem, quietTo, Ext.refl]
        all_goals first
          | rfl
      refine fac_quiet 4 rfl rfl rfl (fun _ _ h _ => h) rfl rfl ?_
      apply Exists.intro
      refine ⟨fun sv w' hw' hfa => ?_, ?_⟩
      · refine ⟨rfl, ?_⟩
        simp only [putsL]
        change quietTo _ _ _ _ (Sem.run _ (execOp (Act.eval _) _) _)
        try simp only [Act.put, List.setIfInBounds_toArray, List.set_cons_succ, List.set_cons_zero]
        simp [go_sem, quietTo, Ext.refl]
        all_goals first
          | rfl
      refine fac_quiet 5 rfl rfl rfl (fun _ _ h _ => h) rfl rfl ?_
      apply Exists.intro
      refine ⟨fun sv w' hw' hfa => ?_, ?_⟩
      · obtain ⟨f4, -⟩ := hfa
        replace f4 : sv 4 = _ := f4
        try dsimp only at f4
        obtain ⟨hc, hf, hz9⟩ := ((Ext.refl _).drew.trans hw').walk; have ht9 := htx.ext ((Ext.refl _).drew.trans hw'); have x0 := (hc _ 0 hX.out.lt).trans (hX.out.cell 0); have x1 := (hc _ 1 hX.out.lt).trans (hX.out.cell 1); have x2 := (hc _ 2 hX.out.lt).trans (hX.out.cell 2); have x3 := (hc _ 3 hX.out.lt).trans (hX.out.cell 3)
        refine ⟨rfl, ?_⟩
        simp only [putsL]
        change quietTo _ _ _ _ (Sem.run _ (execOp (Act.eval (Act.put _ (some 17) (sv 4))) _) _)
        try simp only [Act.put, List.setIfInBounds_toArray, List.set_cons_succ, List.set_cons_zero]
        simp [go_sem, quietTo, Ext.refl, ↓IntWalk.iteOmega, f4, x1]
        all_goals try simp (disch := omega) only [IntWalk.i64_in]
        all_goals first
          | rfl
      refine fac_quiet 6 rfl rfl rfl (fun _ _ h _ => h) rfl rfl ?_
      apply Exists.intro
      refine ⟨fun sv w' hw' hfa => ?_, ?_⟩
      · obtain ⟨f3, f4, f5, -⟩ := hfa
        replace f3 : sv 3 = _ := f3
        try dsimp only at f3
        replace f4 : sv 4 = _ := f4
        try dsimp only at f4
        replace f5 : sv 5 = _ := f5
        try dsimp only at f5
        obtain ⟨hc, hf, hz9⟩ := ((Ext.refl _).drew.trans hw').walk; have ht9 := htx.ext ((Ext.refl _).drew.trans hw'); have x0 := (hc _ 0 hX.out.lt).trans (hX.out.cell 0); have x1 := (hc _ 1 hX.out.lt).trans (hX.out.cell 1); have x2 := (hc _ 2 hX.out.lt).trans (hX.out.cell 2); have x3 := (hc _ 3 hX.out.lt).trans (hX.out.cell 3)
        refine ⟨rfl, ?_⟩
        simp only [putsL]
        change quietTo _ _ _ _ (Sem.run _ (execOp (Act.eval (Act.put (Act.put (Act.put _ (some 18) (sv 5)) (some 17) (sv 4)) (some 16) (sv 3))) _) _)
        try simp only [Act.put, List.setIfInBounds_toArray, List.set_cons_succ, List.set_cons_zero]
        simp [go_sem, quietTo, Ext.refl, ↓IntWalk.iteOmega, f3, f5]
        all_goals try simp (disch := omega) only [IntWalk.i64_in]
        all_goals first
          | rfl
          | (exact itoaL_any _ (by omega) (by omega) T0 _ ht9)
      refine fac_quiet 7 rfl rfl rfl (fun _ _ h _ => h) rfl rfl ?_
      apply Exists.intro
      refine ⟨fun sv w' hw' hfa => ?_, ?_⟩
      · obtain ⟨_, _, f2, _, _, _, f6, -⟩ := hfa
        replace f2 : sv 2 = _ := f2
        try dsimp only at f2
        replace f6 : sv 6 = _ := f6
        try dsimp only at f6
        obtain ⟨hc, hf, hz9⟩ := ((Ext.refl _).drew.trans hw').walk; have ht9 := htx.ext ((Ext.refl _).drew.trans hw'); have x0 := (hc _ 0 hX.out.lt).trans (hX.out.cell 0); have x1 := (hc _ 1 hX.out.lt).trans (hX.out.cell 1); have x2 := (hc _ 2 hX.out.lt).trans (hX.out.cell 2); have x3 := (hc _ 3 hX.out.lt).trans (hX.out.cell 3)
        refine ⟨rfl, ?_⟩
        simp only [putsL]
        change quietTo _ _ _ _ (Sem.run _ (execOp (Act.eval (Act.put (Act.put (Act.put (Act.put (Act.put (Act.put (Act.put _ (some 19) (sv 6)) (some 18) (sv 5)) (some 17) (sv 4)) (some 16) (sv 3)) (some 15) (sv 2)) (some 14) (sv 1)) (some 13) (sv 0))) _) _)
        try simp only [Act.put, List.setIfInBounds_toArray, List.set_cons_succ, List.set_cons_zero]
        simp [go_sem, quietTo, Ext.refl, ↓IntWalk.iteOmega, f2, f6, a7]
        all_goals try simp (disch := omega) only [IntWalk.i64_in]
        all_goals first
          | rfl
      refine fac_quiet 8 rfl rfl rfl (fun _ _ h _ => h) rfl rfl ?_
      apply Exists.intro
      refine ⟨fun sv w' hw' hfa => ?_, ?_⟩
      · obtain ⟨_, _, _, _, _, _, _, f7, -⟩ := hfa
        replace f7 : sv 7 = _ := f7
        try dsimp only at f7
        obtain ⟨hc, hf, hz9⟩ := ((Ext.refl _).drew.trans hw').walk; have ht9 := htx.ext ((Ext.refl _).drew.trans hw'); have x0 := (hc _ 0 hX.out.lt).trans (hX.out.cell 0); have x1 := (hc _ 1 hX.out.lt).trans (hX.out.cell 1); have x2 := (hc _ 2 hX.out.lt).trans (hX.out.cell 2); have x3 := (hc _ 3 hX.out.lt).trans (hX.out.cell 3)
        refine ⟨rfl, ?_⟩
        simp only [putsL]
        change quietTo _ _ _ _ (Sem.run _ (execOp (Act.eval (Act.put (Act.put (Act.put (Act.put (Act.put (Act.put (Act.put (Act.put _ (some 20) (sv 7)) (some 19) (sv 6)) (some 18) (sv 5)) (some 17) (sv 4)) (some 16) (sv 3)) (some 15) (sv 2)) (some 14) (sv 1)) (some 13) (sv 0))) _) _)
        try simp only [Act.put, List.setIfInBounds_toArray, List.set_cons_succ, List.set_cons_zero]
        simp [go_sem, quietTo, Ext.refl, ↓IntWalk.iteOmega, f7, a8]
        all_goals try simp (disch := omega) only [IntWalk.i64_in]
        all_goals first
          | rfl
      refine fac_quiet 9 rfl rfl rfl (fun _ _ h _ => h) rfl rfl ?_
      apply Exists.intro
      refine ⟨fun sv w' hw' hfa => ?_, ?_⟩
      · refine ⟨rfl, ?_⟩
        simp only [putsL]
        change quietTo _ _ _ _ (Sem.run _ (execOp (Act.eval _) _) _)
        try simp only [Act.put, List.setIfInBounds_toArray, List.set_cons_succ, List.set_cons_zero]
        simp [go_sem, quietTo, Ext.refl]
        all_goals first
          | rfl
      refine fac_quiet 10 rfl rfl rfl (fun _ _ h _ => h) rfl rfl ?_
      apply Exists.intro
      refine ⟨fun sv w' hw' hfa => ?_, ?_⟩
      · refine ⟨rfl, ?_⟩
        simp only [putsL]
        change quietTo _ _ _ _ (Sem.run _ (execOp (Act.eval _) _) _)
        try simp only [Act.put, List.setIfInBounds_toArray, List.set_cons_succ, List.set_cons_zero]
        simp [go_sem, quietTo, Ext.refl]
        all_goals first
          | rfl
      refine fac_quiet 11 rfl rfl rfl (fun _ _ h _ => h) rfl rfl ?_
      apply Exists.intro
      refine ⟨fun sv w' hw' hfa => ?_, ?_⟩
      · obtain ⟨f10, -⟩ := hfa
        replace f10 : sv 10 = _ := f10
        try dsimp only at f10
        refine ⟨rfl, ?_⟩
        simp only [putsL]
        change quietTo _ _ _ _ (Sem.run _ (execOp (Act.eval (Act.put _ (some 23) (sv 10))) _) _)
        try simp only [Act.put, List.setIfInBounds_toArray, List.set_cons_succ, List.set_cons_zero]
        simp [go_sem, quietTo, Ext.refl, f10]
        all_goals first
          | rfl
      refine fac_quiet 12 rfl rfl rfl (fun _ _ h _ => h) rfl rfl ?_
      apply Exists.intro
      refine ⟨fun sv w' hw' hfa => ?_, ?_⟩
      · obtain ⟨_, f11, -⟩ := hfa
        replace f11 : sv 11 = _ := f11
        try dsimp only at f11
        obtain ⟨hc, hf, hz9⟩ := ((Ext.refl _).drew.trans hw').walk; have ht9 := htx.ext ((Ext.refl _).drew.trans hw'); have x0 := (hc _ 0 hX.out.lt).trans (hX.out.cell 0); have x1 := (hc _ 1 hX.out.lt).trans (hX.out.cell 1); have x2 := (hc _ 2 hX.out.lt).trans (hX.out.cell 2); have x3 := (hc _ 3 hX.out.lt).trans (hX.out.cell 3)
        refine ⟨rfl, ?_⟩
        simp only [putsL]
        change quietTo _ _ _ _ (Sem.run _ (execOp (Act.eval (Act.put (Act.put _ (some 24) (sv 11)) (some 23) (sv 10))) _) _)
        try simp only [Act.put, List.setIfInBounds_toArray, List.set_cons_succ, List.set_cons_zero]
        simp [go_sem, quietTo, Ext.refl, ↓IntWalk.iteOmega, f11, x2]
        all_goals try simp (disch := omega) only [IntWalk.i64_in]
        all_goals first
          | rfl
      refine fac_quiet 13 rfl rfl rfl (fun _ _ h _ => h) rfl rfl ?_
      apply Exists.intro
      refine ⟨fun sv w' hw' hfa => ?_, ?_⟩
      · obtain ⟨f9, f10, f11, f12, -⟩ := hfa
        replace f9 : sv 9 = _ := f9
        try dsimp only at f9
        replace f10 : sv 10 = _ := f10
        try dsimp only at f10
        replace f11 : sv 11 = _ := f11
        try dsimp only at f11
        replace f12 : sv 12 = _ := f12
        try dsimp only at f12
        obtain ⟨hc, hf, hz9⟩ := ((Ext.refl _).drew.trans hw').walk; have ht9 := htx.ext ((Ext.refl _).drew.trans hw'); have x0 := (hc _ 0 hX.out.lt).trans (hX.out.cell 0); have x1 := (hc _ 1 hX.out.lt).trans (hX.out.cell 1); have x2 := (hc _ 2 hX.out.lt).trans (hX.out.cell 2); have x3 := (hc _ 3 hX.out.lt).trans (hX.out.cell 3)
        refine ⟨rfl, ?_⟩
        simp only [putsL]
        change quietTo _ _ _ _ (Sem.run _ (execOp (Act.eval (Act.put (Act.put (Act.put (Act.put _ (some 25) (sv 12)) (some 24) (sv 11)) (some 23) (sv 10)) (some 22) (sv 9))) _) _)
        try simp only [Act.put, List.setIfInBounds_toArray, List.set_cons_succ, List.set_cons_zero]
        simp [go_sem, quietTo, Ext.refl, ↓IntWalk.iteOmega, f9, f12]
        all_goals try simp (disch := omega) only [IntWalk.i64_in]
        all_goals first
          | rfl
          | (exact itoaL_any _ (by omega) (by omega) T0 _ ht9)
      refine fac_quiet 14 rfl rfl rfl (fun _ _ h _ => h) rfl rfl ?_
      apply Exists.intro
      refine ⟨fun sv w' hw' hfa => ?_, ?_⟩
      · obtain ⟨_, _, _, _, _, _, _, _, f8, _, _, _, _, f13, -⟩ := hfa
        replace f8 : sv 8 = _ := f8
        try dsimp only at f8
        replace f13 : sv 13 = _ := f13
        try dsimp only at f13
        obtain ⟨hc, hf, hz9⟩ := ((Ext.refl _).drew.trans hw').walk; have ht9 := htx.ext ((Ext.refl _).drew.trans hw'); have x0 := (hc _ 0 hX.out.lt).trans (hX.out.cell 0); have x1 := (hc _ 1 hX.out.lt).trans (hX.out.cell 1); have x2 := (hc _ 2 hX.out.lt).trans (hX.out.cell 2); have x3 := (hc _ 3 hX.out.lt).trans (hX.out.cell 3)
        refine ⟨rfl, ?_⟩
        simp only [putsL]
        change quietTo _ _ _ _ (Sem.run _ (execOp (Act.eval (Act.put (Act.put (Act.put (Act.put (Act.put (Act.put (Act.put (Act.put (Act.put (Act.put (Act.put (Act.put (Act.put (Act.put _ (some 26) (sv 13)) (some 25) (sv 12)) (some 24) (sv 11)) (some 23) (sv 10)) (some 22) (sv 9)) (some 21) (sv 8)) (some 20) (sv 7)) (some 19) (sv 6)) (some 18) (sv 5)) (some 17) (sv 4)) (some 16) (sv 3)) (some 15) (sv 2)) (some 14) (sv 1)) (some 13) (sv 0))) _) _)
        try simp only [Act.put, List.setIfInBounds_toArray, List.set_cons_succ, List.set_cons_zero]
        simp [go_sem, quietTo, Ext.refl, ↓IntWalk.iteOmega, f8, f13, a14]
        all_goals try simp (disch := omega) only [IntWalk.i64_in]
        all_goals first
          | rfl
      refine fac_quiet 15 rfl rfl rfl (fun _ _ h _ => h) rfl rfl ?_
      apply Exists.intro
      refine ⟨fun sv w' hw' hfa => ?_, ?_⟩
      · obtain ⟨_, _, _, _, _, _, _, _, _, _, _, _, _, _, f14, -⟩ := hfa
        replace f14 : sv 14 = _ := f14
        try dsimp only at f14
        obtain ⟨hc, hf, hz9⟩ := ((Ext.refl _).drew.trans hw').walk; have ht9 := htx.ext ((Ext.refl _).drew.trans hw'); have x0 := (hc _ 0 hX.out.lt).trans (hX.out.cell 0); have x1 := (hc _ 1 hX.out.lt).trans (hX.out.cell 1); have x2 := (hc _ 2 hX.out.lt).trans (hX.out.cell 2); have x3 := (hc _ 3 hX.out.lt).trans (hX.out.cell 3)
        refine ⟨rfl, ?_⟩
        simp only [putsL]
        change quietTo _ _ _ _ (Sem.run _ (execOp (Act.eval (Act.put (Act.put (Act.put (Act.put (Act.put (Act.put (Act.put (Act.put (Act.put (Act.put (Act.put (Act.put (Act.put (Act.put (Act.put _ (some 27) (sv 14)) (some 26) (sv 13)) (some 25) (sv 12)) (some 24) (sv 11)) (some 23) (sv 10)) (some 22) (sv 9)) (some 21) (sv 8)) (some 20) (sv 7)) (some 19) (sv 6)) (some 18) (sv 5)) (some 17) (sv 4)) (some 16) (sv 3)) (some 15) (sv 2)) (some 14) (sv 1)) (some 13) (sv 0))) _) _)
        try simp only [Act.put, List.setIfInBounds_toArray, List.set_cons_succ, List.set_cons_zero]
        simp [go_sem, quietTo, Ext.refl, ↓IntWalk.iteOmega, f14, a15]
        all_goals try simp (disch := omega) only [IntWalk.i64_in]
        all_goals first
          | rfl
      refine fac_quiet 16 rfl rfl rfl (fun _ _ h _ => h) rfl rfl ?_
      apply Exists.intro
      refine ⟨fun sv w' hw' hfa => ?_, ?_⟩
      · refine ⟨rfl, ?_⟩
        simp only [putsL]
        change quietTo _ _ _ _ (Sem.run _ (execOp (Act.eval _) _) _)
        try simp only [Act.put, List.setIfInBounds_toArray, List.set_cons_succ, List.set_cons_zero]
        simp [go_sem, quietTo, Ext.refl]
        all_goals first
          | rfl
      refine fac_quiet 17 rfl rfl rfl (fun _ _ h _ => h) rfl rfl ?_
      apply Exists.intro
      refine ⟨fun sv w' hw' hfa => ?_, ?_⟩
      · refine ⟨rfl, ?_⟩
        simp only [putsL]
        change quietTo _ _ _ _ (Sem.run _ (execOp (Act.eval _) _) _)
        try simp only [Act.put, List.setIfInBounds_toArray, List.set_cons_succ, List.set_cons_zero]
        simp [go_sem, quietTo, Ext.refl]
        all_goals first
          | rfl
      refine fac_quiet 18 rfl rfl rfl (fun _ _ h _ => h) rfl rfl ?_
      apply Exists.intro
      refine ⟨fun sv w' hw' hfa => ?_, ?_⟩
      · obtain ⟨f17, -⟩ := hfa
        replace f17 : sv 17 = _ := f17
        try dsimp only at f17
        refine ⟨rfl, ?_⟩
        simp only [putsL]
        change quietTo _ _ _ _ (Sem.run _ (execOp (Act.eval (Act.put _ (some 30) (sv 17))) _) _)
        try simp only [Act.put, List.setIfInBounds_toArray, List.set_cons_succ, List.set_cons_zero]
        simp [go_sem, quietTo, Ext.refl, f17]
        all_goals first
          | rfl
      refine fac_quiet 19 rfl rfl rfl (fun _ _ h _ => h) rfl rfl ?_
      apply Exists.intro
      refine ⟨fun sv w' hw' hfa => ?_, ?_⟩
      · obtain ⟨_, f18, -⟩ := hfa
        replace f18 : sv 18 = _ := f18
        try dsimp only at f18
        obtain ⟨hc, hf, hz9⟩ := ((Ext.refl _).drew.trans hw').walk; have ht9 := htx.ext ((Ext.refl _).drew.trans hw'); have x0 := (hc _ 0 hX.out.lt).trans (hX.out.cell 0); have x1 := (hc _ 1 hX.out.lt).trans (hX.out.cell 1); have x2 := (hc _ 2 hX.out.lt).trans (hX.out.cell 2); have x3 := (hc _ 3 hX.out.lt).trans (hX.out.cell 3)
        refine ⟨rfl, ?_⟩
        simp only [putsL]
        change quietTo _ _ _ _ (Sem.run _ (execOp (Act.eval (Act.put (Act.put _ (some 31) (sv 18)) (some 30) (sv 17))) _) _)
        try simp only [Act.put, List.setIfInBounds_toArray, List.set_cons_succ, List.set_cons_zero]
        simp [go_sem, quietTo, Ext.refl, ↓IntWalk.iteOmega, f18, x3]
        all_goals try simp (disch := omega) only [IntWalk.i64_in]
        all_goals first
          | rfl
      refine fac_quiet 20 rfl rfl rfl (fun _ _ h _ => h) rfl rfl ?_
      apply Exists.intro
      refine ⟨fun sv w' hw' hfa => ?_, ?_⟩
      · obtain ⟨f16, f17, f18, f19, -⟩ := hfa
        replace f16 : sv 16 = _ := f16
        try dsimp only at f16
        replace f17 : sv 17 = _ := f17
        try dsimp only at f17
        replace f18 : sv 18 = _ := f18
        try dsimp only at f18
        replace f19 : sv 19 = _ := f19
        try dsimp only at f19
        obtain ⟨hc, hf, hz9⟩ := ((Ext.refl _).drew.trans hw').walk; have ht9 := htx.ext ((Ext.refl _).drew.trans hw'); have x0 := (hc _ 0 hX.out.lt).trans (hX.out.cell 0); have x1 := (hc _ 1 hX.out.lt).trans (hX.out.cell 1); have x2 := (hc _ 2 hX.out.lt).trans (hX.out.cell 2); have x3 := (hc _ 3 hX.out.lt).trans (hX.out.cell 3)
        refine ⟨rfl, ?_⟩
        simp only [putsL]
        change quietTo _ _ _ _ (Sem.run _ (execOp (Act.eval (Act.put (Act.put (Act.put (Act.put _ (some 32) (sv 19)) (some 31) (sv 18)) (some 30) (sv 17)) (some 29) (sv 16))) _) _)
        try simp only [Act.put, List.setIfInBounds_toArray, List.set_cons_succ, List.set_cons_zero]
        simp [go_sem, quietTo, Ext.refl, ↓IntWalk.iteOmega, f16, f19]
        all_goals try simp (disch := omega) only [IntWalk.i64_in]
        all_goals first
          | rfl
          | (exact itoaL_any _ (by omega) (by omega) T0 _ ht9)
      refine fac_quiet 21 rfl rfl rfl (fun _ _ h _ => h) rfl rfl ?_
      apply Exists.intro
      refine ⟨fun sv w' hw' hfa => ?_, ?_⟩
      · obtain ⟨_, _, _, _, _, _, _, _, _, _, _, _, _, _, _, f15, _, _, _, _, f20, -⟩ := hfa
        replace f15 : sv 15 = _ := f15
        try dsimp only at f15
        replace f20 : sv 20 = _ := f20
        try dsimp only at f20
        obtain ⟨hc, hf, hz9⟩ := ((Ext.refl _).drew.trans hw').walk; have ht9 := htx.ext ((Ext.refl _).drew.trans hw'); have x0 := (hc _ 0 hX.out.lt).trans (hX.out.cell 0); have x1 := (hc _ 1 hX.out.lt).trans (hX.out.cell 1); have x2 := (hc _ 2 hX.out.lt).trans (hX.out.cell 2); have x3 := (hc _ 3 hX.out.lt).trans (hX.out.cell 3)
        refine ⟨rfl, ?_⟩
        simp only [putsL]
        change quietTo _ _ _ _ (Sem.run _ (execOp (Act.eval (Act.put (Act.put (Act.put (Act.put (Act.put (Act.put (Act.put (Act.put (Act.put (Act.put (Act.put (Act.put (Act.put (Act.put (Act.put (Act.put (Act.put (Act.put (Act.put (Act.put (Act.put _ (some 33) (sv 20)) (some 32) (sv 19)) (some 31) (sv 18)) (some 30) (sv 17)) (some 29) (sv 16)) (some 28) (sv 15)) (some 27) (sv 14)) (some 26) (sv 13)) (some 25) (sv 12)) (some 24) (sv 11)) (some 23) (sv 10)) (some 22) (sv 9)) (some 21) (sv 8)) (some 20) (sv 7)) (some 19) (sv 6)) (some 18) (sv 5)) (some 17) (sv 4)) (some 16) (sv 3)) (some 15) (sv 2)) (some 14) (sv 1)) (some 13) (sv 0))) _) _)
        try simp only [Act.put, List.setIfInBounds_toArray, List.set_cons_succ, List.set_cons_zero]
        simp [go_sem, quietTo, Ext.refl, ↓IntWalk.iteOmega, f15, f20, a21]
        all_goals try simp (disch := omega) only [IntWalk.i64_in]
        all_goals first
          | rfl
      refine fac_quiet 22 rfl rfl rfl (fun _ _ h _ => h) rfl rfl ?_
      apply Exists.intro
      refine ⟨fun sv w' hw' hfa => ?_, ?_⟩
      · obtain ⟨_, _, _, _, _, _, _, _, _, _, _, _, _, _, _, _, _, _, _, _, _, f21, -⟩ := hfa
        replace f21 : sv 21 = _ := f21
        try dsimp only at f21
        obtain ⟨hc, hf, hz9⟩ := ((Ext.refl _).drew.trans hw').walk; have ht9 := htx.ext ((Ext.refl _).drew.trans hw'); have x0 := (hc _ 0 hX.out.lt).trans (hX.out.cell 0); have x1 := (hc _ 1 hX.out.lt).trans (hX.out.cell 1); have x2 := (hc _ 2 hX.out.lt).trans (hX.out.cell 2); have x3 := (hc _ 3 hX.out.lt).trans (hX.out.cell 3)
        refine ⟨rfl, ?_⟩
        simp only [putsL]
        change quietTo _ _ _ _ (Sem.run _ (execOp (Act.eval (Act.put (Act.put (Act.put (Act.put (Act.put (Act.put (Act.put (Act.put (Act.put (Act.put (Act.put (Act.put (Act.put (Act.put (Act.put (Act.put (Act.put (Act.put (Act.put (Act.put (Act.put (Act.put _ (some 34) (sv 21)) (some 33) (sv 20)) (some 32) (sv 19)) (some 31) (sv 18)) (some 30) (sv 17)) (some 29) (sv 16)) (some 28) (sv 15)) (some 27) (sv 14)) (some 26) (sv 13)) (some 25) (sv 12)) (some 24) (sv 11)) (some 23) (sv 10)) (some 22) (sv 9)) (some 21) (sv 8)) (some 20) (sv 7)) (some 19) (sv 6)) (some 18) (sv 5)) (some 17) (sv 4)) (some 16) (sv 3)) (some 15) (sv 2)) (some 14) (sv 1)) (some 13) (sv 0))) _) _)
        try simp only [Act.put, List.setIfInBounds_toArray, List.set_cons_succ, List.set_cons_zero]
        simp [go_sem, quietTo, Ext.refl, ↓IntWalk.iteOmega, f21, a22]
        all_goals try simp (disch := omega) only [IntWalk.i64_in]
        all_goals first
          | rfl
      refine fac_nil fun xa wra hera hfra hcra holda hapa => ?_
      obtain ⟨f0, f1, f2, f3, f4, f5, f6, f7, f8, f9, f10, f11, f12, f13, f14, f15, f16, f17, f18, f19, f20, f21, f22, -⟩ := hfra
      replace f0 : xa 0 = _ := f0
      try dsimp only at f0
      replace f1 : xa 1 = _ := f1
      try dsimp only at f1
      replace f2 : xa 2 = _ := f2
      try dsimp only at f2
      replace f3 : xa 3 = _ := f3
      try dsimp only at f3
      replace f4 : xa 4 = _ := f4
      try dsimp only at f4
      replace f5 : xa 5 = _ := f5
      try dsimp only at f5
      replace f6 : xa 6 = _ := f6
      try dsimp only at f6
      replace f7 : xa 7 = _ := f7
      try dsimp only at f7
      replace f8 : xa 8 = _ := f8
      try dsimp only at f8
      replace f9 : xa 9 = _ := f9
      try dsimp only at f9
      replace f10 : xa 10 = _ := f10
      try dsimp only at f10
      replace f11 : xa 11 = _ := f11
      try dsimp only at f11
      replace f12 : xa 12 = _ := f12
      try dsimp only at f12
      replace f13 : xa 13 = _ := f13
      try dsimp only at f13
      replace f14 : xa 14 = _ := f14
      try dsimp only at f14
      replace f15 : xa 15 = _ := f15
      try dsimp only at f15
      replace f16 : xa 16 = _ := f16
      try dsimp only at f16
      replace f17 : xa 17 = _ := f17
      try dsimp only at f17
      replace f18 : xa 18 = _ := f18
      try dsimp only at f18
      replace f19 : xa 19 = _ := f19
      try dsimp only at f19
      replace f20 : xa 20 = _ := f20
      try dsimp only at f20
      replace f21 : xa 21 = _ := f21
      try dsimp only at f21
      replace f22 : xa 22 = _ := f22
      try dsimp only at f22
      change wpList _ _ _ _ (Act.put (Act.put (Act.put (Act.put (Act.put (Act.put (Act.put (Act.put (Act.put (Act.put (Act.put (Act.put (Act.put (Act.put (Act.put (Act.put (Act.put (Act.put (Act.put (Act.put (Act.put (Act.put (Act.put _ (some 13) (xa 0)) (some 14) (xa 1)) (some 15) (xa 2)) (some 16) (xa 3)) (some 17) (xa 4)) (some 18) (xa 5)) (some 19) (xa 6)) (some 20) (xa 7)) (some 21) (xa 8)) (some 22) (xa 9)) (some 23) (xa 10)) (some 24) (xa 11)) (some 25) (xa 12)) (some 26) (xa 13)) (some 27) (xa 14)) (some 28) (xa 15)) (some 29) (xa 16)) (some 30) (xa 17)) (some 31) (xa 18)) (some 32) (xa 19)) (some 33) (xa 20)) (some 34) (xa 21)) (some 35) (xa 22)) _
      simp only [putsL, Nat.reduceAdd, List.drop_succ_cons, List.drop_zero, List.drop_nil, Act.put, List.setIfInBounds_toArray, List.set_cons_succ, List.set_cons_zero]
      try simp only [f0, f1, f2, f3, f4, f5, f6, f7, f8, f9, f10, f11, f12, f13, f14, f15, f16, f17, f18, f19, f20, f21, f22]
      clear f0 f1 f2 f3 f4 f5 f6 f7 f8 f9 f10 f11 f12 f13 f14 f15 f16 f17 f18 f19 f20 f21 f22
      clear holda hapa
      have hka := (Ext.refl _).drew.trans hera
      have hBa := bld_ext hBx.out hka
      have hea := (he.trans hex).trans hka
      have hs8 := hea.size
      clear c0 c1 c2 c3
      rw [hcat.out]
      have hJ1 : (⟨(lnVo x).toArray⟩ : ByteArray).size ≤ 164 := by show (lnVo x).toArray.size ≤ _; simpa using hll.out
      have hJ2 : (lnVo x).toArray.size ≤ 164 := hJ1
      go_wp2_with (go_at_call 29; (with_reducible refine Calls.mono (writeString_any w.heap.size w.heap.size _ _ _ hBa (by have := hlen0.out; have := hll.out; rw [lineB_size]; omega) hs8) ?_); rintro e w9 ⟨rfl, hB9, hb9, -⟩)
      go_roundw
      case rel =>
        refine ⟨k + 1, hkg, by go_num, ?_, Below.trans hea hb9⟩
        rw [hstep.out, bytes_step]
        exact hB9
      case measure => simp [intOf]; omega
    · obtain rfl : k = n := by omega
      rw [show xs.take k = xs by rw [← hl.out, List.take_length]] at hB
      have hs9 := he.size
      generalize hLt : textG lnVo xs = L at *
      replace hB := Lib.hid hB
      go_wp2_with (go_at_call 33; (with_reducible refine Calls.mono (bldStr_any _ _ L _ hB.out hs9) ?_); rintro e w9 ⟨rfl, hb9⟩)
      go_ret
      exact ⟨by rw [hLt]; rfl, Below.trans he hb9⟩
end Go.Proofs.YtboplnogfjmpnaaGreatDoor
