/- The text of voices, by the program: what is written. Conditions: sizes. -/
import Derived.Test.YtboplnogfjmpnaaGreatDoorVkJ24
import Derived.Test.YtboplnogfjmpnaaGreatDoorVkVoB
import Derived.Test.YtboplnogfjmpnaaGreatDoorVkTxE
import Derived.Test.YtboplnogfjmpnaaGreatDoorVkNameA
set_option linter.unusedSimpArgs false
set_option linter.unusedVariables false
namespace Go.Proofs.YtboplnogfjmpnaaGreatDoor
open Go Go.RowKit

theorem itoaL_any (n : Int) (h0 : -9223372036854775808 ≤ n) (h1 : n ≤ 9223372036854775807) (B : Nat) (w : World) (ht : Tab B w) :
    Calls Tryz.prog 31 #[.int .i64 n] w fun e w' => e = .returned (.string (itoaL n)) ∧ Ext w w' := itoa_any n h0 h1 B w ht
theorem kitJoinVo {w : World} {g : Nat} {x : VoiceV} (hB : Blk w g 9 #[.string x.name, .string (itoaL x.fr), .string (itoaL x.lo), .string (itoaL x.hi)]) (hl : (lnVo x).length ≤ 164) :
    Calls Tryz.prog 30 #[.slice (some ⟨g, 0, none⟩) 4 4] w fun e w' => e = .returned (.string ((⟨(lnVo x).toArray⟩ : ByteArray) ++ ⟨#[10]⟩)) ∧ Ext w w' :=
  kitJoin_ownG (W := wordsVo x) (base := 0) (e := 9) (own_blk1 hB rfl (Nat.zero_le _) (by decide)) rfl (by decide) (Nat.le_trans hl (by decide))
theorem bytes_step (a : List UInt8) (l : List UInt8) : Lib.byteCells (a ++ (l ++ [10])) = Lib.byteCells a ++ Lib.strCells ((⟨l.toArray⟩ : ByteArray) ++ ⟨#[10]⟩) := by
  rw [Lib.strCells_eq, lineB_data]
  unfold Lib.byteCells
  rw [List.map_append]

set_option maxRecDepth 100000 in
set_option maxHeartbeats 6400000 in
theorem textVo_any (T0 : Nat) (p : Option Addr) (n c : Nat) (xs : List VoiceV) (w : World) (h : Sl 4 voiC w p n xs) (hs : ∀ x ∈ xs, x.Wide) (hn : n ≤ 1000000000) (ht : Tab T0 w) :
    Calls Tryz.prog 6 #[.slice p n c] w fun e w' => e = .returned (.tuple #[.string (textRG lnVo voicesG xs).1, .int .i64 (textRG lnVo voicesG xs).2]) ∧ Ext w w' := by
  have hcs := checkVoicesG_any p n c xs w h hs hn
  by_cases hq : voicesG xs = 0
  rotate_left
  · have hR : textRG lnVo voicesG xs = (⟨#[]⟩, voicesG xs) := by unfold textRG; rw [if_neg hq]
    rw [hR]
    clear hR
    generalize voicesG xs = f at *
    replace hcs := Lib.hid hcs
    go_enter Tryz.func6, Tryz.ntmps6
    go_wp2_with (go_at_call 15; (with_reducible refine Calls.mono hcs.out ?_); rintro e w1 ⟨rfl, hb1⟩)
    go_ret2
    exact ⟨rfl, hb1⟩
  obtain ⟨hq1, hok⟩ := voicesG_good hq
  have hR : textRG lnVo voicesG xs = if 200000 < (textG lnVo xs).length then (⟨#[]⟩, 2) else (⟨(textG lnVo xs).toArray⟩, 0) := by unfold textRG; rw [if_pos hq]
  replace hR := Lib.hid hR
  have hl := h.1
  rw [hq] at hcs
  have htl := textG_len (ln := lnVo) (m := 164) (d := xs) fun x hx => lnVo_len (hok x hx)
  have htn : xs.length * (164 + 1) ≤ 1000 * 165 := Nat.mul_le_mul hq1 (Nat.le_refl _)
  replace hcs := Lib.hid hcs
  clear hq
  go_enter Tryz.func6, Tryz.ntmps6
  go_wp2_with (go_at_call 15; (with_reducible refine Calls.mono hcs.out ?_); rintro e w1 ⟨rfl, hb1⟩)
  have ht1 := ht.ext hb1
  replace h := h.ext hb1
  have hb0 := bld_new w1
  have hlow : ∀ wr, Ext w1 wr → Tab T0 wr := fun wr hr => ht1.ext hr
  replace hb0 := Lib.hid hb0
  replace hlow := Lib.hid hlow
  replace hl := Lib.hid hl
  go_loopw [15] (fun i wr => ∃ k : Nat, k ≤ n ∧ i = .int .i64 k ∧ BldF w1.heap.size w1.heap.size (Lib.byteCells (textG lnVo (xs.take k))) wr ∧ Ext w1 wr) (fun i _ => n - (intOf i).toNat)
  case atStart => exact ⟨0, Nat.zero_le _, rfl, hb0.out, (Ext.refl _).alloc _⟩
  case round =>
    obtain ⟨k, hk, rfl, hB, he⟩ := hrel
    by_cases hlt : k < n
    · obtain ⟨b, off, rfl, hb, hE⟩ := h.2.2 (by omega)
      obtain ⟨x, hx⟩ := getD_some hl.out hlt
      have hbw := Nat.lt_of_lt_of_le hb he.size
      obtain ⟨c0, c1, c2, c3⟩ := (hE.ext he hb).voi hx
      have hxo := hok x (List.mem_of_getElem? hx)
      have hxo2 := hxo
      obtain ⟨-, n1, n2, n3⟩ := hxo2
      obtain ⟨n1a, n1b⟩ := n1
      obtain ⟨n2a, n2b⟩ := n2
      obtain ⟨n3a, n3b⟩ := n3
      have hstep := textG_step (ln := lnVo) hx
      have hll := lnVo_len hxo
      have htk := textG_len (ln := lnVo) (m := 164) (d := xs.take k) fun y hy => lnVo_len (hok y (List.mem_of_mem_take hy))
      have htk2 : (xs.take k).length * (164 + 1) ≤ 1000 * 165 := Nat.mul_le_mul (by rw [List.length_take]; omega) (Nat.le_refl _)
      have hlen0 : (Lib.byteCells (textG lnVo (xs.take k))).length ≤ 900000 := by rw [Lib.byteCells_length]; omega
      have hkI : (k : Int) < n := by omega
      have hX := Lib.hid (Blk.new' (w := wr) (t := 37) (cs := #[.string x.name, .int .i64 x.fr, .int .i64 x.lo, .int .i64 x.hi]) rfl)
      have hex : Ext wr (wr.alloc (.cells #[.string x.name, .int .i64 x.fr, .int .i64 x.lo, .int .i64 x.hi] 37)) := (Ext.refl _).alloc _
      have htx := hlow.out _ (he.trans hex)
      have hBx := bld_ext hB hex
      have hkg : k + 1 ≤ n := hlt
      replace hstep := Lib.hid hstep
      replace hll := Lib.hid hll
      replace hlen0 := Lib.hid hlen0
      replace htx := Lib.hid htx
      replace hBx := Lib.hid hBx
      replace hxo := Lib.hid hxo
      clear hx hE hB htk htk2
      go_upto_region 8 with fail
      replace htx := htx.out
      refine wp_region_facts [] [([], false, false), ([0], false, false), ([], false, false), ([2], false, false), ([2, 3], false, false), ([], false, false), ([5], false, false), ([5, 6], false, false), ([5, 6, 7], false, false), ([], false, false), ([9], false, false), ([9, 10], false, false), ([9, 10, 11], false, false), ([0, 1, 2, 3, 4, 5, 6, 7, 8, 9, 10, 11, 12], false, true), ([0, 1, 2, 3, 4, 5, 6, 7, 8, 9, 10, 11, 12, 13], false, false)] (Ext) Ext (fun _ => True) (by kernel_rfl) (by kernel_rfl) Ext.refl (fun _ _ _ => Ext.trans) (fun _ _ h => h) (fun _ _ h => h.size) (fun _ _ h _ => h) trivial ?_
      dsimp only [List.length_cons, List.length_nil, List.drop_succ_cons, List.drop_zero, List.drop_nil]
      refine fac_quiet 0 rfl rfl rfl (fun _ _ h _ => h) rfl rfl ?_
      apply Exists.intro
      refine ⟨fun sv w' hw' hfa => ?_, ?_⟩
      · refine ⟨rfl, ?_⟩
        simp only [putsL]
        change quietTo _ _ _ _ (Sem.run _ (execOp (Act.eval _) _) _)
        try simp only [Act.put, List.setIfInBounds_toArray, List.set_cons_succ, List.set_cons_zero]
        simp [go_sem, quietTo, Ext.refl]
        all_goals first
          | rfl
      refine fac_quiet 1 rfl rfl rfl (fun _ _ h _ => h) rfl rfl ?_
      apply Exists.intro
      refine ⟨fun sv w' hw' hfa => ?_, ?_⟩
      · obtain ⟨f0, -⟩ := hfa
        replace f0 : sv 0 = _ := f0
        try dsimp only at f0
        obtain ⟨hc, hf, hz9⟩ := ((Ext.refl _).drew.trans hw').walk; have ht9 := htx.ext ((Ext.refl _).drew.trans hw'); have x0 := (hc _ 0 hX.out.lt).trans (hX.out.cell 0); have x1 := (hc _ 1 hX.out.lt).trans (hX.out.cell 1); have x2 := (hc _ 2 hX.out.lt).trans (hX.out.cell 2); have x3 := (hc _ 3 hX.out.lt).trans (hX.out.cell 3)
        refine ⟨rfl, ?_⟩
        simp only [putsL]
        change quietTo _ _ _ _ (Sem.run _ (execOp (Act.eval (Act.put _ (some 19) (sv 0))) _) _)
        try simp only [Act.put, List.setIfInBounds_toArray, List.set_cons_succ, List.set_cons_zero]
        simp [go_sem, quietTo, Ext.refl, ↓IntWalk.iteOmega, f0, x0]
        all_goals try simp (disch := omega) only [IntWalk.i64_in]
        all_goals first
          | rfl
      refine fac_quiet 2 rfl rfl rfl (fun _ _ h _ => h) rfl rfl ?_
      apply Exists.intro
      refine ⟨fun sv w' hw' hfa => ?_, ?_⟩
      · refine ⟨rfl, ?_⟩
        simp only [putsL]
        change quietTo _ _ _ _ (Sem.run _ (execOp (Act.eval _) _) _)
        try simp only [Act.put, List.setIfInBounds_toArray, List.set_cons_succ, List.set_cons_zero]
        simp [go_sem, quietTo, Ext.refl]
        all_goals first
          | rfl
      refine fac_quiet 3 rfl rfl rfl (fun _ _ h _ => h) rfl rfl ?_
      apply Exists.intro
      refine ⟨fun sv w' hw' hfa => ?_, ?_⟩
      · obtain ⟨f2, -⟩ := hfa
        replace f2 : sv 2 = _ := f2
        try dsimp only at f2
        obtain ⟨hc, hf, hz9⟩ := ((Ext.refl _).drew.trans hw').walk; have ht9 := htx.ext ((Ext.refl _).drew.trans hw'); have x0 := (hc _ 0 hX.out.lt).trans (hX.out.cell 0); have x1 := (hc _ 1 hX.out.lt).trans (hX.out.cell 1); have x2 := (hc _ 2 hX.out.lt).trans (hX.out.cell 2); have x3 := (hc _ 3 hX.out.lt).trans (hX.out.cell 3)
        refine ⟨rfl, ?_⟩
        simp only [putsL]
        change quietTo _ _ _ _ (Sem.run _ (execOp (Act.eval (Act.put _ (some 21) (sv 2))) _) _)
        try simp only [Act.put, List.setIfInBounds_toArray, List.set_cons_succ, List.set_cons_zero]
        simp [go_sem, quietTo, Ext.refl, ↓IntWalk.iteOmega, f2, x1]
        all_goals try simp (disch := omega) only [IntWalk.i64_in]
        all_goals first
          | rfl
      refine fac_quiet 4 rfl rfl rfl (fun _ _ h _ => h) rfl rfl ?_
      apply Exists.intro
      refine ⟨fun sv w' hw' hfa => ?_, ?_⟩
      · obtain ⟨f2, f3, -⟩ := hfa
        replace f2 : sv 2 = _ := f2
        try dsimp only at f2
        replace f3 : sv 3 = _ := f3
        try dsimp only at f3
        obtain ⟨hc, hf, hz9⟩ := ((Ext.refl _).drew.trans hw').walk; have ht9 := htx.ext ((Ext.refl _).drew.trans hw'); have x0 := (hc _ 0 hX.out.lt).trans (hX.out.cell 0); have x1 := (hc _ 1 hX.out.lt).trans (hX.out.cell 1); have x2 := (hc _ 2 hX.out.lt).trans (hX.out.cell 2); have x3 := (hc _ 3 hX.out.lt).trans (hX.out.cell 3)
        refine ⟨rfl, ?_⟩
        simp only [putsL]
        change quietTo _ _ _ _ (Sem.run _ (execOp (Act.eval (Act.put (Act.put _ (some 22) (sv 3)) (some 21) (sv 2))) _) _)
        try simp only [Act.put, List.setIfInBounds_toArray, List.set_cons_succ, List.set_cons_zero]
        simp [go_sem, quietTo, Ext.refl, ↓IntWalk.iteOmega, f3]
        all_goals try simp (disch := omega) only [IntWalk.i64_in]
        all_goals first
          | rfl
          | (exact itoaL_any _ (by omega) (by omega) T0 _ ht9)
      refine fac_quiet 5 rfl rfl rfl (fun _ _ h _ => h) rfl rfl ?_
      apply Exists.intro
      refine ⟨fun sv w' hw' hfa => ?_, ?_⟩
      · refine ⟨rfl, ?_⟩
        simp only [putsL]
        change quietTo _ _ _ _ (Sem.run _ (execOp (Act.eval _) _) _)
        try simp only [Act.put, List.setIfInBounds_toArray, List.set_cons_succ, List.set_cons_zero]
        simp [go_sem, quietTo, Ext.refl]
        all_goals first
          | rfl
      refine fac_quiet 6 rfl rfl rfl (fun _ _ h _ => h) rfl rfl ?_
      apply Exists.intro
      refine ⟨fun sv w' hw' hfa => ?_, ?_⟩
      · obtain ⟨f5, -⟩ := hfa
        replace f5 : sv 5 = _ := f5
        try dsimp only at f5
        refine ⟨rfl, ?_⟩
        simp only [putsL]
        change quietTo _ _ _ _ (Sem.run _ (execOp (Act.eval (Act.put _ (some 24) (sv 5))) _) _)
        try simp only [Act.put, List.setIfInBounds_toArray, List.set_cons_succ, List.set_cons_zero]
        simp [go_sem, quietTo, Ext.refl, f5]
        all_goals first
          | rfl
      refine fac_quiet 7 rfl rfl rfl (fun _ _ h _ => h) rfl rfl ?_
      apply Exists.intro
      refine ⟨fun sv w' hw' hfa => ?_, ?_⟩
      · obtain ⟨_, f6, -⟩ := hfa
        replace f6 : sv 6 = _ := f6
        try dsimp only at f6
        obtain ⟨hc, hf, hz9⟩ := ((Ext.refl _).drew.trans hw').walk; have ht9 := htx.ext ((Ext.refl _).drew.trans hw'); have x0 := (hc _ 0 hX.out.lt).trans (hX.out.cell 0); have x1 := (hc _ 1 hX.out.lt).trans (hX.out.cell 1); have x2 := (hc _ 2 hX.out.lt).trans (hX.out.cell 2); have x3 := (hc _ 3 hX.out.lt).trans (hX.out.cell 3)
        refine ⟨rfl, ?_⟩
        simp only [putsL]
        change quietTo _ _ _ _ (Sem.run _ (execOp (Act.eval (Act.put (Act.put _ (some 25) (sv 6)) (some 24) (sv 5))) _) _)
        try simp only [Act.put, List.setIfInBounds_toArray, List.set_cons_succ, List.set_cons_zero]
        simp [go_sem, quietTo, Ext.refl, ↓IntWalk.iteOmega, f6, x2]
        all_goals try simp (disch := omega) only [IntWalk.i64_in]
        all_goals first
          | rfl
      refine fac_quiet 8 rfl rfl rfl (fun _ _ h _ => h) rfl rfl ?_
      apply Exists.intro
      refine ⟨fun sv w' hw' hfa => ?_, ?_⟩
      · obtain ⟨f5, f6, f7, -⟩ := hfa
        replace f5 : sv 5 = _ := f5
        try dsimp only at f5
        replace f6 : sv 6 = _ := f6
        try dsimp only at f6
        replace f7 : sv 7 = _ := f7
        try dsimp only at f7
        obtain ⟨hc, hf, hz9⟩ := ((Ext.refl _).drew.trans hw').walk; have ht9 := htx.ext ((Ext.refl _).drew.trans hw'); have x0 := (hc _ 0 hX.out.lt).trans (hX.out.cell 0); have x1 := (hc _ 1 hX.out.lt).trans (hX.out.cell 1); have x2 := (hc _ 2 hX.out.lt).trans (hX.out.cell 2); have x3 := (hc _ 3 hX.out.lt).trans (hX.out.cell 3)
        refine ⟨rfl, ?_⟩
        simp only [putsL]
        change quietTo _ _ _ _ (Sem.run _ (execOp (Act.eval (Act.put (Act.put (Act.put _ (some 26) (sv 7)) (some 25) (sv 6)) (some 24) (sv 5))) _) _)
        try simp only [Act.put, List.setIfInBounds_toArray, List.set_cons_succ, List.set_cons_zero]
        simp [go_sem, quietTo, Ext.refl, ↓IntWalk.iteOmega, f7]
        all_goals try simp (disch := omega) only [IntWalk.i64_in]
        all_goals first
          | rfl
          | (exact itoaL_any _ (by omega) (by omega) T0 _ ht9)
      refine fac_quiet 9 rfl rfl rfl (fun _ _ h _ => h) rfl rfl ?_
      apply Exists.intro
      refine ⟨fun sv w' hw' hfa => ?_, ?_⟩
      · refine ⟨rfl, ?_⟩
        simp only [putsL]
        change quietTo _ _ _ _ (Sem.run _ (execOp (Act.eval _) _) _)
        try simp only [Act.put, List.setIfInBounds_toArray, List.set_cons_succ, List.set_cons_zero]
        simp [go_sem, quietTo, Ext.refl]
        all_goals first
          | rfl
      refine fac_quiet 10 rfl rfl rfl (fun _ _ h _ => h) rfl rfl ?_
      apply Exists.intro
      refine ⟨fun sv w' hw' hfa => ?_, ?_⟩
      · obtain ⟨f9, -⟩ := hfa
        replace f9 : sv 9 = _ := f9
        try dsimp only at f9
        refine ⟨rfl, ?_⟩
        simp only [putsL]
        change quietTo _ _ _ _ (Sem.run _ (execOp (Act.eval (Act.put _ (some 28) (sv 9))) _) _)
        try simp only [Act.put, List.setIfInBounds_toArray, List.set_cons_succ, List.set_cons_zero]
        simp [go_sem, quietTo, Ext.refl, f9]
        all_goals first
          | rfl
      refine fac_quiet 11 rfl rfl rfl (fun _ _ h _ => h) rfl rfl ?_
      apply Exists.intro
      refine ⟨fun sv w' hw' hfa => ?_, ?_⟩
      · obtain ⟨_, f10, -⟩ := hfa
        replace f10 : sv 10 = _ := f10
        try dsimp only at f10
        obtain ⟨hc, hf, hz9⟩ := ((Ext.refl _).drew.trans hw').walk; have ht9 := htx.ext ((Ext.refl _).drew.trans hw'); have x0 := (hc _ 0 hX.out.lt).trans (hX.out.cell 0); have x1 := (hc _ 1 hX.out.lt).trans (hX.out.cell 1); have x2 := (hc _ 2 hX.out.lt).trans (hX.out.cell 2); have x3 := (hc _ 3 hX.out.lt).trans (hX.out.cell 3)
        refine ⟨rfl, ?_⟩
        simp only [putsL]
        change quietTo _ _ _ _ (Sem.run _ (execOp (Act.eval (Act.put (Act.put _ (some 29) (sv 10)) (some 28) (sv 9))) _) _)
        try simp only [Act.put, List.setIfInBounds_toArray, List.set_cons_succ, List.set_cons_zero]
        simp [go_sem, quietTo, Ext.refl, ↓IntWalk.iteOmega, f10, x3]
        all_goals try simp (disch := omega) only [IntWalk.i64_in]
        all_goals first
          | rfl
      refine fac_quiet 12 rfl rfl rfl (fun _ _ h _ => h) rfl rfl ?_
      apply Exists.intro
      refine ⟨fun sv w' hw' hfa => ?_, ?_⟩
      · obtain ⟨f9, f10, f11, -⟩ := hfa
        replace f9 : sv 9 = _ := f9
        try dsimp only at f9
        replace f10 : sv 10 = _ := f10
        try dsimp only at f10
        replace f11 : sv 11 = _ := f11
        try dsimp only at f11
        obtain ⟨hc, hf, hz9⟩ := ((Ext.refl _).drew.trans hw').walk; have ht9 := htx.ext ((Ext.refl _).drew.trans hw'); have x0 := (hc _ 0 hX.out.lt).trans (hX.out.cell 0); have x1 := (hc _ 1 hX.out.lt).trans (hX.out.cell 1); have x2 := (hc _ 2 hX.out.lt).trans (hX.out.cell 2); have x3 := (hc _ 3 hX.out.lt).trans (hX.out.cell 3)
        refine ⟨rfl, ?_⟩
        simp only [putsL]
        change quietTo _ _ _ _ (Sem.run _ (execOp (Act.eval (Act.put (Act.put (Act.put _ (some 30) (sv 11)) (some 29) (sv 10)) (some 28) (sv 9))) _) _)
        try simp only [Act.put, List.setIfInBounds_toArray, List.set_cons_succ, List.set_cons_zero]
        simp [go_sem, quietTo, Ext.refl, ↓IntWalk.iteOmega, f11]
        all_goals try simp (disch := omega) only [IntWalk.i64_in]
        all_goals first
          | rfl
          | (exact itoaL_any _ (by omega) (by omega) T0 _ ht9)
      refine fac_row 13 rfl rfl rfl (fun _ _ h _ => h) (fun _ _ h => h.size) (fun _ _ _ _ _ he _ hb => hb.ext he) ?_
      apply Exists.intro
      apply Exists.intro
      apply Exists.intro
      apply Exists.intro
      refine ⟨fun sv w' hw' hfa => ?_, ?_⟩
      · obtain ⟨_, f1, _, _, f4, _, _, _, f8, _, _, _, f12, -⟩ := hfa
        replace f1 : sv 1 = _ := f1
        try dsimp only at f1
        replace f4 : sv 4 = _ := f4
        try dsimp only at f4
        replace f8 : sv 8 = _ := f8
        try dsimp only at f8
        replace f12 : sv 12 = _ := f12
        try dsimp only at f12
        refine ⟨rfl, ?_⟩
        simp only [putsL]
        change rowTo _ _ _ _ _ (Sem.run _ (execOp (Act.eval (Act.put (Act.put (Act.put (Act.put (Act.put (Act.put (Act.put (Act.put (Act.put (Act.put (Act.put (Act.put (Act.put _ (some 31) (sv 12)) (some 30) (sv 11)) (some 29) (sv 10)) (some 28) (sv 9)) (some 27) (sv 8)) (some 26) (sv 7)) (some 25) (sv 6)) (some 24) (sv 5)) (some 23) (sv 4)) (some 22) (sv 3)) (some 21) (sv 2)) (some 20) (sv 1)) (some 19) (sv 0))) _) _)
        try simp only [Act.put, List.setIfInBounds_toArray, List.set_cons_succ, List.set_cons_zero]
        simp [go_sem, rowTo, Ext.refl, f1, f4, f8, f12]
        all_goals try simp (disch := omega) only [IntWalk.i64_in]
        all_goals first
          | rfl
          | exact ⟨rfl, rfl⟩
          | exact ⟨⟨rfl, rfl⟩, rfl⟩
      refine fac_quiet 14 rfl rfl rfl (fun _ _ h _ => h) rfl rfl ?_
      apply Exists.intro
      refine ⟨fun sv w' hw' hfa => ?_, ?_⟩
      · obtain ⟨f0, f1, f2, f3, f4, f5, f6, f7, f8, f9, f10, f11, f12, f13, -⟩ := hfa
        replace f0 : sv 0 = _ := f0
        try dsimp only at f0
        replace f1 : sv 1 = _ := f1
        try dsimp only at f1
        replace f2 : sv 2 = _ := f2
        try dsimp only at f2
        replace f3 : sv 3 = _ := f3
        try dsimp only at f3
        replace f4 : sv 4 = _ := f4
        try dsimp only at f4
        replace f5 : sv 5 = _ := f5
        try dsimp only at f5
        replace f6 : sv 6 = _ := f6
        try dsimp only at f6
        replace f7 : sv 7 = _ := f7
        try dsimp only at f7
        replace f8 : sv 8 = _ := f8
        try dsimp only at f8
        replace f9 : sv 9 = _ := f9
        try dsimp only at f9
        replace f10 : sv 10 = _ := f10
        try dsimp only at f10
        replace f11 : sv 11 = _ := f11
        try dsimp only at f11
        replace f12 : sv 12 = _ := f12
        try dsimp only at f12
        obtain ⟨g13, f13, l13, b13⟩ := f13
        replace f13 : sv 13 = _ := f13
        obtain ⟨p13, q13⟩ := b13.walk
        obtain ⟨hc, hf, hz9⟩ := ((Ext.refl _).drew.trans hw').walk; have ht9 := htx.ext ((Ext.refl _).drew.trans hw'); have x0 := (hc _ 0 hX.out.lt).trans (hX.out.cell 0); have x1 := (hc _ 1 hX.out.lt).trans (hX.out.cell 1); have x2 := (hc _ 2 hX.out.lt).trans (hX.out.cell 2); have x3 := (hc _ 3 hX.out.lt).trans (hX.out.cell 3)
        refine ⟨rfl, ?_⟩
        simp only [putsL]
        change quietTo _ _ _ _ (Sem.run _ (execOp (Act.eval (Act.put (Act.put (Act.put (Act.put (Act.put (Act.put (Act.put (Act.put (Act.put (Act.put (Act.put (Act.put (Act.put (Act.put _ (some 32) (sv 13)) (some 31) (sv 12)) (some 30) (sv 11)) (some 29) (sv 10)) (some 28) (sv 9)) (some 27) (sv 8)) (some 26) (sv 7)) (some 25) (sv 6)) (some 24) (sv 5)) (some 23) (sv 4)) (some 22) (sv 3)) (some 21) (sv 2)) (some 20) (sv 1)) (some 19) (sv 0))) _) _)
        try simp only [Act.put, List.setIfInBounds_toArray, List.set_cons_succ, List.set_cons_zero]
        simp [go_sem, quietTo, Ext.refl, ↓IntWalk.iteOmega, f13, p13, q13]
        all_goals try simp (disch := omega) only [IntWalk.i64_in]
        all_goals first
          | rfl
          | (exact kitJoinVo b13 hll.out)
      refine fac_nil fun xa wra hera hfra hcra holda hapa => ?_
      obtain ⟨f0, f1, f2, f3, f4, f5, f6, f7, f8, f9, f10, f11, f12, f13, f14, -⟩ := hfra
      replace f0 : xa 0 = _ := f0
      try dsimp only at f0
      replace f1 : xa 1 = _ := f1
      try dsimp only at f1
      replace f2 : xa 2 = _ := f2
      try dsimp only at f2
      replace f3 : xa 3 = _ := f3
      try dsimp only at f3
      replace f4 : xa 4 = _ := f4
      try dsimp only at f4
      replace f5 : xa 5 = _ := f5
      try dsimp only at f5
      replace f6 : xa 6 = _ := f6
      try dsimp only at f6
      replace f7 : xa 7 = _ := f7
      try dsimp only at f7
      replace f8 : xa 8 = _ := f8
      try dsimp only at f8
      replace f9 : xa 9 = _ := f9
      try dsimp only at f9
      replace f10 : xa 10 = _ := f10
      try dsimp only at f10
      replace f11 : xa 11 = _ := f11
      try dsimp only at f11
      replace f12 : xa 12 = _ := f12
      try dsimp only at f12
      obtain ⟨g13, f13, l13, b13⟩ := f13
      replace f13 : xa 13 = _ := f13
      obtain ⟨p13, q13⟩ := b13.walk
      replace f14 : xa 14 = _ := f14
      try dsimp only at f14
      change wpList _ _ _ _ (Act.put (Act.put (Act.put (Act.put (Act.put (Act.put (Act.put (Act.put (Act.put (Act.put (Act.put (Act.put (Act.put (Act.put (Act.put _ (some 19) (xa 0)) (some 20) (xa 1)) (some 21) (xa 2)) (some 22) (xa 3)) (some 23) (xa 4)) (some 24) (xa 5)) (some 25) (xa 6)) (some 26) (xa 7)) (some 27) (xa 8)) (some 28) (xa 9)) (some 29) (xa 10)) (some 30) (xa 11)) (some 31) (xa 12)) (some 32) (xa 13)) (some 33) (xa 14)) _
      simp only [putsL, Nat.reduceAdd, List.drop_succ_cons, List.drop_zero, List.drop_nil, Act.put, List.setIfInBounds_toArray, List.set_cons_succ, List.set_cons_zero]
      try simp only [f0, f1, f2, f3, f4, f5, f6, f7, f8, f9, f10, f11, f12, f13, f14]
      clear f0 f1 f2 f3 f4 f5 f6 f7 f8 f9 f10 f11 f12 f14
      clear holda hapa
      have hka := (Ext.refl _).drew.trans hera
      have hBa := bld_ext hBx.out hka
      have hea := (he.trans hex).trans hka
      have hs8 := hea.size
      have hJ1 : (⟨(lnVo x).toArray⟩ : ByteArray).size ≤ 164 := by show (lnVo x).toArray.size ≤ _; simpa using hll.out
      have hJ2 : (lnVo x).toArray.size ≤ 164 := hJ1
      clear b13 p13 q13 f13 c0 c1 c2 c3
      go_wp2_with (go_at_call 29; (with_reducible refine Calls.mono (writeString_any w1.heap.size w1.heap.size _ _ _ hBa (by have := hlen0.out; have := hll.out; rw [lineB_size]; omega) hs8) ?_); rintro e w9 ⟨rfl, hB9, hb9, -⟩)
      go_roundw
      case rel =>
        refine ⟨k + 1, hkg, by go_num, ?_, Below.trans hea hb9⟩
        rw [hstep.out, bytes_step]
        exact hB9
      case measure => simp [intOf]; omega
    · obtain rfl : k = n := by omega
      rw [show xs.take k = xs by rw [← hl.out, List.take_length]] at hB
      have hs9 := he.size
      generalize hLt : textG lnVo xs = L at *
      replace hB := Lib.hid hB
      by_cases h2 : 200000 < L.length
      · have h2d : decide (200000 < (L.length : Int)) = true := by simp; omega
        go_wp2_with (go_at_call 32; (with_reducible refine Calls.mono (bldLen_any _ _ L _ hB.out) ?_); rintro e w9 ⟨rfl, rfl⟩)
        go_ret2
        exact ⟨by rw [hR.out, if_pos h2]; rfl, hb1.trans he⟩
      · have h2d : decide (200000 < (L.length : Int)) = false := by simp; omega
        go_wp2_with (first
          | (go_at_call 32; (with_reducible refine Calls.mono (bldLen_any _ _ L _ hB.out) ?_); rintro e w9 ⟨rfl, rfl⟩)
          | (go_at_call 33; (with_reducible refine Calls.mono (bldStr_any _ _ L _ hB.out hs9) ?_); rintro e w9 ⟨rfl, hb9⟩))
        go_ret2
        exact ⟨by rw [hR.out, if_neg h2]; rfl, hb1.trans (Below.trans he hb9)⟩
end Go.Proofs.YtboplnogfjmpnaaGreatDoor
