/- The melody that a stream makes, told exactly. Conditions: as each theorem says. -/
import Derived.Test.YtapjekpjekdlkaaDoorQDetA
import Derived.Test.YtapjekpjekdlkaaDoorQAppL
import Derived.Test.YtapjekpjekdlkaaDoorQFactsB
import Derived.Deep.DeepCutAuto
set_option linter.unusedSimpArgs false
set_option linter.unusedVariables false
namespace Go.Proofs.YtapjekpjekdlkaaDoor
open Go Go.RowKit

theorem intInf5 : (Tryd.prog.info? 3).map (fun i => (i.zero, i.size, i.bytes)) = some (some (.int .i64 0), 1, 8) := by kernel_rfl
/-- The notes of a melody: the first one, and n steps. -/
def mdN (L : Src) (a : Nat) : Nat → List Int
  | 0 => [pkF L a [60, 60, 64, 4]]
  | n + 1 => mdN L a n ++ [(mdN L a n).getD n 0 + pkF L (a + 2 + n) [-7, -4, -2, -2, -1, 0, 1, 2, 2, 4, 7]]
theorem mdN_len (L : Src) (a : Nat) : ∀ n, (mdN L a n).length = n + 1
  | 0 => rfl
  | n + 1 => by simp [mdN, mdN_len L a n]
def mdK (L : Src) (a : Nat) : Nat := (rgF L (a + 1) 0 8).toNat
def mdA (L : Src) (a : Nat) : List Int := mdN L a (mdK L a)
def mdB (L : Src) (a : Nat) : List Int := if flF L (a + 2 + mdK L a) 3 then mdA L a ++ [(mdA L a).getD 0 0] else mdA L a
def mdC (L : Src) (a : Nat) : List Int × Nat :=
  if flF L (a + 3 + mdK L a) 20 then ((mdB L a).set (nxF L (a + 4 + mdK L a) (mdB L a).length) (odF L (a + 5 + mdK L a) 0 127), a + 7 + mdK L a) else (mdB L a, a + 4 + mdK L a)
def mdF (L : Src) (a : Nat) : List Int × Nat := (if flF L (mdC L a).2 40 then [] else (mdC L a).1, (mdC L a).2 + 1)
theorem mdK_le (L : Src) (a : Nat) : mdK L a ≤ 8 := by
  unfold mdK
  have := (rgF_in (L := L) (a := a + 1) (lo := 0) (hi := 8) (by decide)).2
  omega
theorem mdF_le (L : Src) (a : Nat) : (mdF L a).2 ≤ a + 16 ∧ (mdF L a).1.length ≤ 10 := by
  have hk := mdK_le L a
  have hA : (mdA L a).length = mdK L a + 1 := mdN_len L a _
  have hB : (mdB L a).length ≤ 10 := by unfold mdB; split <;> simp [hA] <;> omega
  have hC : (mdC L a).1.length ≤ 10 ∧ (mdC L a).2 ≤ a + 15 := by unfold mdC; split <;> simp <;> omega
  unfold mdF
  refine ⟨by simp only; omega, ?_⟩
  simp only
  split
  · simp
  · exact hC.1
theorem mdN_in (L : Src) (a : Nat) : ∀ n x, x ∈ mdN L a n → -7 * (n : Int) ≤ x ∧ x ≤ 64 + 7 * n
  | 0, x, h => by
    have := pkF_in (L := L) (a := a) (xs := [60, 60, 64, 4]) (lo := 4) (hi := 64) (by simp) (by simp)
    rw [List.mem_singleton.1 h]
    omega
  | n + 1, x, h => by
    rcases List.mem_append.1 h with h1 | h1
    · have := mdN_in L a n x h1; omega
    · have hp := pkF_in (L := L) (a := a + 2 + n) (xs := [-7, -4, -2, -2, -1, 0, 1, 2, 2, 4, 7]) (lo := -7) (hi := 7) (by simp) (by simp)
      have hl := mdN_len L a n
      have hm : (mdN L a n).getD n 0 ∈ mdN L a n := by rw [List.getD_eq_getElem?_getD, List.getElem?_eq_getElem (by omega)]; exact List.getElem_mem _
      have := mdN_in L a n _ hm
      rw [List.mem_singleton.1 h1]
      omega

set_option maxRecDepth 100000 in
set_option maxHeartbeats 6400000 in
theorem melody_det (s a : Nat) (L : Src) (w : World) (hk : a ≤ 900000) (h : StrL w s L a) :
    Calls Tryd.prog 5 #[.pointer (some ⟨s, 0, none⟩), .int .i64 8] w fun e w' => ∃ v, e = .returned v ∧ w'.ownsRow w.heap.size 3 1 v (mdF L a).1.length ((mdF L a).1.flatMap intC) ∧ StrL w' s L (mdF L a).2 ∧ ExtS s w w' := by
  have l0 := h.lt
  have hKl := mdK_le L a
  have hKr : rgF L (a + 1) 0 8 = ((mdK L a : Nat) : Int) := by
    have := (rgF_in (L := L) (a := a + 1) (lo := 0) (hi := 8) (by decide)).1
    unfold mdK; omega
  have hE0 : Ext w (w.alloc (.cells #[.int .i64 60, .int .i64 60, .int .i64 64, .int .i64 4] 3)) := (Ext.refl _).alloc _
  have hB0 : Blk (w.alloc (.cells #[.int .i64 60, .int .i64 60, .int .i64 64, .int .i64 4] 3)) w.heap.size 3 #[.int .i64 60, .int .i64 60, .int .i64 64, .int .i64 4] := Blk.new' rfl
  obtain ⟨p0, hp0⟩ : ∃ p, pkF L a [60, 60, 64, 4] = p := ⟨_, rfl⟩
  have hpk := pick_det s a w.heap.size 3 4 [60, 60, 64, 4] L _ (by omega) (by simp) (by simp) (h.ext hE0) (by omega) hB0
  rw [hp0] at hpk
  have hS0 := h.ext hE0
  replace hpk := Lib.hid hpk
  go_enter Tryd.func5, Tryd.ntmps5
  go_upto_region 2 with (go_at_call 20; (with_reducible refine Calls.mono hpk.out ?_); rintro e w1 ⟨rfl, hS1, hE1⟩)
  have hE2 : ExtS s w (w1.alloc (.cells #[.int .i64 p0] 3)) := (hE0.extS.trans hE1).alloc _
  have hS2 : StrL (w1.alloc (.cells #[.int .i64 p0] 3)) s L (a + 1) := hS1.ext ((Ext.refl _).alloc _)
  have hz1 : w.heap.size ≤ w1.heap.size := (hE0.extS.trans hE1).2.2.2.1
  have ho2 : (w1.alloc (.cells #[.int .i64 p0] 3)).ownsRow w.heap.size 3 1 (.slice (some ⟨w1.heap.size, 0, none⟩) 1 1) 1 ((mdN L a 0).flatMap intC) := by
    have hb : Blk (w1.alloc (.cells #[.int .i64 p0] 3)) w1.heap.size 3 #[.int .i64 p0] := Blk.new' rfl
    have e : mdN L a 0 = [p0] := by rw [← hp0]; rfl
    rw [e]
    exact ⟨rfl, .inr ⟨w1.heap.size, 1, _, rfl, hz1, hb, Nat.le_refl _, by decide, rfl, rfl⟩⟩
  generalize w1.alloc (.cells #[.int .i64 p0] 3) = W2 at *
  generalize w1.heap.size = g1 at *
  have hrg := range_det s (a + 1) 0 8 L W2 (by omega) (by decide) (by decide) (by decide) (by decide) hS2
  rw [hKr] at hrg
  generalize hKK : mdK L a = K at *
  replace hrg := Lib.hid hrg
  replace ho2 := Lib.hid ho2
  replace hKK := Lib.hid hKK
  go_upto_region 3 with (go_at_call 22; (with_reducible refine Calls.mono hrg.out ?_); rintro e w3 ⟨rfl, hS3, hE3⟩)
  have hE3' := hE2.trans hE3
  have ho3 := own_extS hE3 l0 ho2.out
  have hz3 : w.heap.size ≤ w3.heap.size := hE3'.2.2.2.1
  clear hS1 hE1 hE2 hS2 ho2 hE3 hE0 hB0 hS0 hrg hpk
  replace ho3 := Lib.hid ho3
  go_loopw [5, 13] (fun v5 v13 wr => ∃ j : Nat, v13 = .int .i64 j ∧ j ≤ K ∧ wr.ownsRow w.heap.size 3 1 v5 (j + 1) ((mdN L a j).flatMap intC) ∧ StrL wr s L (a + 2 + j) ∧ ExtS s w wr) (fun _ v13 _ => K - (intOf v13).toNat)
  case atStart => exact ⟨0, rfl, Nat.zero_le _, ho3.out, hS3, hE3'⟩
  case round =>
    clear ho3 hS3 hE3'
    obtain ⟨j, rfl, hj, hown, hS, hE⟩ := hrel
    by_cases hlt : j < K
    · have hjI : (j : Int) < K := by omega
      obtain ⟨b, c, rfl, hwb, hnc⟩ := hown.form (by omega)
      obtain ⟨x, hx⟩ := getD_some (mdN_len L a j) (show j < j + 1 by omega)
      have hxb := mdN_in L a j x (List.mem_of_getElem? hx)
      have c0 : wr.cell? ⟨b, j, none⟩ = some (.int .i64 x) := by
        have := own_cell intC_len hown hx 0 (v := .int .i64 x) rfl (by omega)
        simpa using this
      obtain ⟨q, hq⟩ : ∃ q, pkF L (a + 2 + j) [-7, -4, -2, -2, -1, 0, 1, 2, 2, 4, 7] = q := ⟨_, rfl⟩
      have hqb := pkF_in (L := L) (a := a + 2 + j) (xs := [-7, -4, -2, -2, -1, 0, 1, 2, 2, 4, 7]) (lo := -7) (hi := 7) (by simp) (by simp)
      rw [hq] at hqb
      have hN : mdN L a (j + 1) = mdN L a j ++ [x + q] := by
        show _ ++ [(mdN L a j).getD j 0 + pkF L (a + 2 + j) _] = _
        rw [hq, List.getD_eq_getElem?_getD, hx]; rfl
      have hbl := (hown.lt b rfl).2
      have hbs : b ≠ s := by omega
      have hsl : s < wr.drew.heap.size := hS.lt
      have hSd : StrL wr.drew s L (a + 2 + j) := hS.ext (Ext.drew (Ext.refl _))
      have hjI2 : (j : Int) < j + 1 := by omega
      replace hq := Lib.hid hq
      replace hN := Lib.hid hN
      replace hown := Lib.hid hown
      clear hx
      go_upto_region 4 with fail
      refine wp_region_facts [] [([], false, false), ([], false, false), ([], false, false), ([2], false, false), ([2, 3], false, false), ([1, 2, 3, 4], false, false), ([1, 2, 3, 4, 5], false, false), ([], false, false), ([], false, true), ([7, 8], true, false), ([1, 2, 3, 4, 5, 6, 7, 8, 9], false, false), ([1, 2, 3, 4, 5, 6, 7, 8, 9, 10], false, true)] (ExtS s) Ext (fun w => StrL w s L (a + 2 + j)) (by kernel_rfl) (by kernel_rfl) Ext.refl (fun _ _ _ => ExtS.trans) (fun _ _ h => h.extS) (fun _ _ h => h.2.2.2.1) (fun _ _ h he => h.ext he) hSd ?_
      dsimp only [List.length_cons, List.length_nil, List.drop_succ_cons, List.drop_zero, List.drop_nil]
      refine fac_quiet 0 rfl rfl rfl (fun _ _ h he => h.ext he) rfl rfl ?_
      apply Exists.intro
      refine ⟨fun sv w' hw' hfa => ?_, ?_⟩
      · refine ⟨rfl, ?_⟩
        simp only [putsL]
        change quietTo _ _ _ _ (Sem.run _ (execOp (Act.eval _) _) _)
        try simp only [Act.put, List.setIfInBounds_toArray, List.set_cons_succ, List.set_cons_zero]
        simp [go_sem, quietTo, Ext.refl]
        all_goals first
          | rfl
      refine fac_quiet 1 rfl rfl rfl (fun _ _ h he => h.ext he) rfl rfl ?_
      apply Exists.intro
      refine ⟨fun sv w' hw' hfa => ?_, ?_⟩
      · refine ⟨rfl, ?_⟩
        simp only [putsL]
        change quietTo _ _ _ _ (Sem.run _ (execOp (Act.eval _) _) _)
        try simp only [Act.put, List.setIfInBounds_toArray, List.set_cons_succ, List.set_cons_zero]
        simp [go_sem, quietTo, Ext.refl]
        all_goals first
          | rfl
      refine fac_quiet 2 rfl rfl rfl (fun _ _ h he => h.ext he) rfl rfl ?_
      apply Exists.intro
      refine ⟨fun sv w' hw' hfa => ?_, ?_⟩
      · refine ⟨rfl, ?_⟩
        simp only [putsL]
        change quietTo _ _ _ _ (Sem.run _ (execOp (Act.eval _) _) _)
        try simp only [Act.put, List.setIfInBounds_toArray, List.set_cons_succ, List.set_cons_zero]
        simp [go_sem, quietTo, Ext.refl]
        all_goals first
          | rfl
      refine fac_quiet 3 rfl rfl rfl (fun _ _ h he => h.ext he) rfl rfl ?_
      apply Exists.intro
      refine ⟨fun sv w' hw' hfa => ?_, ?_⟩
      · obtain ⟨f2, -⟩ := hfa
        replace f2 : sv 2 = _ := f2
        try dsimp only at f2
        refine ⟨rfl, ?_⟩
        simp only [putsL]
        change quietTo _ _ _ _ (Sem.run _ (execOp (Act.eval (Act.put _ (some 17) (sv 2))) _) _)
        try simp only [Act.put, List.setIfInBounds_toArray, List.set_cons_succ, List.set_cons_zero]
        simp [go_sem, quietTo, Ext.refl, ↓IntWalk.iteOmega, f2]
        all_goals try simp (disch := omega) only [IntWalk.i64_in]
        all_goals first
          | rfl
      refine fac_quiet 4 rfl rfl rfl (fun _ _ h he => h.ext he) rfl rfl ?_
      apply Exists.intro
      refine ⟨fun sv w' hw' hfa => ?_, ?_⟩
      · obtain ⟨_, f3, -⟩ := hfa
        replace f3 : sv 3 = _ := f3
        try dsimp only at f3
        refine ⟨rfl, ?_⟩
        simp only [putsL]
        change quietTo _ _ _ _ (Sem.run _ (execOp (Act.eval (Act.put (Act.put _ (some 18) (sv 3)) (some 17) (sv 2))) _) _)
        try simp only [Act.put, List.setIfInBounds_toArray, List.set_cons_succ, List.set_cons_zero]
        simp [go_sem, quietTo, Ext.refl, ↓IntWalk.iteOmega, f3]
        all_goals try simp (disch := omega) only [IntWalk.i64_in]
        all_goals first
          | rfl
      refine fac_quiet 5 rfl rfl rfl (fun _ _ h he => h.ext he) rfl rfl ?_
      apply Exists.intro
      refine ⟨fun sv w' hw' hfa => ?_, ?_⟩
      · obtain ⟨f1, _, _, f4, -⟩ := hfa
        replace f1 : sv 1 = _ := f1
        try dsimp only at f1
        replace f4 : sv 4 = _ := f4
        try dsimp only at f4
        have d0 : w'.cell? ⟨b, j, none⟩ = some (.int .i64 x) := (hw'.cell hbl hbs _).trans c0
        refine ⟨rfl, ?_⟩
        simp only [putsL]
        change quietTo _ _ _ _ (Sem.run _ (execOp (Act.eval (Act.put (Act.put (Act.put (Act.put _ (some 19) (sv 4)) (some 18) (sv 3)) (some 17) (sv 2)) (some 16) (sv 1))) _) _)
        try simp only [Act.put, List.setIfInBounds_toArray, List.set_cons_succ, List.set_cons_zero]
        simp [go_sem, quietTo, Ext.refl, ↓IntWalk.iteOmega, f1, f4, hjI2]
        all_goals try simp (disch := omega) only [IntWalk.i64_in]
        all_goals first
          | rfl
      refine fac_quiet 6 rfl rfl rfl (fun _ _ h he => h.ext he) rfl rfl ?_
      apply Exists.intro
      refine ⟨fun sv w' hw' hfa => ?_, ?_⟩
      · obtain ⟨_, _, _, _, f5, -⟩ := hfa
        replace f5 : sv 5 = _ := f5
        try dsimp only at f5
        have d0 : w'.cell? ⟨b, j, none⟩ = some (.int .i64 x) := (hw'.cell hbl hbs _).trans c0
        refine ⟨rfl, ?_⟩
        simp only [putsL]
        change quietTo _ _ _ _ (Sem.run _ (execOp (Act.eval (Act.put (Act.put (Act.put (Act.put (Act.put _ (some 20) (sv 5)) (some 19) (sv 4)) (some 18) (sv 3)) (some 17) (sv 2)) (some 16) (sv 1))) _) _)
        try simp only [Act.put, List.setIfInBounds_toArray, List.set_cons_succ, List.set_cons_zero]
        simp [go_sem, quietTo, Ext.refl, ↓IntWalk.iteOmega, f5, d0]
        all_goals try simp (disch := omega) only [IntWalk.i64_in]
        all_goals first
          | rfl
      refine fac_quiet 7 rfl rfl rfl (fun _ _ h he => h.ext he) rfl rfl ?_
      apply Exists.intro
      refine ⟨fun sv w' hw' hfa => ?_, ?_⟩
      · refine ⟨rfl, ?_⟩
        simp only [putsL]
        change quietTo _ _ _ _ (Sem.run _ (execOp (Act.eval _) _) _)
        try simp only [Act.put, List.setIfInBounds_toArray, List.set_cons_succ, List.set_cons_zero]
        simp [go_sem, quietTo, Ext.refl]
        all_goals first
          | rfl
      refine fac_row 8 rfl rfl rfl (fun _ _ h he => h.ext he) (fun _ _ h => h.2.2.2.1) (fun _ _ _ _ _ he hg hb => hb.extS (Nat.ne_of_gt (Nat.lt_of_lt_of_le hsl hg)) he) ?_
      apply Exists.intro
      apply Exists.intro
      apply Exists.intro
      apply Exists.intro
      refine ⟨fun sv w' hw' hfa => ?_, ?_⟩
      · refine ⟨rfl, ?_⟩
        simp only [putsL]
        change rowTo _ _ _ _ _ (Sem.run _ (execOp (Act.eval _) _) _)
        try simp only [Act.put, List.setIfInBounds_toArray, List.set_cons_succ, List.set_cons_zero]
        simp [go_sem, rowTo, Ext.refl]
        all_goals try simp (disch := omega) only [IntWalk.i64_in]
        all_goals first
          | rfl
          | exact ⟨rfl, rfl⟩
          | exact ⟨⟨rfl, rfl⟩, rfl⟩
      refine fac_loud 9 rfl rfl rfl ?_
      refine ⟨(fun y _ => y 9 = .int .i64 q), (fun w => StrL w s L (a + 2 + j + 1)), fun sv w' hw' hfa hcc => ?_, ?_, ?_, ?_⟩
      · obtain ⟨f7, f8, -⟩ := hfa
        replace f7 : sv 7 = _ := f7
        try dsimp only at f7
        obtain ⟨g8, f8, l8, b8⟩ := f8
        replace f8 : sv 8 = _ := f8
        obtain ⟨p8, q8⟩ := b8.walk
        have d0 : w'.cell? ⟨b, j, none⟩ = some (.int .i64 x) := (hw'.cell hbl hbs _).trans c0
        refine ⟨rfl, ?_⟩
        simp only [putsL]
        change outc _ _ (Sem.run _ (execOp (Act.eval (Act.put (Act.put _ (some 23) (sv 8)) (some 22) (sv 7))) _) _)
        try simp only [Act.put, List.setIfInBounds_toArray, List.set_cons_succ, List.set_cons_zero]
        simp [go_sem, outc, f7, f8, p8, q8]
        refine (pick_det s (a + 2 + j) _ _ 11 [-7, -4, -2, -2, -1, 0, 1, 2, 2, 4, 7] L _ (by omega) (by simp) (by simp) hcc (by omega) b8).mono ?_
        rintro e w4 ⟨rfl, hS4, hE4⟩
        exact ⟨_, rfl, ⟨hE4, hS4⟩, by rw [← hq.out]; rfl⟩
      · intro x w w' h he; exact h
      · exact fun _ _ h he => h.ext he
      refine fac_quiet 10 rfl rfl rfl (fun _ _ h he => h.ext he) rfl rfl ?_
      apply Exists.intro
      refine ⟨fun sv w' hw' hfa => ?_, ?_⟩
      · obtain ⟨_, _, _, _, _, f6, _, f8, f9, -⟩ := hfa
        replace f6 : sv 6 = _ := f6
        try dsimp only at f6
        obtain ⟨g8, f8, l8, b8⟩ := f8
        replace f8 : sv 8 = _ := f8
        obtain ⟨p8, q8⟩ := b8.walk
        replace f9 : sv 9 = _ := f9
        refine ⟨rfl, ?_⟩
        simp only [putsL]
        change quietTo _ _ _ _ (Sem.run _ (execOp (Act.eval (Act.put (Act.put (Act.put (Act.put (Act.put (Act.put (Act.put (Act.put (Act.put _ (some 24) (sv 9)) (some 23) (sv 8)) (some 22) (sv 7)) (some 21) (sv 6)) (some 20) (sv 5)) (some 19) (sv 4)) (some 18) (sv 3)) (some 17) (sv 2)) (some 16) (sv 1))) _) _)
        try simp only [Act.put, List.setIfInBounds_toArray, List.set_cons_succ, List.set_cons_zero]
        simp [go_sem, quietTo, Ext.refl, ↓IntWalk.iteOmega, f6, f9, p8, q8]
        all_goals try simp (disch := omega) only [IntWalk.i64_in]
        all_goals first
          | rfl
      refine fac_row 11 rfl rfl rfl (fun _ _ h he => h.ext he) (fun _ _ h => h.2.2.2.1) (fun _ _ _ _ _ he hg hb => hb.extS (Nat.ne_of_gt (Nat.lt_of_lt_of_le hsl hg)) he) ?_
      apply Exists.intro
      apply Exists.intro
      apply Exists.intro
      apply Exists.intro
      refine ⟨fun sv w' hw' hfa => ?_, ?_⟩
      · obtain ⟨_, _, _, _, _, _, _, _, _, f10, -⟩ := hfa
        replace f10 : sv 10 = _ := f10
        try dsimp only at f10
        refine ⟨rfl, ?_⟩
        simp only [putsL]
        change rowTo _ _ _ _ _ (Sem.run _ (execOp (Act.eval (Act.put (Act.put (Act.put (Act.put (Act.put (Act.put (Act.put (Act.put (Act.put (Act.put _ (some 25) (sv 10)) (some 24) (sv 9)) (some 23) (sv 8)) (some 22) (sv 7)) (some 21) (sv 6)) (some 20) (sv 5)) (some 19) (sv 4)) (some 18) (sv 3)) (some 17) (sv 2)) (some 16) (sv 1))) _) _)
        try simp only [Act.put, List.setIfInBounds_toArray, List.set_cons_succ, List.set_cons_zero]
        simp [go_sem, rowTo, Ext.refl, f10]
        all_goals try simp (disch := omega) only [IntWalk.i64_in]
        all_goals first
          | rfl
          | exact ⟨rfl, rfl⟩
          | exact ⟨⟨rfl, rfl⟩, rfl⟩
      refine fac_nil fun xq wrq herq hfrq hcrq holdq hapq => ?_
      obtain ⟨f0, f1, f2, f3, f4, f5, f6, f7, f8, f9, f10, f11, -⟩ := hfrq
      replace f0 : xq 0 = _ := f0
      try dsimp only at f0
      replace f1 : xq 1 = _ := f1
      try dsimp only at f1
      replace f2 : xq 2 = _ := f2
      try dsimp only at f2
      replace f3 : xq 3 = _ := f3
      try dsimp only at f3
      replace f4 : xq 4 = _ := f4
      try dsimp only at f4
      replace f5 : xq 5 = _ := f5
      try dsimp only at f5
      replace f6 : xq 6 = _ := f6
      try dsimp only at f6
      replace f7 : xq 7 = _ := f7
      try dsimp only at f7
      obtain ⟨g8, f8, l8, b8⟩ := f8
      replace f8 : xq 8 = _ := f8
      obtain ⟨p8, q8⟩ := b8.walk
      replace f9 : xq 9 = _ := f9
      replace f10 : xq 10 = _ := f10
      try dsimp only at f10
      obtain ⟨g11, f11, l11, b11⟩ := f11
      replace f11 : xq 11 = _ := f11
      obtain ⟨p11, q11⟩ := b11.walk
      change wpList _ _ _ _ (Act.put (Act.put (Act.put (Act.put (Act.put (Act.put (Act.put (Act.put (Act.put (Act.put (Act.put (Act.put _ (some 15) (xq 0)) (some 16) (xq 1)) (some 17) (xq 2)) (some 18) (xq 3)) (some 19) (xq 4)) (some 20) (xq 5)) (some 21) (xq 6)) (some 22) (xq 7)) (some 23) (xq 8)) (some 24) (xq 9)) (some 25) (xq 10)) (some 26) (xq 11)) _
      simp only [putsL, Nat.reduceAdd, List.drop_succ_cons, List.drop_zero, List.drop_nil, Act.put, List.setIfInBounds_toArray, List.set_cons_succ, List.set_cons_zero]
      try simp only [f0, f1, f2, f3, f4, f5, f6, f7, f8, f9, f10, f11]
      clear f0 f1 f2 f3 f4 f5 f6 f7 f10
      clear holdq hapq
      have hqE : ExtS s wr wrq := (ExtS.refl s wr).drew.trans herq
      have hoq := own_extS hqE l0 hown.out
      have hEq := hE.trans hqE
      have hSq : StrL wrq s L (a + 2 + j + 1) := hcrq
      have hzq : w.heap.size ≤ wrq.heap.size := hEq.2.2.2.1
      go_wp2_with (at_builtin; go_loud (refine wp_app1 _ (.tmp 15) (.tmp 26) 22 3 1 8 (.int .i64 0) rfl rfl Tryd.underlying22 intInf5 rfl (by decide) (by decide) w.heap.size _ (j + 1) _ rfl hoq g11 (intC (x + q)) rfl rfl b11 (by simp [intC, Value.oneCell']) (by omega) hzq ?_; intro v8 w8 hown8 hgrow8 _))
      go_roundw
      case rel => exact ⟨j + 1, by go_num, by omega, by rw [hN.out, List.flatMap_append]; exact hown8, (hSq.app hoq l0 hgrow8).at (by omega), hEq.app hoq (Nat.le_refl _) hgrow8⟩
      case measure => simp [intOf]; omega
    · obtain rfl : j = K := by omega
      have hAl : (mdA L a).length = j + 1 := by unfold mdA; rw [hKK.out]; exact mdN_len L a j
      have hAe : mdA L a = mdN L a j := by unfold mdA; rw [hKK.out]
      rw [← hAe] at hown
      obtain ⟨f3, hf3⟩ : ∃ q, flF L (a + 2 + j) 3 = q := ⟨_, rfl⟩
      have hBe : mdB L a = if f3 then mdA L a ++ [(mdA L a).getD 0 0] else mdA L a := by rw [← hf3, ← hKK.out]; rfl
      have hCe : mdC L a = if flF L (a + 3 + j) 20 then ((mdB L a).set (nxF L (a + 4 + j) (mdB L a).length) (odF L (a + 5 + j) 0 127), a + 7 + j) else (mdB L a, a + 4 + j) := by rw [← hKK.out]; rfl
      have hDe : mdF L a = (if flF L (mdC L a).2 40 then [] else (mdC L a).1, (mdC L a).2 + 1) := rfl
      have hAb := fun x hx => mdN_in L a j x (hAe ▸ hx)
      generalize mdA L a = A at *
      generalize mdB L a = B at *
      generalize mdC L a = CC at *
      generalize hDD : mdF L a = DD at *
      replace hDD := Lib.hid hDD
      obtain ⟨D, d2⟩ := DD
      obtain ⟨C, c2⟩ := CC
      simp only [Prod.mk.injEq] at hDe ⊢
      obtain ⟨hD1, hD2⟩ := hDe
      replace hCe := Lib.hid hCe
      replace hBe := Lib.hid hBe
      replace hD1 := Lib.hid hD1
      replace hD2 := Lib.hid hD2
      replace hAb := Lib.hid hAb
      clear hAe
      replace hown := Lib.hid hown
      go_upto_if 30 with (go_at_call 8; refine (flip_det s (a + 2 + j) 3 L _ (by omega) (by omega) (by omega) hS).mono ?_; rw [hf3]; rintro e w4 ⟨rfl, hS4, hE4⟩)
      have ho4 := own_extS hE4 l0 hown.out
      have hE4' := hE.trans hE4
      have hz4 : w.heap.size ≤ w4.heap.size := hE4'.2.2.2.1
      clear hown hS hE hE4 hf3
      replace ho4 := Lib.hid ho4
      go_cut [5] (fun v5 wc' => wc'.ownsRow w.heap.size 3 1 v5 B.length (B.flatMap intC) ∧ 0 < B.length ∧ StrL wc' s L (a + 3 + j) ∧ ExtS s w wc')
      case first =>
        cases f3
        · have hb2 := hBe.out
          simp only [Bool.false_eq_true, if_false] at hb2
          subst hb2
          go_wp2
          go_meet
          exact ⟨by rw [hAl]; exact ho4.out, by omega, hS4.at (by omega), hE4'⟩
        · have hb2 := hBe.out
          simp only [if_true] at hb2
          have ho4b := ho4.out
          obtain ⟨b, c, rfl, hwb, hnc⟩ := ho4b.form (by omega)
          obtain ⟨x, hx⟩ := getD_some hAl (show 0 < j + 1 by omega)
          have c0 : w4.cell? ⟨b, 0, none⟩ = some (.int .i64 x) := by
            have := own_cell intC_len ho4b hx 0 (v := .int .i64 x) rfl (by omega)
            simpa using this
          have hbl := (ho4b.lt b rfl).2
          have hjI3 : (0 : Int) < j + 1 := by omega
          have hg0 : A.getD 0 0 = x := by rw [List.getD_eq_getElem?_getD, hx]; rfl
          have hEa : Ext w4 (w4.alloc (.cells #[.int .i64 x] 3)) := (Ext.refl _).alloc _
          have ho5 := own_ext hEa ho4b
          have hS5 := hS4.ext hEa
          have hz5 : w.heap.size ≤ (w4.alloc (.cells #[.int .i64 x] 3)).heap.size := Nat.le_trans hz4 hEa.size
          clear hx
          go_wp2_with (at_builtin; go_loud (refine wp_app1 _ (.tmp 31) (.tmp 35) 22 3 1 8 (.int .i64 0) rfl rfl Tryd.underlying22 intInf5 rfl (by decide) (by decide) w.heap.size _ (j + 1) _ rfl ho5 w4.heap.size (intC x) rfl rfl (Blk.new' rfl) (by simp [intC, Value.oneCell']) (by omega) hz5 ?_; intro v8 w8 hown8 hgrow8 _))
          go_meet
          have hBl : B.length = j + 1 + 1 := by rw [hb2, List.length_append, hAl]; rfl
          exact ⟨by rw [hBl, hb2, hg0, List.flatMap_append]; exact hown8, by omega, (hS5.app ho5 l0 hgrow8).at (by omega), (hE4'.ext hEa).app ho5 (Nat.le_refl _) hgrow8⟩
      case rest =>
        clear ho4 hS4 hE4' hz4
        obtain ⟨hown, hBl0, hS, hE⟩ := hcut
        have hBl10 : B.length ≤ 10 := by
          have hb2 := hBe.out
          have := hKl
          cases f3
          · simp only [Bool.false_eq_true, if_false] at hb2; rw [hb2]; omega
          · simp only [if_true] at hb2; rw [hb2, List.length_append, hAl, List.length_singleton]; omega
        clear hBe
        replace hown := Lib.hid hown
        obtain ⟨f4, hf4⟩ : ∃ q, flF L (a + 3 + j) 20 = q := ⟨_, rfl⟩
        have hC2 := hCe.out
        rw [hf4] at hC2
        replace hC2 := Lib.hid hC2
        clear hCe
        go_upto_if 38 with (go_at_call 8; refine (flip_det s (a + 3 + j) 20 L _ (by omega) (by omega) (by omega) hS).mono ?_; rw [hf4]; rintro e w4 ⟨rfl, hS4, hE4⟩)
        have ho4 := own_extS hE4 l0 hown.out
        have hE4' := hE.trans hE4
        clear hown hS hE hE4 hf4
        replace ho4 := Lib.hid ho4
        go_cut [5] (fun v5 wc' => wc'.ownsRow w.heap.size 3 1 v5 C.length (C.flatMap intC) ∧ C.length ≤ 10 ∧ c2 ≤ a + 7 + j ∧ StrL wc' s L c2 ∧ ExtS s w wc')
        case first =>
          cases f4
          · have hc := hC2.out
            simp only [Bool.false_eq_true, if_false, Prod.mk.injEq] at hc
            obtain ⟨rfl, rfl⟩ := hc
            go_wp2
            go_meet
            exact ⟨ho4.out, hBl10, by omega, hS4.at (by omega), hE4'⟩
          · have hc := hC2.out
            simp only [if_true, Prod.mk.injEq] at hc
            have ho4b := ho4.out
            obtain ⟨b, c, rfl, hwb, hnc⟩ := ho4b.form (by omega)
            obtain ⟨q, hq⟩ : ∃ q, nxF L (a + 4 + j) B.length = q := ⟨_, rfl⟩
            rw [hq] at hc
            obtain ⟨rfl, rfl⟩ := hc
            have hqB : q < B.length := by rw [← hq]; exact nxF_lt L _ _ hBl0
            obtain ⟨x, hx⟩ := getD_some (rfl : B.length = B.length) hqB
            have hqI : (q : Int) < B.length := by omega
            have hBI : (B.length : Int) ≤ 10 := by omega
            have hnx := next_det s (a + 4 + j) B.length L w4 (by omega) hBl0 (by omega) (hS4.at (by omega))
            rw [hq] at hnx
            replace hnx := Lib.hid hnx
            replace hx := Lib.hid hx
            clear hq
            go_wp2_with (first
              | (go_at_call 10; (with_reducible refine Calls.mono hnx.out ?_); rintro e w5 ⟨rfl, hS5, hE5⟩)
              | (go_at_call 23; (with_reducible refine Calls.mono (odd_det s (a + 4 + j + 1) 0 127 L _ (by omega) (by omega) (by omega) (by omega) (by omega) hS5) ?_); rintro e w6 ⟨rfl, hS6, hE6⟩; have ho6 := own_extS (hE5.trans hE6) l0 ho4b; have c6 : w6.cell? ⟨b, q, none⟩ = some (.int .i64 x) := (by have := own_cell intC_len ho6 hx.out 0 (v := .int .i64 x) rfl hqB; simpa using this); have z6 := ho6.frozenAt (g := b) q; have l6 := (ho6.lt b rfl).2; have hE6' := (hE4'.trans hE5).trans hE6))
            go_meet
            have hst := own_set1 intC_len ho6 (odF L (a + 5 + j) 0 127) hx.out 0 (by decide) (.int .i64 (odF L (a + 5 + j) 0 127)) rfl
            simp only [Nat.mul_one, Nat.add_zero] at hst
            have ea : a + 4 + j + 1 = a + 5 + j := by omega
            rw [ea] at hS6 ⊢
            exact ⟨by rw [List.length_set]; exact hst, by rw [List.length_set]; exact hBl10, by omega, (hS6.set (by simp only; omega) _).at (by omega), hE6'.setCell (.inr hwb) _⟩
        case rest =>
          clear ho4 hS4 hE4'
          obtain ⟨hown, hCl, hcl, hS, hE⟩ := hcut
          replace hown := Lib.hid hown
          obtain ⟨f5, hf5⟩ : ∃ q, flF L c2 40 = q := ⟨_, rfl⟩
          have hD3 := hD1.out
          rw [hf5] at hD3
          replace hD3 := Lib.hid hD3
          go_upto_if 48 with (go_at_call 8; refine (flip_det s c2 40 L _ (by omega) (by omega) (by omega) hS).mono ?_; rw [hf5]; rintro e w4 ⟨rfl, hS4, hE4⟩)
          have ho4 := own_extS hE4 l0 hown.out
          have hE4' := hE.trans hE4
          have hd2 := hD2.out
          subst hd2
          cases f5
          · have hd := hD3.out
            simp only [Bool.false_eq_true, if_false] at hd
            subst hd
            replace ho4 := Lib.hid ho4
            go_wp2
            go_ret
            rw [hDD.out]
            exact ⟨_, rfl, ho4.out, hS4, hE4'⟩
          · have hd := hD3.out
            simp only [if_true] at hd
            subst hd
            go_wp2
            go_ret
            rw [hDD.out]
            exact ⟨_, rfl, World.ownsRow_nil _ _ _ _, hS4, hE4'⟩
end Go.Proofs.YtapjekpjekdlkaaDoor
