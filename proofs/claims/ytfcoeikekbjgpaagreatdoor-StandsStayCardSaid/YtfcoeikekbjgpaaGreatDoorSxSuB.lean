/- What is wrong with stands: the document's walk. Conditions: sizes. -/
import Derived.Test.YtfcoeikekbjgpaaGreatDoorSxJ21
import Derived.Test.YtfcoeikekbjgpaaGreatDoorSxJ25
set_option linter.unusedSimpArgs false
set_option linter.unusedVariables false
namespace Go.Proofs.YtfcoeikekbjgpaaGreatDoor
open Go Go.RowKit

theorem strInfo : (Tryz.prog.info? 9).map (fun i => (i.zero, i.size, i.bytes)) = some (some (.string ⟨#[]⟩), 1, 16) := by kernel_rfl
theorem orF_two (a b : Int) : orF [a, b] = if a = 0 then b else a := by
  unfold orF orF orF
  by_cases h : a = 0
  · rw [if_pos h, if_pos h]
    by_cases h2 : b = 0
    · rw [if_pos h2, h2]
    · rw [if_neg h2]
  · rw [if_neg h, if_neg h]

set_option maxRecDepth 100000 in
set_option maxHeartbeats 6400000 in
theorem standsFault_any (pp : Option Addr) (pc : Nat) (P : List PersonV) (wp : Option Addr) (wcap : Nat) (wide : List Int) (hp : Option Addr) (hc : Nat) (high : List Int) (lp : Option Addr) (lc : Nat) (S : List StandV) (w : World) (h : PsM w pp pc P wp wcap wide hp hc high lp lc S) :
    Calls Tryz.prog 22 #[.slice pp P.length pc, .agg #[.slice wp wide.length wcap, .slice hp high.length hc], .slice lp S.length lc] w fun e w' => e = .returned (.int .i64 (standsF P wide high S)) ∧ Ext w w' := by
  have hX0 : Blk (w.alloc (.cells #[.slice wp wide.length wcap, .slice hp high.length hc] 29)) w.heap.size 29 #[.slice wp wide.length wcap, .slice hp high.length hc] := Blk.new' rfl
  have hE00 : Ext w (w.alloc (.cells #[.slice wp wide.length wcap, .slice hp high.length hc] 29)) := (Ext.refl _).alloc _
  have hf1 := fun u (hu : Ext w u) => faultPeople_any pp P.length pc P u (h.per.ext hu).1 h.sP h.nP
  have hf2 := fun u (hu : Ext w u) => faultStage_any wp wcap hp hc wide high u (h.wid.ext hu) (h.hig.ext hu) h.sw h.sh
  have hnP := h.nP
  have hnS := h.nS
  have hos : orF [peopleF P, stageF wide high] = ostF P wide high := orF_two _ _
  have hwo : ostF P wide high = 0 → WideOk wide ∧ 1 ≤ wide.length := fun h0 => ⟨(stageF_ok (ostF_ok h0).2).1, (stageF_ok (ostF_ok h0).2).2.2.2.1⟩
  have hF : standsF P wide high S = if ostF P wide high = 0 then listF P wide S else ostF P wide high := rfl
  replace hF := Lib.hid hF
  replace hf1 := Lib.hid hf1
  replace hf2 := Lib.hid hf2
  replace h := Lib.hid h
  replace hwo := Lib.hid hwo
  go_enter Tryz.func22, Tryz.ntmps22
  go_upto_region 1 with fail
  generalize w.alloc (.cells #[.slice wp wide.length wcap, .slice hp high.length hc] 29) = W0 at *
  refine wp_region_facts [] [([], false, false), ([0], false, false), ([], false, false), ([2], false, false), ([0, 1, 2, 3], false, true), ([0, 1, 2, 3, 4], false, false)] (Ext) Ext (fun _ => True) (by kernel_rfl) (by kernel_rfl) Ext.refl (fun _ _ _ => Ext.trans) (fun _ _ h => h) (fun _ _ h => h.size) (fun _ _ h _ => h) trivial ?_
  dsimp only [List.length_cons, List.length_nil, List.drop_succ_cons, List.drop_zero, List.drop_nil]
  refine fac_quiet 0 rfl rfl rfl (fun _ _ h _ => h) rfl rfl ?_
  apply Exists.intro
  refine ⟨fun sv w' hw' hfa => ?_, ?_⟩
  · refine ⟨rfl, ?_⟩
    simp only [putsL]
    change quietTo _ _ _ _ (Sem.run _ (execOp (Act.eval _) _) _)
    try simp only [Act.put, List.setIfInBounds_toArray, List.set_cons_succ, List.set_cons_zero]
    simp [go_sem, quietTo, Ext.refl]
    all_goals first
      | rfl
  refine fac_quiet 1 rfl rfl rfl (fun _ _ h _ => h) rfl rfl ?_
  apply Exists.intro
  refine ⟨fun sv w' hw' hfa => ?_, ?_⟩
  · obtain ⟨f0, -⟩ := hfa
    replace f0 : sv 0 = _ := f0
    try dsimp only at f0
    have hk9 := (Ext.refl W0).drew.trans hw'; obtain ⟨y1, -⟩ := (hX0.ext hk9).walk
    refine ⟨rfl, ?_⟩
    simp only [putsL]
    change quietTo _ _ _ _ (Sem.run _ (execOp (Act.eval (Act.put _ (some 13) (sv 0))) _) _)
    try simp only [Act.put, List.setIfInBounds_toArray, List.set_cons_succ, List.set_cons_zero]
    simp [go_sem, quietTo, Ext.refl, ↓IntWalk.iteOmega, f0]
    all_goals try simp (disch := omega) only [IntWalk.i64_in]
    all_goals first
      | rfl
      | (exact hf1.out _ (hE00.trans hk9))
  refine fac_quiet 2 rfl rfl rfl (fun _ _ h _ => h) rfl rfl ?_
  apply Exists.intro
  refine ⟨fun sv w' hw' hfa => ?_, ?_⟩
  · have hk9 := (Ext.refl W0).drew.trans hw'; obtain ⟨y1, -⟩ := (hX0.ext hk9).walk
    refine ⟨rfl, ?_⟩
    simp only [putsL]
    change quietTo _ _ _ _ (Sem.run _ (execOp (Act.eval _) _) _)
    try simp only [Act.put, List.setIfInBounds_toArray, List.set_cons_succ, List.set_cons_zero]
    simp [go_sem, quietTo, Ext.refl, ↓IntWalk.iteOmega, y1]
    all_goals try simp (disch := omega) only [IntWalk.i64_in]
    all_goals first
      | rfl
  refine fac_quiet 3 rfl rfl rfl (fun _ _ h _ => h) rfl rfl ?_
  apply Exists.intro
  refine ⟨fun sv w' hw' hfa => ?_, ?_⟩
  · obtain ⟨f2, -⟩ := hfa
    replace f2 : sv 2 = _ := f2
    try dsimp only at f2
    have hk9 := (Ext.refl W0).drew.trans hw'; obtain ⟨y1, -⟩ := (hX0.ext hk9).walk
    refine ⟨rfl, ?_⟩
    simp only [putsL]
    change quietTo _ _ _ _ (Sem.run _ (execOp (Act.eval (Act.put _ (some 15) (sv 2))) _) _)
    try simp only [Act.put, List.setIfInBounds_toArray, List.set_cons_succ, List.set_cons_zero]
    simp [go_sem, quietTo, Ext.refl, ↓IntWalk.iteOmega, f2]
    all_goals try simp (disch := omega) only [IntWalk.i64_in]
    all_goals first
      | rfl
      | (exact hf2.out _ (hE00.trans hk9))
  refine fac_row 4 rfl rfl rfl (fun _ _ h _ => h) (fun _ _ h => h.size) (fun _ _ _ _ _ he _ hb => hb.ext he) ?_
  apply Exists.intro
  apply Exists.intro
  apply Exists.intro
  apply Exists.intro
  refine ⟨fun sv w' hw' hfa => ?_, ?_⟩
  · obtain ⟨_, f1, _, f3, -⟩ := hfa
    replace f1 : sv 1 = _ := f1
    try dsimp only at f1
    replace f3 : sv 3 = _ := f3
    try dsimp only at f3
    refine ⟨rfl, ?_⟩
    simp only [putsL]
    change rowTo _ _ _ _ _ (Sem.run _ (execOp (Act.eval (Act.put (Act.put (Act.put (Act.put _ (some 16) (sv 3)) (some 15) (sv 2)) (some 14) (sv 1)) (some 13) (sv 0))) _) _)
    try simp only [Act.put, List.setIfInBounds_toArray, List.set_cons_succ, List.set_cons_zero]
    simp [go_sem, rowTo, Ext.refl, f1, f3]
    all_goals try simp (disch := omega) only [IntWalk.i64_in]
    all_goals first
      | rfl
      | exact ⟨rfl, rfl⟩
      | exact ⟨⟨rfl, rfl⟩, rfl⟩
  refine fac_quiet 5 rfl rfl rfl (fun _ _ h _ => h) rfl rfl ?_
  apply Exists.intro
  refine ⟨fun sv w' hw' hfa => ?_, ?_⟩
  · obtain ⟨f0, f1, f2, f3, f4, -⟩ := hfa
    replace f0 : sv 0 = _ := f0
    try dsimp only at f0
    replace f1 : sv 1 = _ := f1
    try dsimp only at f1
    replace f2 : sv 2 = _ := f2
    try dsimp only at f2
    replace f3 : sv 3 = _ := f3
    try dsimp only at f3
    obtain ⟨g4, f4, l4, b4⟩ := f4
    replace f4 : sv 4 = _ := f4
    obtain ⟨p4, q4⟩ := b4.walk
    have hk9 := (Ext.refl W0).drew.trans hw'; obtain ⟨y1, -⟩ := (hX0.ext hk9).walk
    refine ⟨rfl, ?_⟩
    simp only [putsL]
    change quietTo _ _ _ _ (Sem.run _ (execOp (Act.eval (Act.put (Act.put (Act.put (Act.put (Act.put _ (some 17) (sv 4)) (some 16) (sv 3)) (some 15) (sv 2)) (some 14) (sv 1)) (some 13) (sv 0))) _) _)
    try simp only [Act.put, List.setIfInBounds_toArray, List.set_cons_succ, List.set_cons_zero]
    simp [go_sem, quietTo, Ext.refl, ↓IntWalk.iteOmega, f4, p4, q4]
    all_goals try simp (disch := omega) only [IntWalk.i64_in]
    all_goals first
      | rfl
      | (exact (orErr_blk _ _ 2 [peopleF P, stageF wide high] _ (by simp) b4).mono fun _ _ h => ⟨h.1, h.2 ▸ Ext.refl _⟩)
  refine fac_nil fun xo wro hero hfro hcro holdo hapo => ?_
  obtain ⟨f0, f1, f2, f3, f4, f5, -⟩ := hfro
  replace f0 : xo 0 = _ := f0
  try dsimp only at f0
  replace f1 : xo 1 = _ := f1
  try dsimp only at f1
  replace f2 : xo 2 = _ := f2
  try dsimp only at f2
  replace f3 : xo 3 = _ := f3
  try dsimp only at f3
  obtain ⟨g4, f4, l4, b4⟩ := f4
  replace f4 : xo 4 = _ := f4
  obtain ⟨p4, q4⟩ := b4.walk
  replace f5 : xo 5 = _ := f5
  try dsimp only at f5
  change wpList _ _ _ _ (Act.put (Act.put (Act.put (Act.put (Act.put (Act.put _ (some 13) (xo 0)) (some 14) (xo 1)) (some 15) (xo 2)) (some 16) (xo 3)) (some 17) (xo 4)) (some 18) (xo 5)) _
  simp only [putsL, Nat.reduceAdd, List.drop_succ_cons, List.drop_zero, List.drop_nil, Act.put, List.setIfInBounds_toArray, List.set_cons_succ, List.set_cons_zero]
  try simp only [f0, f1, f2, f3, f4, f5]
  clear f0 f1 f2 f3 f5
  clear holdo hapo
  have hko := (Ext.refl W0).drew.trans hero
  have hX := hX0.ext hko
  have hE0 := hE00.trans hko
  rw [hos]
  clear hero hko hX0 hE00 hf1 hf2 hos
  generalize wro = W at *
  by_cases h0 : ostF P wide high = 0
  rotate_left
  · generalize ostF P wide high = a at *
    clear hX
    go_wp2
    go_ret
    exact ⟨ret_int (by rw [hF.out, if_neg h0]), hE0⟩
  obtain ⟨hwo, hw1⟩ := hwo.out h0
  rw [if_pos h0] at hF
  rw [h0]
  clear h0
  by_cases h1 : P.length < S.length
  · have hF2 : listF P wide S = 2 := by unfold listF; rw [if_pos h1]
    have h1I : (P.length : Int) < S.length := by omega
    clear hX
    replace hF2 := Lib.hid hF2
    go_wp2
    go_ret
    exact ⟨ret_int (by rw [hF.out, hF2.out]), hE0⟩
  have hF2 : listF P wide S = if scanF S.length (chkSta P wide S) = 0 then (if dupB (namesS S) then 6 else 0) else scanF S.length (chkSta P wide S) := by unfold listF; rw [if_neg h1]
  have h1I : ¬ (P.length : Int) < S.length := by omega
  have hw10 := hwo.1
  rw [hF2] at hF
  clear hF2
  replace hF := Lib.hid hF.out
  replace hwo := Lib.hid hwo
  go_wp2
  go_loopw [8, 29] (fun v8 v29 wr => ∃ k : Nat, v29 = .int .i64 k ∧ k ≤ S.length ∧ Zeros (chkSta P wide S) k ∧ Ext W wr ∧ wr.ownsRow W.heap.size 9 1 v8 k ((namesS (S.take k)).flatMap strC)) (fun _ v29 _ => S.length - (intOf v29).toNat)
  case atStart => exact ⟨0, rfl, Nat.zero_le _, (fun j hj => by omega), Ext.refl _, World.ownsRow_nil _ _ _ _⟩
  case round =>
    obtain ⟨k, rfl, hk, hz, hE, hown⟩ := hrel
    by_cases hlt : k < S.length
    · obtain ⟨x, hx⟩ := getD_some (rfl : S.length = S.length) hlt
      have hkI : (k : Int) < S.length := by omega
      obtain ⟨s1, s2, s3, s4, s5⟩ := h.out.sS x (List.mem_of_getElem? hx)
      have hnt := namesS_take hx
      rcases (slcC h.out.sta).2 with ⟨-, e⟩ | ⟨b, off, rfl, hb, hEl⟩
      · rw [e] at hx; cases hx
      have hEw := hE0.trans hE
      obtain ⟨c0, c1, c2⟩ := (hEl.ext hEw hb).sta hx
      have hbw := Nat.lt_of_lt_of_le hb hEw.size
      have hv : chkSta P wide S k = if hasP P x.name then (if inB x.row 0 (wide.length - 1) && inB x.place 0 (wide.getD x.row.toNat 0 - 1) then (if 0 < k && decide (0 ≤ cmpV (atL default S (k - 1)) x) then 7 else 0) else 1) else 8 := by
        unfold chkSta; rw [atL_of hx]
      have hprev : ∀ j y, k = j + 1 → S[j]? = some y → wr.cell? ⟨b, off + j * 3, none⟩ = some (.string y.name) ∧ wr.cell? ⟨b, off + j * 3 + 1, none⟩ = some (.int .i64 y.row) ∧ wr.cell? ⟨b, off + j * 3 + 2, none⟩ = some (.int .i64 y.place) := fun j y _ hy => (hEl.ext hEw hb).sta hy
      have hpat := fun u (hu : Ext w u) => personOf_any pp P.length pc P x.name u (h.out.per.ext hu).1
      have hY := Blk.new' (w := wr) (t := 48) (cs := #[.string x.name, .int .i64 x.row, .int .i64 x.place]) rfl
      have hX2 := hX.ext hE
      have hEy : Ext wr (wr.alloc (.cells #[.string x.name, .int .i64 x.row, .int .i64 x.place] 48)) := (Ext.refl _).alloc _
      generalize perOf P x.name = pq at *
      replace hx := Lib.hid hx
      replace hv := Lib.hid hv
      replace hprev := Lib.hid hprev
      replace hown := Lib.hid hown
      replace hnt := Lib.hid hnt
      clear hEl
      cases hh : hasP P x.name
      · rw [hh] at hpat
        replace hpat := Lib.hid hpat
        go_wp2_with (go_at_call 54; (with_reducible refine Calls.mono (hpat.out _ (hEw.alloc _)) ?_); rintro e w2 ⟨rfl, hb2⟩)
        go_ret
        exact ⟨ret_int (by rw [hF.out, ← scan_is (v := 8) hz hlt (by rw [hv.out, hh]; rfl) (by decide)]; rfl), ((hEw.alloc _).trans hb2).alloc _⟩
      rw [hh] at hpat
      replace hpat := Lib.hid hpat
      go_upto_region 13 with (go_at_call 54; (with_reducible refine Calls.mono (hpat.out _ (hEw.alloc _)) ?_); rintro e w2' ⟨rfl, hb2'⟩)
      have hb2 := hb2'.alloc (.cells #[.string pq.name, .int .i64 pq.high, .string pq.sect] 59)
      generalize w2'.alloc (.cells #[.string pq.name, .int .i64 pq.high, .string pq.sect] 59) = w2 at *
      have hY2 := hY.ext hb2
      have hX3 := hX2.ext (hEy.trans hb2)
      have hE2 := (hEw.alloc _).trans hb2
      have hk2 := hEy.trans hb2
      clear hY hX2 hEy c0 c1 c2 hb2'
      have ho1 := fun u => in_is (n := x.row) (lo := 0) (hi := (wide.length : Int) - 1) rfl u
      cases hr1 : inB x.row 0 (wide.length - 1)
      · rw [hr1] at ho1
        replace ho1 := Lib.hid ho1
        refine wp_region_facts [] [([], false, false), ([0], false, false), ([], false, false), ([2], false, false), ([2, 3], false, false), ([2, 3, 4], false, false), ([0, 1, 2, 3, 4, 5], false, false), ([0, 1, 2, 3, 4, 5, 6], false, false), ([0, 1, 2, 3, 4, 5, 6, 7], false, false), ([0, 1, 2, 3, 4, 5, 6, 7, 8], false, false), ([0, 1, 2, 3, 4, 5, 6, 7, 8, 9], false, false), ([0, 1, 2, 3, 4, 5, 6, 7, 8], false, false), ([0, 1, 2, 3, 4, 5, 6, 7, 8, 11], false, false), ([0, 1, 2, 3, 4, 5, 6, 7, 8], false, false), ([0, 1, 2, 3, 4, 5, 6, 7, 8, 13], false, false), ([0, 1, 2, 3, 4, 5, 6, 7, 8, 11, 12, 13, 14], false, false), ([0, 1, 2, 3, 4, 5, 6, 7, 8, 11, 12, 13, 14, 15], false, false), ([0, 1, 2, 3, 4, 5, 6, 7, 8, 11, 12, 13, 14, 15, 16], false, false), ([0, 1, 2, 3, 4, 5, 6, 7, 8, 9, 10, 11, 12, 13, 14, 15, 16, 17], false, false), ([0, 1, 2, 3, 4, 5, 6, 7, 8, 9, 10, 11, 12, 13, 14, 15, 16, 17, 18], false, false), ([0, 1, 2, 3, 4, 5, 6, 7, 8, 9, 10, 11, 12, 13, 14, 15, 16, 17, 18, 19], false, false), ([0, 1, 2, 3, 4, 5, 6, 7, 8, 9, 10, 11, 12, 13, 14, 15, 16, 17, 18, 19, 20], false, false)] (Ext) Ext (fun _ => True) (by kernel_rfl) (by kernel_rfl) Ext.refl (fun _ _ _ => Ext.trans) (fun _ _ h => h) (fun _ _ h => h.size) (fun _ _ h _ => h) trivial ?_
        dsimp only [List.length_cons, List.length_nil, List.drop_succ_cons, List.drop_zero, List.drop_nil]
        refine fac_quiet 0 rfl rfl rfl (fun _ _ h _ => h) rfl rfl ?_
        apply Exists.intro
        refine ⟨fun sv w' hw' hfa => ?_, ?_⟩
        · refine ⟨rfl, ?_⟩
          simp only [putsL]
          change quietTo _ _ _ _ (Sem.run _ (execOp (Act.eval _) _) _)
          try simp only [Act.put, List.setIfInBounds_toArray, List.set_cons_succ, List.set_cons_zero]
          simp [go_sem, quietTo, Ext.refl]
          all_goals first
            | rfl
        refine fac_quiet 1 rfl rfl rfl (fun _ _ h _ => h) rfl rfl ?_
        apply Exists.intro
        refine ⟨fun sv w' hw' hfa => ?_, ?_⟩
        · obtain ⟨f0, -⟩ := hfa
          replace f0 : sv 0 = _ := f0
          try dsimp only at f0
          have hk9 := (Ext.refl w2).drew.trans hw'; obtain ⟨y1, -⟩ := (hX3.ext hk9).walk; obtain ⟨y2, -⟩ := (hY2.ext hk9).walk
          refine ⟨rfl, ?_⟩
          simp only [putsL]
          change quietTo _ _ _ _ (Sem.run _ (execOp (Act.eval (Act.put _ (some 45) (sv 0))) _) _)
          try simp only [Act.put, List.setIfInBounds_toArray, List.set_cons_succ, List.set_cons_zero]
          simp [go_sem, quietTo, Ext.refl, ↓IntWalk.iteOmega, f0, y2]
          all_goals try simp (disch := omega) only [IntWalk.i64_in]
          all_goals first
            | rfl
        refine fac_quiet 2 rfl rfl rfl (fun _ _ h _ => h) rfl rfl ?_
        apply Exists.intro
        refine ⟨fun sv w' hw' hfa => ?_, ?_⟩
        · refine ⟨rfl, ?_⟩
          simp only [putsL]
          change quietTo _ _ _ _ (Sem.run _ (execOp (Act.eval _) _) _)
          try simp only [Act.put, List.setIfInBounds_toArray, List.set_cons_succ, List.set_cons_zero]
          simp [go_sem, quietTo, Ext.refl]
          all_goals first
            | rfl
        refine fac_quiet 3 rfl rfl rfl (fun _ _ h _ => h) rfl rfl ?_
        apply Exists.intro
        refine ⟨fun sv w' hw' hfa => ?_, ?_⟩
        · obtain ⟨f2, -⟩ := hfa
          replace f2 : sv 2 = _ := f2
          try dsimp only at f2
          have hk9 := (Ext.refl w2).drew.trans hw'; obtain ⟨y1, -⟩ := (hX3.ext hk9).walk; obtain ⟨y2, -⟩ := (hY2.ext hk9).walk
          refine ⟨rfl, ?_⟩
          simp only [putsL]
          change quietTo _ _ _ _ (Sem.run _ (execOp (Act.eval (Act.put _ (some 47) (sv 2))) _) _)
          try simp only [Act.put, List.setIfInBounds_toArray, List.set_cons_succ, List.set_cons_zero]
          simp [go_sem, quietTo, Ext.refl, ↓IntWalk.iteOmega, f2, y1]
          all_goals try simp (disch := omega) only [IntWalk.i64_in]
          all_goals first
            | rfl
        refine fac_quiet 4 rfl rfl rfl (fun _ _ h _ => h) rfl rfl ?_
        apply Exists.intro
        refine ⟨fun sv w' hw' hfa => ?_, ?_⟩
        · obtain ⟨_, f3, -⟩ := hfa
          replace f3 : sv 3 = _ := f3
          try dsimp only at f3
          refine ⟨rfl, ?_⟩
          simp only [putsL]
          change quietTo _ _ _ _ (Sem.run _ (execOp (Act.eval (Act.put (Act.put _ (some 48) (sv 3)) (some 47) (sv 2))) _) _)
          try simp only [Act.put, List.setIfInBounds_toArray, List.set_cons_succ, List.set_cons_zero]
          simp [go_sem, quietTo, Ext.refl, ↓IntWalk.iteOmega, f3]
          all_goals try simp (disch := omega) only [IntWalk.i64_in]
          all_goals first
            | rfl
        refine fac_quiet 5 rfl rfl rfl (fun _ _ h _ => h) rfl rfl ?_
        apply Exists.intro
        refine ⟨fun sv w' hw' hfa => ?_, ?_⟩
        · obtain ⟨_, _, f4, -⟩ := hfa
          replace f4 : sv 4 = _ := f4
          try dsimp only at f4
          refine ⟨rfl, ?_⟩
          simp only [putsL]
          change quietTo _ _ _ _ (Sem.run _ (execOp (Act.eval (Act.put (Act.put (Act.put _ (some 49) (sv 4)) (some 48) (sv 3)) (some 47) (sv 2))) _) _)
          try simp only [Act.put, List.setIfInBounds_toArray, List.set_cons_succ, List.set_cons_zero]
          simp [go_sem, quietTo, Ext.refl, ↓IntWalk.iteOmega, f4]
          all_goals try simp (disch := omega) only [IntWalk.i64_in]
          all_goals first
            | rfl
        refine fac_quiet 6 rfl rfl rfl (fun _ _ h _ => h) rfl rfl ?_
        apply Exists.intro
        refine ⟨fun sv w' hw' hfa => ?_, ?_⟩
        · obtain ⟨f0, f1, f2, f3, f4, f5, -⟩ := hfa
          replace f0 : sv 0 = _ := f0
          try dsimp only at f0
          replace f1 : sv 1 = _ := f1
          try dsimp only at f1
          replace f2 : sv 2 = _ := f2
          try dsimp only at f2
          replace f3 : sv 3 = _ := f3
          try dsimp only at f3
          replace f4 : sv 4 = _ := f4
          try dsimp only at f4
          replace f5 : sv 5 = _ := f5
          try dsimp only at f5
          have hk9 := (Ext.refl w2).drew.trans hw'; obtain ⟨y1, -⟩ := (hX3.ext hk9).walk; obtain ⟨y2, -⟩ := (hY2.ext hk9).walk
          refine ⟨rfl, ?_⟩
          simp only [putsL]
          change quietTo _ _ _ _ (Sem.run _ (execOp (Act.eval (Act.put (Act.put (Act.put (Act.put (Act.put (Act.put _ (some 50) (sv 5)) (some 49) (sv 4)) (some 48) (sv 3)) (some 47) (sv 2)) (some 46) (sv 1)) (some 45) (sv 0))) _) _)
          try simp only [Act.put, List.setIfInBounds_toArray, List.set_cons_succ, List.set_cons_zero]
          simp [go_sem, quietTo, Ext.refl, ↓IntWalk.iteOmega, f1, f5]
          all_goals try simp (disch := omega) only [IntWalk.i64_in]
          all_goals first
            | rfl
            | (exact ho1.out _)
        refine fac_quiet 7 rfl rfl rfl (fun _ _ h _ => h) rfl rfl ?_
        apply Exists.intro
        refine ⟨fun sv w' hw' hfa => ?_, ?_⟩
        · obtain ⟨_, _, _, _, _, _, f6, -⟩ := hfa
          replace f6 : sv 6 = _ := f6
          try dsimp only at f6
          refine ⟨rfl, ?_⟩
          simp only [putsL]
          change quietTo _ _ _ _ (Sem.run _ (execOp (Act.eval (Act.put (Act.put (Act.put (Act.put (Act.put (Act.put (Act.put _ (some 51) (sv 6)) (some 50) (sv 5)) (some 49) (sv 4)) (some 48) (sv 3)) (some 47) (sv 2)) (some 46) (sv 1)) (some 45) (sv 0))) _) _)
          try simp only [Act.put, List.setIfInBounds_toArray, List.set_cons_succ, List.set_cons_zero]
          simp [go_sem, quietTo, Ext.refl, ↓IntWalk.iteOmega, f6]
          all_goals try simp (disch := omega) only [IntWalk.i64_in]
          all_goals first
            | rfl
        refine fac_quiet 8 rfl rfl rfl (fun _ _ h _ => h) rfl rfl ?_
        apply Exists.intro
        refine ⟨fun sv w' hw' hfa => ?_, ?_⟩
        · obtain ⟨_, _, _, _, _, _, _, f7, -⟩ := hfa
          replace f7 : sv 7 = _ := f7
          try dsimp only at f7
          refine ⟨rfl, ?_⟩
          simp only [putsL]
          change quietTo _ _ _ _ (Sem.run _ (execOp (Act.eval (Act.put (Act.put (Act.put (Act.put (Act.put (Act.put (Act.put (Act.put _ (some 52) (sv 7)) (some 51) (sv 6)) (some 50) (sv 5)) (some 49) (sv 4)) (some 48) (sv 3)) (some 47) (sv 2)) (some 46) (sv 1)) (some 45) (sv 0))) _) _)
          try simp only [Act.put, List.setIfInBounds_toArray, List.set_cons_succ, List.set_cons_zero]
          simp [go_sem, quietTo, Ext.refl, f7]
          all_goals first
            | rfl
        refine fac_skip 9 rfl rfl rfl (fun _ _ h _ => h) Ext.refl ?_ ?_
        · intro sv w' hw' hfa
          obtain ⟨f0, f1, f2, f3, f4, f5, f6, f7, f8, -⟩ := hfa
          replace f0 : sv 0 = _ := f0
          try dsimp only at f0
          replace f1 : sv 1 = _ := f1
          try dsimp only at f1
          replace f2 : sv 2 = _ := f2
          try dsimp only at f2
          replace f3 : sv 3 = _ := f3
          try dsimp only at f3
          replace f4 : sv 4 = _ := f4
          try dsimp only at f4
          replace f5 : sv 5 = _ := f5
          try dsimp only at f5
          replace f6 : sv 6 = _ := f6
          try dsimp only at f6
          replace f7 : sv 7 = _ := f7
          try dsimp only at f7
          replace f8 : sv 8 = _ := f8
          try dsimp only at f8
          simp [Region.wanted, yielded, putsL, Act.put, f8]
        refine fac_skip 10 rfl rfl rfl (fun _ _ h _ => h) Ext.refl ?_ ?_
        · intro sv w' hw' hfa
          obtain ⟨f0, f1, f2, f3, f4, f5, f6, f7, f8, f9, -⟩ := hfa
          replace f0 : sv 0 = _ := f0
          try dsimp only at f0
          replace f1 : sv 1 = _ := f1
          try dsimp only at f1
          replace f2 : sv 2 = _ := f2
          try dsimp only at f2
          replace f3 : sv 3 = _ := f3
          try dsimp only at f3
          replace f4 : sv 4 = _ := f4
          try dsimp only at f4
          replace f5 : sv 5 = _ := f5
          try dsimp only at f5
          replace f6 : sv 6 = _ := f6
          try dsimp only at f6
          replace f7 : sv 7 = _ := f7
          try dsimp only at f7
          replace f8 : sv 8 = _ := f8
          try dsimp only at f8
          replace f9 : sv 9 = _ := f9
          try dsimp only at f9
          simp [Region.wanted, yielded, putsL, Act.put, f8, f9]
        refine fac_skip 11 rfl rfl rfl (fun _ _ h _ => h) Ext.refl ?_ ?_
        · intro sv w' hw' hfa
          obtain ⟨f0, f1, f2, f3, f4, f5, f6, f7, f8, -⟩ := hfa
          replace f0 : sv 0 = _ := f0
          try dsimp only at f0
          replace f1 : sv 1 = _ := f1
          try dsimp only at f1
          replace f2 : sv 2 = _ := f2
          try dsimp only at f2
          replace f3 : sv 3 = _ := f3
          try dsimp only at f3
          replace f4 : sv 4 = _ := f4
          try dsimp only at f4
          replace f5 : sv 5 = _ := f5
          try dsimp only at f5
          replace f6 : sv 6 = _ := f6
          try dsimp only at f6
          replace f7 : sv 7 = _ := f7
          try dsimp only at f7
          replace f8 : sv 8 = _ := f8
          try dsimp only at f8
          simp [Region.wanted, yielded, putsL, Act.put, f8]
        refine fac_skip 12 rfl rfl rfl (fun _ _ h _ => h) Ext.refl ?_ ?_
        · intro sv w' hw' hfa
          obtain ⟨f0, f1, f2, f3, f4, f5, f6, f7, f8, f11, -⟩ := hfa
          replace f0 : sv 0 = _ := f0
          try dsimp only at f0
          replace f1 : sv 1 = _ := f1
          try dsimp only at f1
          replace f2 : sv 2 = _ := f2
          try dsimp only at f2
          replace f3 : sv 3 = _ := f3
          try dsimp only at f3
          replace f4 : sv 4 = _ := f4
          try dsimp only at f4
          replace f5 : sv 5 = _ := f5
          try dsimp only at f5
          replace f6 : sv 6 = _ := f6
          try dsimp only at f6
          replace f7 : sv 7 = _ := f7
          try dsimp only at f7
          replace f8 : sv 8 = _ := f8
          try dsimp only at f8
          replace f11 : sv 11 = _ := f11
          try dsimp only at f11
          simp [Region.wanted, yielded, putsL, Act.put, f8, f11]
        refine fac_skip 13 rfl rfl rfl (fun _ _ h _ => h) Ext.refl ?_ ?_
        · intro sv w' hw' hfa
          obtain ⟨f0, f1, f2, f3, f4, f5, f6, f7, f8, -⟩ := hfa
          replace f0 : sv 0 = _ := f0
          try dsimp only at f0
          replace f1 : sv 1 = _ := f1
          try dsimp only at f1
          replace f2 : sv 2 = _ := f2
          try dsimp only at f2
          replace f3 : sv 3 = _ := f3
          try dsimp only at f3
          replace f4 : sv 4 = _ := f4
          try dsimp only at f4
          replace f5 : sv 5 = _ := f5
          try dsimp only at f5
          replace f6 : sv 6 = _ := f6
          try dsimp only at f6
          replace f7 : sv 7 = _ := f7
          try dsimp only at f7
          replace f8 : sv 8 = _ := f8
          try dsimp only at f8
          simp [Region.wanted, yielded, putsL, Act.put, f8]
        refine fac_skip 14 rfl rfl rfl (fun _ _ h _ => h) Ext.refl ?_ ?_
        · intro sv w' hw' hfa
          obtain ⟨f0, f1, f2, f3, f4, f5, f6, f7, f8, f13, -⟩ := hfa
          replace f0 : sv 0 = _ := f0
          try dsimp only at f0
          replace f1 : sv 1 = _ := f1
          try dsimp only at f1
          replace f2 : sv 2 = _ := f2
          try dsimp only at f2
          replace f3 : sv 3 = _ := f3
          try dsimp only at f3
          replace f4 : sv 4 = _ := f4
          try dsimp only at f4
          replace f5 : sv 5 = _ := f5
          try dsimp only at f5
          replace f6 : sv 6 = _ := f6
          try dsimp only at f6
          replace f7 : sv 7 = _ := f7
          try dsimp only at f7
          replace f8 : sv 8 = _ := f8
          try dsimp only at f8
          replace f13 : sv 13 = _ := f13
          try dsimp only at f13
          simp [Region.wanted, yielded, putsL, Act.put, f8, f13]
        refine fac_skip 15 rfl rfl rfl (fun _ _ h _ => h) Ext.refl ?_ ?_
        · intro sv w' hw' hfa
          obtain ⟨f0, f1, f2, f3, f4, f5, f6, f7, f8, f11, f12, f13, f14, -⟩ := hfa
          replace f0 : sv 0 = _ := f0
          try dsimp only at f0
          replace f1 : sv 1 = _ := f1
          try dsimp only at f1
          replace f2 : sv 2 = _ := f2
          try dsimp only at f2
          replace f3 : sv 3 = _ := f3
          try dsimp only at f3
          replace f4 : sv 4 = _ := f4
          try dsimp only at f4
          replace f5 : sv 5 = _ := f5
          try dsimp only at f5
          replace f6 : sv 6 = _ := f6
          try dsimp only at f6
          replace f7 : sv 7 = _ := f7
          try dsimp only at f7
          replace f8 : sv 8 = _ := f8
          try dsimp only at f8
          replace f11 : sv 11 = _ := f11
          try dsimp only at f11
          replace f12 : sv 12 = _ := f12
          try dsimp only at f12
          replace f13 : sv 13 = _ := f13
          try dsimp only at f13
          replace f14 : sv 14 = _ := f14
          try dsimp only at f14
          simp [Region.wanted, yielded, putsL, Act.put, f8, f12, f14]
        refine fac_skip 16 rfl rfl rfl (fun _ _ h _ => h) Ext.refl ?_ ?_
        · intro sv w' hw' hfa
          obtain ⟨f0, f1, f2, f3, f4, f5, f6, f7, f8, f11, f12, f13, f14, f15, -⟩ := hfa
          replace f0 : sv 0 = _ := f0
          try dsimp only at f0
          replace f1 : sv 1 = _ := f1
          try dsimp only at f1
          replace f2 : sv 2 = _ := f2
          try dsimp only at f2
          replace f3 : sv 3 = _ := f3
          try dsimp only at f3
          replace f4 : sv 4 = _ := f4
          try dsimp only at f4
          replace f5 : sv 5 = _ := f5
          try dsimp only at f5
          replace f6 : sv 6 = _ := f6
          try dsimp only at f6
          replace f7 : sv 7 = _ := f7
          try dsimp only at f7
          replace f8 : sv 8 = _ := f8
          try dsimp only at f8
          replace f11 : sv 11 = _ := f11
          try dsimp only at f11
          replace f12 : sv 12 = _ := f12
          try dsimp only at f12
          replace f13 : sv 13 = _ := f13
          try dsimp only at f13
          replace f14 : sv 14 = _ := f14
          try dsimp only at f14
          replace f15 : sv 15 = _ := f15
          try dsimp only at f15
          simp [Region.wanted, yielded, putsL, Act.put, f8, f15]
        refine fac_skip 17 rfl rfl rfl (fun _ _ h _ => h) Ext.refl ?_ ?_
        · intro sv w' hw' hfa
          obtain ⟨f0, f1, f2, f3, f4, f5, f6, f7, f8, f11, f12, f13, f14, f15, f16, -⟩ := hfa
          replace f0 : sv 0 = _ := f0
          try dsimp only at f0
          replace f1 : sv 1 = _ := f1
          try dsimp only at f1
          replace f2 : sv 2 = _ := f2
          try dsimp only at f2
          replace f3 : sv 3 = _ := f3
          try dsimp only at f3
          replace f4 : sv 4 = _ := f4
          try dsimp only at f4
          replace f5 : sv 5 = _ := f5
          try dsimp only at f5
          replace f6 : sv 6 = _ := f6
          try dsimp only at f6
          replace f7 : sv 7 = _ := f7
          try dsimp only at f7
          replace f8 : sv 8 = _ := f8
          try dsimp only at f8
          replace f11 : sv 11 = _ := f11
          try dsimp only at f11
          replace f12 : sv 12 = _ := f12
          try dsimp only at f12
          replace f13 : sv 13 = _ := f13
          try dsimp only at f13
          replace f14 : sv 14 = _ := f14
          try dsimp only at f14
          replace f15 : sv 15 = _ := f15
          try dsimp only at f15
          replace f16 : sv 16 = _ := f16
          try dsimp only at f16
          simp [Region.wanted, yielded, putsL, Act.put, f8, f16]
        refine fac_skip 18 rfl rfl rfl (fun _ _ h _ => h) Ext.refl ?_ ?_
        · intro sv w' hw' hfa
          obtain ⟨f0, f1, f2, f3, f4, f5, f6, f7, f8, f9, f10, f11, f12, f13, f14, f15, f16, f17, -⟩ := hfa
          replace f0 : sv 0 = _ := f0
          try dsimp only at f0
          replace f1 : sv 1 = _ := f1
          try dsimp only at f1
          replace f2 : sv 2 = _ := f2
          try dsimp only at f2
          replace f3 : sv 3 = _ := f3
          try dsimp only at f3
          replace f4 : sv 4 = _ := f4
          try dsimp only at f4
          replace f5 : sv 5 = _ := f5
          try dsimp only at f5
          replace f6 : sv 6 = _ := f6
          try dsimp only at f6
          replace f7 : sv 7 = _ := f7
          try dsimp only at f7
          replace f8 : sv 8 = _ := f8
          try dsimp only at f8
          replace f9 : sv 9 = _ := f9
          try dsimp only at f9
          replace f10 : sv 10 = _ := f10
          try dsimp only at f10
          replace f11 : sv 11 = _ := f11
          try dsimp only at f11
          replace f12 : sv 12 = _ := f12
          try dsimp only at f12
          replace f13 : sv 13 = _ := f13
          try dsimp only at f13
          replace f14 : sv 14 = _ := f14
          try dsimp only at f14
          replace f15 : sv 15 = _ := f15
          try dsimp only at f15
          replace f16 : sv 16 = _ := f16
          try dsimp only at f16
          replace f17 : sv 17 = _ := f17
          try dsimp only at f17
          simp [Region.wanted, yielded, putsL, Act.put, f8, f10, f17]
        refine fac_skip 19 rfl rfl rfl (fun _ _ h _ => h) Ext.refl ?_ ?_
        · intro sv w' hw' hfa
          obtain ⟨f0, f1, f2, f3, f4, f5, f6, f7, f8, f9, f10, f11, f12, f13, f14, f15, f16, f17, f18, -⟩ := hfa
          replace f0 : sv 0 = _ := f0
          try dsimp only at f0
          replace f1 : sv 1 = _ := f1
          try dsimp only at f1
          replace f2 : sv 2 = _ := f2
          try dsimp only at f2
          replace f3 : sv 3 = _ := f3
          try dsimp only at f3
          replace f4 : sv 4 = _ := f4
          try dsimp only at f4
          replace f5 : sv 5 = _ := f5
          try dsimp only at f5
          replace f6 : sv 6 = _ := f6
          try dsimp only at f6
          replace f7 : sv 7 = _ := f7
          try dsimp only at f7
          replace f8 : sv 8 = _ := f8
          try dsimp only at f8
          replace f9 : sv 9 = _ := f9
          try dsimp only at f9
          replace f10 : sv 10 = _ := f10
          try dsimp only at f10
          replace f11 : sv 11 = _ := f11
          try dsimp only at f11
          replace f12 : sv 12 = _ := f12
          try dsimp only at f12
          replace f13 : sv 13 = _ := f13
          try dsimp only at f13
          replace f14 : sv 14 = _ := f14
          try dsimp only at f14
          replace f15 : sv 15 = _ := f15
          try dsimp only at f15
          replace f16 : sv 16 = _ := f16
          try dsimp only at f16
          replace f17 : sv 17 = _ := f17
          try dsimp only at f17
          replace f18 : sv 18 = _ := f18
          try dsimp only at f18
          simp [Region.wanted, yielded, putsL, Act.put, f8, f18]
        refine fac_quiet 20 rfl rfl rfl (fun _ _ h _ => h) rfl rfl ?_
        apply Exists.intro
        refine ⟨fun sv w' hw' hfa => ?_, ?_⟩
        · obtain ⟨_, _, _, _, _, _, _, _, f8, _, _, _, _, _, _, _, _, _, _, f19, -⟩ := hfa
          replace f8 : sv 8 = _ := f8
          try dsimp only at f8
          replace f19 : sv 19 = _ := f19
          try dsimp only at f19
          refine ⟨rfl, ?_⟩
          simp only [putsL]
          change quietTo _ _ _ _ (Sem.run _ (execOp (Act.eval (Act.put (Act.put (Act.put (Act.put (Act.put (Act.put (Act.put (Act.put (Act.put (Act.put (Act.put (Act.put (Act.put (Act.put (Act.put (Act.put (Act.put (Act.put (Act.put (Act.put _ (some 64) (sv 19)) (some 63) (sv 18)) (some 62) (sv 17)) (some 61) (sv 16)) (some 60) (sv 15)) (some 59) (sv 14)) (some 58) (sv 13)) (some 57) (sv 12)) (some 56) (sv 11)) (some 55) (sv 10)) (some 54) (sv 9)) (some 53) (sv 8)) (some 52) (sv 7)) (some 51) (sv 6)) (some 50) (sv 5)) (some 49) (sv 4)) (some 48) (sv 3)) (some 47) (sv 2)) (some 46) (sv 1)) (some 45) (sv 0))) _) _)
          try simp only [Act.put, List.setIfInBounds_toArray, List.set_cons_succ, List.set_cons_zero]
          simp [go_sem, quietTo, Ext.refl, ↓IntWalk.iteOmega, f8, f19]
          all_goals try simp (disch := omega) only [IntWalk.i64_in]
          all_goals first
            | rfl
        refine fac_quiet 21 rfl rfl rfl (fun _ _ h _ => h) rfl rfl ?_
        apply Exists.intro
        refine ⟨fun sv w' hw' hfa => ?_, ?_⟩
        · obtain ⟨_, _, _, _, _, _, _, _, _, _, _, _, _, _, _, _, _, _, _, _, f20, -⟩ := hfa
          replace f20 : sv 20 = _ := f20
          try dsimp only at f20
          refine ⟨rfl, ?_⟩
          simp only [putsL]
          change quietTo _ _ _ _ (Sem.run _ (execOp (Act.eval (Act.put (Act.put (Act.put (Act.put (Act.put (Act.put (Act.put (Act.put (Act.put (Act.put (Act.put (Act.put (Act.put (Act.put (Act.put (Act.put (Act.put (Act.put (Act.put (Act.put (Act.put _ (some 65) (sv 20)) (some 64) (sv 19)) (some 63) (sv 18)) (some 62) (sv 17)) (some 61) (sv 16)) (some 60) (sv 15)) (some 59) (sv 14)) (some 58) (sv 13)) (some 57) (sv 12)) (some 56) (sv 11)) (some 55) (sv 10)) (some 54) (sv 9)) (some 53) (sv 8)) (some 52) (sv 7)) (some 51) (sv 6)) (some 50) (sv 5)) (some 49) (sv 4)) (some 48) (sv 3)) (some 47) (sv 2)) (some 46) (sv 1)) (some 45) (sv 0))) _) _)
          try simp only [Act.put, List.setIfInBounds_toArray, List.set_cons_succ, List.set_cons_zero]
          simp [go_sem, quietTo, Ext.refl, f20]
          all_goals first
            | rfl
        refine fac_nil fun xq wrq herq hfrq hcrq holdq hapq => ?_
        obtain ⟨f0, f1, f2, f3, f4, f5, f6, f7, f8, f9, f10, f11, f12, f13, f14, f15, f16, f17, f18, f19, f20, f21, -⟩ := hfrq
        replace f0 : xq 0 = _ := f0
        try dsimp only at f0
        replace f1 : xq 1 = _ := f1
        try dsimp only at f1
        replace f2 : xq 2 = _ := f2
        try dsimp only at f2
        replace f3 : xq 3 = _ := f3
        try dsimp only at f3
        replace f4 : xq 4 = _ := f4
        try dsimp only at f4
        replace f5 : xq 5 = _ := f5
        try dsimp only at f5
        replace f6 : xq 6 = _ := f6
        try dsimp only at f6
        replace f7 : xq 7 = _ := f7
        try dsimp only at f7
        replace f8 : xq 8 = _ := f8
        try dsimp only at f8
        replace f9 : xq 9 = _ := f9
        try dsimp only at f9
        replace f10 : xq 10 = _ := f10
        try dsimp only at f10
        replace f11 : xq 11 = _ := f11
        try dsimp only at f11
        replace f12 : xq 12 = _ := f12
        try dsimp only at f12
        replace f13 : xq 13 = _ := f13
        try dsimp only at f13
        replace f14 : xq 14 = _ := f14
        try dsimp only at f14
        replace f15 : xq 15 = _ := f15
        try dsimp only at f15
        replace f16 : xq 16 = _ := f16
        try dsimp only at f16
        replace f17 : xq 17 = _ := f17
        try dsimp only at f17
        replace f18 : xq 18 = _ := f18
        try dsimp only at f18
        replace f19 : xq 19 = _ := f19
        try dsimp only at f19
        replace f20 : xq 20 = _ := f20
        try dsimp only at f20
        replace f21 : xq 21 = _ := f21
        try dsimp only at f21
        change wpList _ _ _ _ (Act.put (Act.put (Act.put (Act.put (Act.put (Act.put (Act.put (Act.put (Act.put (Act.put (Act.put (Act.put (Act.put (Act.put (Act.put (Act.put (Act.put (Act.put (Act.put (Act.put (Act.put (Act.put _ (some 45) (xq 0)) (some 46) (xq 1)) (some 47) (xq 2)) (some 48) (xq 3)) (some 49) (xq 4)) (some 50) (xq 5)) (some 51) (xq 6)) (some 52) (xq 7)) (some 53) (xq 8)) (some 54) (xq 9)) (some 55) (xq 10)) (some 56) (xq 11)) (some 57) (xq 12)) (some 58) (xq 13)) (some 59) (xq 14)) (some 60) (xq 15)) (some 61) (xq 16)) (some 62) (xq 17)) (some 63) (xq 18)) (some 64) (xq 19)) (some 65) (xq 20)) (some 44) (xq 21)) _
        simp only [putsL, Nat.reduceAdd, List.drop_succ_cons, List.drop_zero, List.drop_nil, Act.put, List.setIfInBounds_toArray, List.set_cons_succ, List.set_cons_zero]
        try simp only [f0, f1, f2, f3, f4, f5, f6, f7, f8, f9, f10, f11, f12, f13, f14, f15, f16, f17, f18, f19, f20, f21]
        clear f0 f1 f2 f3 f4 f5 f6 f7 f8 f9 f10 f11 f12 f13 f14 f15 f16 f17 f18 f19 f20 f21
        clear holdq hapq
        go_wp2
        go_ret
        exact ⟨ret_int (by rw [hF.out, ← scan_is (v := 1) hz hlt (by rw [hv.out, hh, hr1]; rfl) (by decide)]; rfl), hE2.trans ((Ext.refl _).drew.trans herq)⟩
      rw [hr1] at ho1
      have hrb := inB_iff.1 hr1
      obtain ⟨r, hr⟩ : ∃ r : Nat, x.row = r := ⟨x.row.toNat, by omega⟩
      obtain ⟨v, hwv⟩ := getD_some (rfl : wide.length = wide.length) (show r < wide.length by omega)
      have hwd : wide.getD x.row.toNat 0 = v := by rw [hr, Int.toNat_natCast, List.getD_eq_getElem?_getD, hwv]; rfl
      have hvb := hwo.out.2 v (List.mem_of_getElem? hwv)
      rcases (slcC h.out.wid).2 with ⟨-, e⟩ | ⟨wb, wo, rfl, hwb, hwE⟩
      · rw [e] at hwv; cases hwv
      have d1 := (hwE.ext hE2 hwb).int hwv
      have hwl := Nat.lt_of_lt_of_le hwb hE2.size
      have hrI : (r : Int) < wide.length := by omega
      rw [hwd] at hv
      have ho2 := fun u => in_is (n := x.place) (lo := 0) (hi := v - 1) rfl u
      rw [hr] at hY2 hrb ho1
      clear hwE hwd
      cases hr2 : inB x.place 0 (v - 1)
      · rw [hr2] at ho2
        replace ho1 := Lib.hid ho1
        replace ho2 := Lib.hid ho2
        refine wp_region_facts [] [([], false, false), ([0], false, false), ([], false, false), ([2], false, false), ([2, 3], false, false), ([2, 3, 4], false, false), ([0, 1, 2, 3, 4, 5], false, false), ([0, 1, 2, 3, 4, 5, 6], false, false), ([0, 1, 2, 3, 4, 5, 6, 7], false, false), ([0, 1, 2, 3, 4, 5, 6, 7, 8], false, false), ([0, 1, 2, 3, 4, 5, 6, 7, 8, 9], false, false), ([0, 1, 2, 3, 4, 5, 6, 7, 8], false, false), ([0, 1, 2, 3, 4, 5, 6, 7, 8, 11], false, false), ([0, 1, 2, 3, 4, 5, 6, 7, 8], false, false), ([0, 1, 2, 3, 4, 5, 6, 7, 8, 13], false, false), ([0, 1, 2, 3, 4, 5, 6, 7, 8, 11, 12, 13, 14], false, false), ([0, 1, 2, 3, 4, 5, 6, 7, 8, 11, 12, 13, 14, 15], false, false), ([0, 1, 2, 3, 4, 5, 6, 7, 8, 11, 12, 13, 14, 15, 16], false, false), ([0, 1, 2, 3, 4, 5, 6, 7, 8, 9, 10, 11, 12, 13, 14, 15, 16, 17], false, false), ([0, 1, 2, 3, 4, 5, 6, 7, 8, 9, 10, 11, 12, 13, 14, 15, 16, 17, 18], false, false), ([0, 1, 2, 3, 4, 5, 6, 7, 8, 9, 10, 11, 12, 13, 14, 15, 16, 17, 18, 19], false, false), ([0, 1, 2, 3, 4, 5, 6, 7, 8, 9, 10, 11, 12, 13, 14, 15, 16, 17, 18, 19, 20], false, false)] (Ext) Ext (fun _ => True) (by kernel_rfl) (by kernel_rfl) Ext.refl (fun _ _ _ => Ext.trans) (fun _ _ h => h) (fun _ _ h => h.size) (fun _ _ h _ => h) trivial ?_
        dsimp only [List.length_cons, List.length_nil, List.drop_succ_cons, List.drop_zero, List.drop_nil]
        refine fac_quiet 0 rfl rfl rfl (fun _ _ h _ => h) rfl rfl ?_
        apply Exists.intro
        refine ⟨fun sv w' hw' hfa => ?_, ?_⟩
        · refine ⟨rfl, ?_⟩
          simp only [putsL]
          change quietTo _ _ _ _ (Sem.run _ (execOp (Act.eval _) _) _)
          try simp only [Act.put, List.setIfInBounds_toArray, List.set_cons_succ, List.set_cons_zero]
          simp [go_sem, quietTo, Ext.refl]
          all_goals first
            | rfl
        refine fac_quiet 1 rfl rfl rfl (fun _ _ h _ => h) rfl rfl ?_
        apply Exists.intro
        refine ⟨fun sv w' hw' hfa => ?_, ?_⟩
        · obtain ⟨f0, -⟩ := hfa
          replace f0 : sv 0 = _ := f0
          try dsimp only at f0
          have hk9 := (Ext.refl w2).drew.trans hw'; obtain ⟨y1, -⟩ := (hX3.ext hk9).walk; obtain ⟨y2, -⟩ := (hY2.ext hk9).walk; obtain ⟨hc9, hff, hz9⟩ := hk9.walk; have v1 := (hc9 _ _ hwl).trans d1
          refine ⟨rfl, ?_⟩
          simp only [putsL]
          change quietTo _ _ _ _ (Sem.run _ (execOp (Act.eval (Act.put _ (some 45) (sv 0))) _) _)
          try simp only [Act.put, List.setIfInBounds_toArray, List.set_cons_succ, List.set_cons_zero]
          simp [go_sem, quietTo, Ext.refl, ↓IntWalk.iteOmega, f0, y2]
          all_goals try simp (disch := omega) only [IntWalk.i64_in]
          all_goals first
            | rfl
        refine fac_quiet 2 rfl rfl rfl (fun _ _ h _ => h) rfl rfl ?_
        apply Exists.intro
        refine ⟨fun sv w' hw' hfa => ?_, ?_⟩
        · refine ⟨rfl, ?_⟩
          simp only [putsL]
          change quietTo _ _ _ _ (Sem.run _ (execOp (Act.eval _) _) _)
          try simp only [Act.put, List.setIfInBounds_toArray, List.set_cons_succ, List.set_cons_zero]
          simp [go_sem, quietTo, Ext.refl]
          all_goals first
            | rfl
        refine fac_quiet 3 rfl rfl rfl (fun _ _ h _ => h) rfl rfl ?_
        apply Exists.intro
        refine ⟨fun sv w' hw' hfa => ?_, ?_⟩
        · obtain ⟨f2, -⟩ := hfa
          replace f2 : sv 2 = _ := f2
          try dsimp only at f2
          have hk9 := (Ext.refl w2).drew.trans hw'; obtain ⟨y1, -⟩ := (hX3.ext hk9).walk; obtain ⟨y2, -⟩ := (hY2.ext hk9).walk; obtain ⟨hc9, hff, hz9⟩ := hk9.walk; have v1 := (hc9 _ _ hwl).trans d1
          refine ⟨rfl, ?_⟩
          simp only [putsL]
          change quietTo _ _ _ _ (Sem.run _ (execOp (Act.eval (Act.put _ (some 47) (sv 2))) _) _)
          try simp only [Act.put, List.setIfInBounds_toArray, List.set_cons_succ, List.set_cons_zero]
          simp [go_sem, quietTo, Ext.refl, ↓IntWalk.iteOmega, f2, y1]
          all_goals try simp (disch := omega) only [IntWalk.i64_in]
          all_goals first
            | rfl
        refine fac_quiet 4 rfl rfl rfl (fun _ _ h _ => h) rfl rfl ?_
        apply Exists.intro
        refine ⟨fun sv w' hw' hfa => ?_, ?_⟩
        · obtain ⟨_, f3, -⟩ := hfa
          replace f3 : sv 3 = _ := f3
          try dsimp only at f3
          refine ⟨rfl, ?_⟩
          simp only [putsL]
          change quietTo _ _ _ _ (Sem.run _ (execOp (Act.eval (Act.put (Act.put _ (some 48) (sv 3)) (some 47) (sv 2))) _) _)
          try simp only [Act.put, List.setIfInBounds_toArray, List.set_cons_succ, List.set_cons_zero]
          simp [go_sem, quietTo, Ext.refl, ↓IntWalk.iteOmega, f3]
          all_goals try simp (disch := omega) only [IntWalk.i64_in]
          all_goals first
            | rfl
        refine fac_quiet 5 rfl rfl rfl (fun _ _ h _ => h) rfl rfl ?_
        apply Exists.intro
        refine ⟨fun sv w' hw' hfa => ?_, ?_⟩
        · obtain ⟨_, _, f4, -⟩ := hfa
          replace f4 : sv 4 = _ := f4
          try dsimp only at f4
          refine ⟨rfl, ?_⟩
          simp only [putsL]
          change quietTo _ _ _ _ (Sem.run _ (execOp (Act.eval (Act.put (Act.put (Act.put _ (some 49) (sv 4)) (some 48) (sv 3)) (some 47) (sv 2))) _) _)
          try simp only [Act.put, List.setIfInBounds_toArray, List.set_cons_succ, List.set_cons_zero]
          simp [go_sem, quietTo, Ext.refl, ↓IntWalk.iteOmega, f4]
          all_goals try simp (disch := omega) only [IntWalk.i64_in]
          all_goals first
            | rfl
        refine fac_quiet 6 rfl rfl rfl (fun _ _ h _ => h) rfl rfl ?_
        apply Exists.intro
        refine ⟨fun sv w' hw' hfa => ?_, ?_⟩
        · obtain ⟨f0, f1, f2, f3, f4, f5, -⟩ := hfa
          replace f0 : sv 0 = _ := f0
          try dsimp only at f0
          replace f1 : sv 1 = _ := f1
          try dsimp only at f1
          replace f2 : sv 2 = _ := f2
          try dsimp only at f2
          replace f3 : sv 3 = _ := f3
          try dsimp only at f3
          replace f4 : sv 4 = _ := f4
          try dsimp only at f4
          replace f5 : sv 5 = _ := f5
          try dsimp only at f5
          have hk9 := (Ext.refl w2).drew.trans hw'; obtain ⟨y1, -⟩ := (hX3.ext hk9).walk; obtain ⟨y2, -⟩ := (hY2.ext hk9).walk; obtain ⟨hc9, hff, hz9⟩ := hk9.walk; have v1 := (hc9 _ _ hwl).trans d1
          refine ⟨rfl, ?_⟩
          simp only [putsL]
          change quietTo _ _ _ _ (Sem.run _ (execOp (Act.eval (Act.put (Act.put (Act.put (Act.put (Act.put (Act.put _ (some 50) (sv 5)) (some 49) (sv 4)) (some 48) (sv 3)) (some 47) (sv 2)) (some 46) (sv 1)) (some 45) (sv 0))) _) _)
          try simp only [Act.put, List.setIfInBounds_toArray, List.set_cons_succ, List.set_cons_zero]
          simp [go_sem, quietTo, Ext.refl, ↓IntWalk.iteOmega, f1, f5]
          all_goals try simp (disch := omega) only [IntWalk.i64_in]
          all_goals first
            | rfl
            | (exact ho1.out _)
        refine fac_quiet 7 rfl rfl rfl (fun _ _ h _ => h) rfl rfl ?_
        apply Exists.intro
        refine ⟨fun sv w' hw' hfa => ?_, ?_⟩
        · obtain ⟨_, _, _, _, _, _, f6, -⟩ := hfa
          replace f6 : sv 6 = _ := f6
          try dsimp only at f6
          refine ⟨rfl, ?_⟩
          simp only [putsL]
          change quietTo _ _ _ _ (Sem.run _ (execOp (Act.eval (Act.put (Act.put (Act.put (Act.put (Act.put (Act.put (Act.put _ (some 51) (sv 6)) (some 50) (sv 5)) (some 49) (sv 4)) (some 48) (sv 3)) (some 47) (sv 2)) (some 46) (sv 1)) (some 45) (sv 0))) _) _)
          try simp only [Act.put, List.setIfInBounds_toArray, List.set_cons_succ, List.set_cons_zero]
          simp [go_sem, quietTo, Ext.refl, ↓IntWalk.iteOmega, f6]
          all_goals try simp (disch := omega) only [IntWalk.i64_in]
          all_goals first
            | rfl
        refine fac_quiet 8 rfl rfl rfl (fun _ _ h _ => h) rfl rfl ?_
        apply Exists.intro
        refine ⟨fun sv w' hw' hfa => ?_, ?_⟩
        · obtain ⟨_, _, _, _, _, _, _, f7, -⟩ := hfa
          replace f7 : sv 7 = _ := f7
          try dsimp only at f7
          refine ⟨rfl, ?_⟩
          simp only [putsL]
          change quietTo _ _ _ _ (Sem.run _ (execOp (Act.eval (Act.put (Act.put (Act.put (Act.put (Act.put (Act.put (Act.put (Act.put _ (some 52) (sv 7)) (some 51) (sv 6)) (some 50) (sv 5)) (some 49) (sv 4)) (some 48) (sv 3)) (some 47) (sv 2)) (some 46) (sv 1)) (some 45) (sv 0))) _) _)
          try simp only [Act.put, List.setIfInBounds_toArray, List.set_cons_succ, List.set_cons_zero]
          simp [go_sem, quietTo, Ext.refl, f7]
          all_goals first
            | rfl
        refine fac_quiet 9 rfl rfl rfl (fun _ _ h _ => h) rfl rfl ?_
        apply Exists.intro
        refine ⟨fun sv w' hw' hfa => ?_, ?_⟩
        · obtain ⟨_, _, _, _, _, _, _, _, f8, -⟩ := hfa
          replace f8 : sv 8 = _ := f8
          try dsimp only at f8
          refine ⟨by simp [Region.wanted, yielded, putsL, Act.put, f8], ?_⟩
          simp only [putsL]
          change quietTo _ _ _ _ (Sem.run _ (execOp (Act.eval (Act.put (Act.put (Act.put (Act.put (Act.put (Act.put (Act.put (Act.put (Act.put _ (some 53) (sv 8)) (some 52) (sv 7)) (some 51) (sv 6)) (some 50) (sv 5)) (some 49) (sv 4)) (some 48) (sv 3)) (some 47) (sv 2)) (some 46) (sv 1)) (some 45) (sv 0))) _) _)
          try simp only [Act.put, List.setIfInBounds_toArray, List.set_cons_succ, List.set_cons_zero]
          simp [go_sem, quietTo, Ext.refl, f8]
          all_goals first
            | rfl
        refine fac_quiet 10 rfl rfl rfl (fun _ _ h _ => h) rfl rfl ?_
        apply Exists.intro
        refine ⟨fun sv w' hw' hfa => ?_, ?_⟩
        · obtain ⟨_, _, _, _, _, _, _, _, f8, f9, -⟩ := hfa
          replace f8 : sv 8 = _ := f8
          try dsimp only at f8
          replace f9 : sv 9 = _ := f9
          try dsimp only at f9
          have hk9 := (Ext.refl w2).drew.trans hw'; obtain ⟨y1, -⟩ := (hX3.ext hk9).walk; obtain ⟨y2, -⟩ := (hY2.ext hk9).walk; obtain ⟨hc9, hff, hz9⟩ := hk9.walk; have v1 := (hc9 _ _ hwl).trans d1
          refine ⟨by simp [Region.wanted, yielded, putsL, Act.put, f8, f9], ?_⟩
          simp only [putsL]
          change quietTo _ _ _ _ (Sem.run _ (execOp (Act.eval (Act.put (Act.put (Act.put (Act.put (Act.put (Act.put (Act.put (Act.put (Act.put (Act.put _ (some 54) (sv 9)) (some 53) (sv 8)) (some 52) (sv 7)) (some 51) (sv 6)) (some 50) (sv 5)) (some 49) (sv 4)) (some 48) (sv 3)) (some 47) (sv 2)) (some 46) (sv 1)) (some 45) (sv 0))) _) _)
          try simp only [Act.put, List.setIfInBounds_toArray, List.set_cons_succ, List.set_cons_zero]
          simp [go_sem, quietTo, Ext.refl, ↓IntWalk.iteOmega, f8, f9, y2]
          all_goals try simp (disch := omega) only [IntWalk.i64_in]
          all_goals first
            | rfl
        refine fac_quiet 11 rfl rfl rfl (fun _ _ h _ => h) rfl rfl ?_
        apply Exists.intro
        refine ⟨fun sv w' hw' hfa => ?_, ?_⟩
        · obtain ⟨_, _, _, _, _, _, _, _, f8, -⟩ := hfa
          replace f8 : sv 8 = _ := f8
          try dsimp only at f8
          refine ⟨by simp [Region.wanted, yielded, putsL, Act.put, f8], ?_⟩
          simp only [putsL]
          change quietTo _ _ _ _ (Sem.run _ (execOp (Act.eval (Act.put (Act.put (Act.put (Act.put (Act.put (Act.put (Act.put (Act.put (Act.put _ (some 53) (sv 8)) (some 52) (sv 7)) (some 51) (sv 6)) (some 50) (sv 5)) (some 49) (sv 4)) (some 48) (sv 3)) (some 47) (sv 2)) (some 46) (sv 1)) (some 45) (sv 0))) _) _)
          try simp only [Act.put, List.setIfInBounds_toArray, List.set_cons_succ, List.set_cons_zero]
          simp [go_sem, quietTo, Ext.refl, f8]
          all_goals first
            | rfl
        refine fac_quiet 12 rfl rfl rfl (fun _ _ h _ => h) rfl rfl ?_
        apply Exists.intro
        refine ⟨fun sv w' hw' hfa => ?_, ?_⟩
        · obtain ⟨_, _, _, _, _, _, _, _, f8, f11, -⟩ := hfa
          replace f8 : sv 8 = _ := f8
          try dsimp only at f8
          replace f11 : sv 11 = _ := f11
          try dsimp only at f11
          have hk9 := (Ext.refl w2).drew.trans hw'; obtain ⟨y1, -⟩ := (hX3.ext hk9).walk; obtain ⟨y2, -⟩ := (hY2.ext hk9).walk; obtain ⟨hc9, hff, hz9⟩ := hk9.walk; have v1 := (hc9 _ _ hwl).trans d1
          refine ⟨by simp [Region.wanted, yielded, putsL, Act.put, f8, f11], ?_⟩
          simp only [putsL]
          change quietTo _ _ _ _ (Sem.run _ (execOp (Act.eval (Act.put (Act.put (Act.put (Act.put (Act.put (Act.put (Act.put (Act.put (Act.put (Act.put _ (some 56) (sv 11)) (some 53) (sv 8)) (some 52) (sv 7)) (some 51) (sv 6)) (some 50) (sv 5)) (some 49) (sv 4)) (some 48) (sv 3)) (some 47) (sv 2)) (some 46) (sv 1)) (some 45) (sv 0))) _) _)
          try simp only [Act.put, List.setIfInBounds_toArray, List.set_cons_succ, List.set_cons_zero]
          simp [go_sem, quietTo, Ext.refl, ↓IntWalk.iteOmega, f8, f11, y1]
          all_goals try simp (disch := omega) only [IntWalk.i64_in]
          all_goals first
            | rfl
        refine fac_quiet 13 rfl rfl rfl (fun _ _ h _ => h) rfl rfl ?_
        apply Exists.intro
        refine ⟨fun sv w' hw' hfa => ?_, ?_⟩
        · obtain ⟨_, _, _, _, _, _, _, _, f8, -⟩ := hfa
          replace f8 : sv 8 = _ := f8
          try dsimp only at f8
          refine ⟨by simp [Region.wanted, yielded, putsL, Act.put, f8], ?_⟩
          simp only [putsL]
          change quietTo _ _ _ _ (Sem.run _ (execOp (Act.eval (Act.put (Act.put (Act.put (Act.put (Act.put (Act.put (Act.put (Act.put (Act.put _ (some 53) (sv 8)) (some 52) (sv 7)) (some 51) (sv 6)) (some 50) (sv 5)) (some 49) (sv 4)) (some 48) (sv 3)) (some 47) (sv 2)) (some 46) (sv 1)) (some 45) (sv 0))) _) _)
          try simp only [Act.put, List.setIfInBounds_toArray, List.set_cons_succ, List.set_cons_zero]
          simp [go_sem, quietTo, Ext.refl, f8]
          all_goals first
            | rfl
        refine fac_quiet 14 rfl rfl rfl (fun _ _ h _ => h) rfl rfl ?_
        apply Exists.intro
        refine ⟨fun sv w' hw' hfa => ?_, ?_⟩
        · obtain ⟨_, _, _, _, _, _, _, _, f8, f13, -⟩ := hfa
          replace f8 : sv 8 = _ := f8
          try dsimp only at f8
          replace f13 : sv 13 = _ := f13
          try dsimp only at f13
          have hk9 := (Ext.refl w2).drew.trans hw'; obtain ⟨y1, -⟩ := (hX3.ext hk9).walk; obtain ⟨y2, -⟩ := (hY2.ext hk9).walk; obtain ⟨hc9, hff, hz9⟩ := hk9.walk; have v1 := (hc9 _ _ hwl).trans d1
          refine ⟨by simp [Region.wanted, yielded, putsL, Act.put, f8, f13], ?_⟩
          simp only [putsL]
          change quietTo _ _ _ _ (Sem.run _ (execOp (Act.eval (Act.put (Act.put (Act.put (Act.put (Act.put (Act.put (Act.put (Act.put (Act.put (Act.put _ (some 58) (sv 13)) (some 53) (sv 8)) (some 52) (sv 7)) (some 51) (sv 6)) (some 50) (sv 5)) (some 49) (sv 4)) (some 48) (sv 3)) (some 47) (sv 2)) (some 46) (sv 1)) (some 45) (sv 0))) _) _)
          try simp only [Act.put, List.setIfInBounds_toArray, List.set_cons_succ, List.set_cons_zero]
          simp [go_sem, quietTo, Ext.refl, ↓IntWalk.iteOmega, f8, f13, y2]
          all_goals try simp (disch := omega) only [IntWalk.i64_in]
          all_goals first
            | rfl
        refine fac_quiet 15 rfl rfl rfl (fun _ _ h _ => h) rfl rfl ?_
        apply Exists.intro
        refine ⟨fun sv w' hw' hfa => ?_, ?_⟩
        · obtain ⟨_, _, _, _, _, _, _, _, f8, _, f12, _, f14, -⟩ := hfa
          replace f8 : sv 8 = _ := f8
          try dsimp only at f8
          replace f12 : sv 12 = _ := f12
          try dsimp only at f12
          replace f14 : sv 14 = _ := f14
          try dsimp only at f14
          have hk9 := (Ext.refl w2).drew.trans hw'; obtain ⟨y1, -⟩ := (hX3.ext hk9).walk; obtain ⟨y2, -⟩ := (hY2.ext hk9).walk; obtain ⟨hc9, hff, hz9⟩ := hk9.walk; have v1 := (hc9 _ _ hwl).trans d1
          refine ⟨by simp [Region.wanted, yielded, putsL, Act.put, f8, f12, f14], ?_⟩
          simp only [putsL]
          change quietTo _ _ _ _ (Sem.run _ (execOp (Act.eval (Act.put (Act.put (Act.put (Act.put (Act.put (Act.put (Act.put (Act.put (Act.put (Act.put (Act.put (Act.put (Act.put _ (some 59) (sv 14)) (some 58) (sv 13)) (some 57) (sv 12)) (some 56) (sv 11)) (some 53) (sv 8)) (some 52) (sv 7)) (some 51) (sv 6)) (some 50) (sv 5)) (some 49) (sv 4)) (some 48) (sv 3)) (some 47) (sv 2)) (some 46) (sv 1)) (some 45) (sv 0))) _) _)
          try simp only [Act.put, List.setIfInBounds_toArray, List.set_cons_succ, List.set_cons_zero]
          simp [go_sem, quietTo, Ext.refl, ↓IntWalk.iteOmega, f8, f12, f14, hrI]
          all_goals try simp (disch := omega) only [IntWalk.i64_in]
          all_goals first
            | rfl
        refine fac_quiet 16 rfl rfl rfl (fun _ _ h _ => h) rfl rfl ?_
        apply Exists.intro
        refine ⟨fun sv w' hw' hfa => ?_, ?_⟩
        · obtain ⟨_, _, _, _, _, _, _, _, f8, _, _, _, _, f15, -⟩ := hfa
          replace f8 : sv 8 = _ := f8
          try dsimp only at f8
          replace f15 : sv 15 = _ := f15
          try dsimp only at f15
          have hk9 := (Ext.refl w2).drew.trans hw'; obtain ⟨y1, -⟩ := (hX3.ext hk9).walk; obtain ⟨y2, -⟩ := (hY2.ext hk9).walk; obtain ⟨hc9, hff, hz9⟩ := hk9.walk; have v1 := (hc9 _ _ hwl).trans d1
          refine ⟨by simp [Region.wanted, yielded, putsL, Act.put, f8, f15], ?_⟩
          simp only [putsL]
          change quietTo _ _ _ _ (Sem.run _ (execOp (Act.eval (Act.put (Act.put (Act.put (Act.put (Act.put (Act.put (Act.put (Act.put (Act.put (Act.put (Act.put (Act.put (Act.put (Act.put _ (some 60) (sv 15)) (some 59) (sv 14)) (some 58) (sv 13)) (some 57) (sv 12)) (some 56) (sv 11)) (some 53) (sv 8)) (some 52) (sv 7)) (some 51) (sv 6)) (some 50) (sv 5)) (some 49) (sv 4)) (some 48) (sv 3)) (some 47) (sv 2)) (some 46) (sv 1)) (some 45) (sv 0))) _) _)
          try simp only [Act.put, List.setIfInBounds_toArray, List.set_cons_succ, List.set_cons_zero]
          simp [go_sem, quietTo, Ext.refl, ↓IntWalk.iteOmega, f8, f15, v1]
          all_goals try simp (disch := omega) only [IntWalk.i64_in]
          all_goals first
            | rfl
        refine fac_quiet 17 rfl rfl rfl (fun _ _ h _ => h) rfl rfl ?_
        apply Exists.intro
        refine ⟨fun sv w' hw' hfa => ?_, ?_⟩
        · obtain ⟨_, _, _, _, _, _, _, _, f8, _, _, _, _, _, f16, -⟩ := hfa
          replace f8 : sv 8 = _ := f8
          try dsimp only at f8
          replace f16 : sv 16 = _ := f16
          try dsimp only at f16
          refine ⟨by simp [Region.wanted, yielded, putsL, Act.put, f8, f16], ?_⟩
          simp only [putsL]
          change quietTo _ _ _ _ (Sem.run _ (execOp (Act.eval (Act.put (Act.put (Act.put (Act.put (Act.put (Act.put (Act.put (Act.put (Act.put (Act.put (Act.put (Act.put (Act.put (Act.put (Act.put _ (some 61) (sv 16)) (some 60) (sv 15)) (some 59) (sv 14)) (some 58) (sv 13)) (some 57) (sv 12)) (some 56) (sv 11)) (some 53) (sv 8)) (some 52) (sv 7)) (some 51) (sv 6)) (some 50) (sv 5)) (some 49) (sv 4)) (some 48) (sv 3)) (some 47) (sv 2)) (some 46) (sv 1)) (some 45) (sv 0))) _) _)
          try simp only [Act.put, List.setIfInBounds_toArray, List.set_cons_succ, List.set_cons_zero]
          simp [go_sem, quietTo, Ext.refl, ↓IntWalk.iteOmega, f8, f16]
          all_goals try simp (disch := omega) only [IntWalk.i64_in]
          all_goals first
            | rfl
        refine fac_quiet 18 rfl rfl rfl (fun _ _ h _ => h) rfl rfl ?_
        apply Exists.intro
        refine ⟨fun sv w' hw' hfa => ?_, ?_⟩
        · obtain ⟨f0, f1, f2, f3, f4, f5, f6, f7, f8, f9, f10, f11, f12, f13, f14, f15, f16, f17, -⟩ := hfa
          replace f0 : sv 0 = _ := f0
          try dsimp only at f0
          replace f1 : sv 1 = _ := f1
          try dsimp only at f1
          replace f2 : sv 2 = _ := f2
          try dsimp only at f2
          replace f3 : sv 3 = _ := f3
          try dsimp only at f3
          replace f4 : sv 4 = _ := f4
          try dsimp only at f4
          replace f5 : sv 5 = _ := f5
          try dsimp only at f5
          replace f6 : sv 6 = _ := f6
          try dsimp only at f6
          replace f7 : sv 7 = _ := f7
          try dsimp only at f7
          replace f8 : sv 8 = _ := f8
          try dsimp only at f8
          replace f9 : sv 9 = _ := f9
          try dsimp only at f9
          replace f10 : sv 10 = _ := f10
          try dsimp only at f10
          replace f11 : sv 11 = _ := f11
          try dsimp only at f11
          replace f12 : sv 12 = _ := f12
          try dsimp only at f12
          replace f13 : sv 13 = _ := f13
          try dsimp only at f13
          replace f14 : sv 14 = _ := f14
          try dsimp only at f14
          replace f15 : sv 15 = _ := f15
          try dsimp only at f15
          replace f16 : sv 16 = _ := f16
          try dsimp only at f16
          replace f17 : sv 17 = _ := f17
          try dsimp only at f17
          have hk9 := (Ext.refl w2).drew.trans hw'; obtain ⟨y1, -⟩ := (hX3.ext hk9).walk; obtain ⟨y2, -⟩ := (hY2.ext hk9).walk; obtain ⟨hc9, hff, hz9⟩ := hk9.walk; have v1 := (hc9 _ _ hwl).trans d1
          refine ⟨by simp [Region.wanted, yielded, putsL, Act.put, f8, f10, f17], ?_⟩
          simp only [putsL]
          change quietTo _ _ _ _ (Sem.run _ (execOp (Act.eval (Act.put (Act.put (Act.put (Act.put (Act.put (Act.put (Act.put (Act.put (Act.put (Act.put (Act.put (Act.put (Act.put (Act.put (Act.put (Act.put (Act.put (Act.put _ (some 62) (sv 17)) (some 61) (sv 16)) (some 60) (sv 15)) (some 59) (sv 14)) (some 58) (sv 13)) (some 57) (sv 12)) (some 56) (sv 11)) (some 55) (sv 10)) (some 54) (sv 9)) (some 53) (sv 8)) (some 52) (sv 7)) (some 51) (sv 6)) (some 50) (sv 5)) (some 49) (sv 4)) (some 48) (sv 3)) (some 47) (sv 2)) (some 46) (sv 1)) (some 45) (sv 0))) _) _)
          try simp only [Act.put, List.setIfInBounds_toArray, List.set_cons_succ, List.set_cons_zero]
          simp [go_sem, quietTo, Ext.refl, ↓IntWalk.iteOmega, f8, f10, f17]
          all_goals try simp (disch := omega) only [IntWalk.i64_in]
          all_goals first
            | rfl
            | (exact ho2.out _)
        refine fac_quiet 19 rfl rfl rfl (fun _ _ h _ => h) rfl rfl ?_
        apply Exists.intro
        refine ⟨fun sv w' hw' hfa => ?_, ?_⟩
        · obtain ⟨_, _, _, _, _, _, _, _, f8, _, _, _, _, _, _, _, _, _, f18, -⟩ := hfa
          replace f8 : sv 8 = _ := f8
          try dsimp only at f8
          replace f18 : sv 18 = _ := f18
          try dsimp only at f18
          refine ⟨by simp [Region.wanted, yielded, putsL, Act.put, f8, f18], ?_⟩
          simp only [putsL]
          change quietTo _ _ _ _ (Sem.run _ (execOp (Act.eval (Act.put (Act.put (Act.put (Act.put (Act.put (Act.put (Act.put (Act.put (Act.put (Act.put (Act.put (Act.put (Act.put (Act.put (Act.put (Act.put (Act.put (Act.put (Act.put _ (some 63) (sv 18)) (some 62) (sv 17)) (some 61) (sv 16)) (some 60) (sv 15)) (some 59) (sv 14)) (some 58) (sv 13)) (some 57) (sv 12)) (some 56) (sv 11)) (some 55) (sv 10)) (some 54) (sv 9)) (some 53) (sv 8)) (some 52) (sv 7)) (some 51) (sv 6)) (some 50) (sv 5)) (some 49) (sv 4)) (some 48) (sv 3)) (some 47) (sv 2)) (some 46) (sv 1)) (some 45) (sv 0))) _) _)
          try simp only [Act.put, List.setIfInBounds_toArray, List.set_cons_succ, List.set_cons_zero]
          simp [go_sem, quietTo, Ext.refl, ↓IntWalk.iteOmega, f8, f18]
          all_goals try simp (disch := omega) only [IntWalk.i64_in]
          all_goals first
            | rfl
        refine fac_quiet 20 rfl rfl rfl (fun _ _ h _ => h) rfl rfl ?_
        apply Exists.intro
        refine ⟨fun sv w' hw' hfa => ?_, ?_⟩
        · obtain ⟨_, _, _, _, _, _, _, _, f8, _, _, _, _, _, _, _, _, _, _, f19, -⟩ := hfa
          replace f8 : sv 8 = _ := f8
          try dsimp only at f8
          replace f19 : sv 19 = _ := f19
          try dsimp only at f19
          refine ⟨rfl, ?_⟩
          simp only [putsL]
          change quietTo _ _ _ _ (Sem.run _ (execOp (Act.eval (Act.put (Act.put (Act.put (Act.put (Act.put (Act.put (Act.put (Act.put (Act.put (Act.put (Act.put (Act.put (Act.put (Act.put (Act.put (Act.put (Act.put (Act.put (Act.put (Act.put _ (some 64) (sv 19)) (some 63) (sv 18)) (some 62) (sv 17)) (some 61) (sv 16)) (some 60) (sv 15)) (some 59) (sv 14)) (some 58) (sv 13)) (some 57) (sv 12)) (some 56) (sv 11)) (some 55) (sv 10)) (some 54) (sv 9)) (some 53) (sv 8)) (some 52) (sv 7)) (some 51) (sv 6)) (some 50) (sv 5)) (some 49) (sv 4)) (some 48) (sv 3)) (some 47) (sv 2)) (some 46) (sv 1)) (some 45) (sv 0))) _) _)
          try simp only [Act.put, List.setIfInBounds_toArray, List.set_cons_succ, List.set_cons_zero]
          simp [go_sem, quietTo, Ext.refl, ↓IntWalk.iteOmega, f8, f19]
          all_goals try simp (disch := omega) only [IntWalk.i64_in]
          all_goals first
            | rfl
        refine fac_quiet 21 rfl rfl rfl (fun _ _ h _ => h) rfl rfl ?_
        apply Exists.intro
        refine ⟨fun sv w' hw' hfa => ?_, ?_⟩
        · obtain ⟨_, _, _, _, _, _, _, _, _, _, _, _, _, _, _, _, _, _, _, _, f20, -⟩ := hfa
          replace f20 : sv 20 = _ := f20
          try dsimp only at f20
          refine ⟨rfl, ?_⟩
          simp only [putsL]
          change quietTo _ _ _ _ (Sem.run _ (execOp (Act.eval (Act.put (Act.put (Act.put (Act.put (Act.put (Act.put (Act.put (Act.put (Act.put (Act.put (Act.put (Act.put (Act.put (Act.put (Act.put (Act.put (Act.put (Act.put (Act.put (Act.put (Act.put _ (some 65) (sv 20)) (some 64) (sv 19)) (some 63) (sv 18)) (some 62) (sv 17)) (some 61) (sv 16)) (some 60) (sv 15)) (some 59) (sv 14)) (some 58) (sv 13)) (some 57) (sv 12)) (some 56) (sv 11)) (some 55) (sv 10)) (some 54) (sv 9)) (some 53) (sv 8)) (some 52) (sv 7)) (some 51) (sv 6)) (some 50) (sv 5)) (some 49) (sv 4)) (some 48) (sv 3)) (some 47) (sv 2)) (some 46) (sv 1)) (some 45) (sv 0))) _) _)
          try simp only [Act.put, List.setIfInBounds_toArray, List.set_cons_succ, List.set_cons_zero]
          simp [go_sem, quietTo, Ext.refl, f20]
          all_goals first
            | rfl
        refine fac_nil fun xq wrq herq hfrq hcrq holdq hapq => ?_
        obtain ⟨f0, f1, f2, f3, f4, f5, f6, f7, f8, f9, f10, f11, f12, f13, f14, f15, f16, f17, f18, f19, f20, f21, -⟩ := hfrq
        replace f0 : xq 0 = _ := f0
        try dsimp only at f0
        replace f1 : xq 1 = _ := f1
        try dsimp only at f1
        replace f2 : xq 2 = _ := f2
        try dsimp only at f2
        replace f3 : xq 3 = _ := f3
        try dsimp only at f3
        replace f4 : xq 4 = _ := f4
        try dsimp only at f4
        replace f5 : xq 5 = _ := f5
        try dsimp only at f5
        replace f6 : xq 6 = _ := f6
        try dsimp only at f6
        replace f7 : xq 7 = _ := f7
        try dsimp only at f7
        replace f8 : xq 8 = _ := f8
        try dsimp only at f8
        replace f9 : xq 9 = _ := f9
        try dsimp only at f9
        replace f10 : xq 10 = _ := f10
        try dsimp only at f10
        replace f11 : xq 11 = _ := f11
        try dsimp only at f11
        replace f12 : xq 12 = _ := f12
        try dsimp only at f12
        replace f13 : xq 13 = _ := f13
        try dsimp only at f13
        replace f14 : xq 14 = _ := f14
        try dsimp only at f14
        replace f15 : xq 15 = _ := f15
        try dsimp only at f15
        replace f16 : xq 16 = _ := f16
        try dsimp only at f16
        replace f17 : xq 17 = _ := f17
        try dsimp only at f17
        replace f18 : xq 18 = _ := f18
        try dsimp only at f18
        replace f19 : xq 19 = _ := f19
        try dsimp only at f19
        replace f20 : xq 20 = _ := f20
        try dsimp only at f20
        replace f21 : xq 21 = _ := f21
        try dsimp only at f21
        change wpList _ _ _ _ (Act.put (Act.put (Act.put (Act.put (Act.put (Act.put (Act.put (Act.put (Act.put (Act.put (Act.put (Act.put (Act.put (Act.put (Act.put (Act.put (Act.put (Act.put (Act.put (Act.put (Act.put (Act.put _ (some 45) (xq 0)) (some 46) (xq 1)) (some 47) (xq 2)) (some 48) (xq 3)) (some 49) (xq 4)) (some 50) (xq 5)) (some 51) (xq 6)) (some 52) (xq 7)) (some 53) (xq 8)) (some 54) (xq 9)) (some 55) (xq 10)) (some 56) (xq 11)) (some 57) (xq 12)) (some 58) (xq 13)) (some 59) (xq 14)) (some 60) (xq 15)) (some 61) (xq 16)) (some 62) (xq 17)) (some 63) (xq 18)) (some 64) (xq 19)) (some 65) (xq 20)) (some 44) (xq 21)) _
        simp only [putsL, Nat.reduceAdd, List.drop_succ_cons, List.drop_zero, List.drop_nil, Act.put, List.setIfInBounds_toArray, List.set_cons_succ, List.set_cons_zero]
        try simp only [f0, f1, f2, f3, f4, f5, f6, f7, f8, f9, f10, f11, f12, f13, f14, f15, f16, f17, f18, f19, f20, f21]
        clear f0 f1 f2 f3 f4 f5 f6 f7 f8 f9 f10 f11 f12 f13 f14 f15 f16 f17 f18 f19 f20 f21
        clear holdq hapq
        go_wp2
        go_ret
        exact ⟨ret_int (by rw [hF.out, ← scan_is (v := 1) hz hlt (by rw [hv.out, hh, hr1, hr2]; rfl) (by decide)]; rfl), hE2.trans ((Ext.refl _).drew.trans herq)⟩
      rw [hr2] at ho2
      replace ho1 := Lib.hid ho1
      replace ho2 := Lib.hid ho2
      refine wp_region_facts [] [([], false, false), ([0], false, false), ([], false, false), ([2], false, false), ([2, 3], false, false), ([2, 3, 4], false, false), ([0, 1, 2, 3, 4, 5], false, false), ([0, 1, 2, 3, 4, 5, 6], false, false), ([0, 1, 2, 3, 4, 5, 6, 7], false, false), ([0, 1, 2, 3, 4, 5, 6, 7, 8], false, false), ([0, 1, 2, 3, 4, 5, 6, 7, 8, 9], false, false), ([0, 1, 2, 3, 4, 5, 6, 7, 8], false, false), ([0, 1, 2, 3, 4, 5, 6, 7, 8, 11], false, false), ([0, 1, 2, 3, 4, 5, 6, 7, 8], false, false), ([0, 1, 2, 3, 4, 5, 6, 7, 8, 13], false, false), ([0, 1, 2, 3, 4, 5, 6, 7, 8, 11, 12, 13, 14], false, false), ([0, 1, 2, 3, 4, 5, 6, 7, 8, 11, 12, 13, 14, 15], false, false), ([0, 1, 2, 3, 4, 5, 6, 7, 8, 11, 12, 13, 14, 15, 16], false, false), ([0, 1, 2, 3, 4, 5, 6, 7, 8, 9, 10, 11, 12, 13, 14, 15, 16, 17], false, false), ([0, 1, 2, 3, 4, 5, 6, 7, 8, 9, 10, 11, 12, 13, 14, 15, 16, 17, 18], false, false), ([0, 1, 2, 3, 4, 5, 6, 7, 8, 9, 10, 11, 12, 13, 14, 15, 16, 17, 18, 19], false, false), ([0, 1, 2, 3, 4, 5, 6, 7, 8, 9, 10, 11, 12, 13, 14, 15, 16, 17, 18, 19, 20], false, false)] (Ext) Ext (fun _ => True) (by kernel_rfl) (by kernel_rfl) Ext.refl (fun _ _ _ => Ext.trans) (fun _ _ h => h) (fun _ _ h => h.size) (fun _ _ h _ => h) trivial ?_
      dsimp only [List.length_cons, List.length_nil, List.drop_succ_cons, List.drop_zero, List.drop_nil]
      refine fac_quiet 0 rfl rfl rfl (fun _ _ h _ => h) rfl rfl ?_
      apply Exists.intro
      refine ⟨fun sv w' hw' hfa => ?_, ?_⟩
      · refine ⟨rfl, ?_⟩
        simp only [putsL]
        change quietTo _ _ _ _ (Sem.run _ (execOp (Act.eval _) _) _)
        try simp only [Act.put, List.setIfInBounds_toArray, List.set_cons_succ, List.set_cons_zero]
        simp [go_sem, quietTo, Ext.refl]
        all_goals first
          | rfl
      refine fac_quiet 1 rfl rfl rfl (fun _ _ h _ => h) rfl rfl ?_
      apply Exists.intro
      refine ⟨fun sv w' hw' hfa => ?_, ?_⟩
      · obtain ⟨f0, -⟩ := hfa
        replace f0 : sv 0 = _ := f0
        try dsimp only at f0
        have hk9 := (Ext.refl w2).drew.trans hw'; obtain ⟨y1, -⟩ := (hX3.ext hk9).walk; obtain ⟨y2, -⟩ := (hY2.ext hk9).walk; obtain ⟨hc9, hff, hz9⟩ := hk9.walk; have v1 := (hc9 _ _ hwl).trans d1
        refine ⟨rfl, ?_⟩
        simp only [putsL]
        change quietTo _ _ _ _ (Sem.run _ (execOp (Act.eval (Act.put _ (some 45) (sv 0))) _) _)
        try simp only [Act.put, List.setIfInBounds_toArray, List.set_cons_succ, List.set_cons_zero]
        simp [go_sem, quietTo, Ext.refl, ↓IntWalk.iteOmega, f0, y2]
        all_goals try simp (disch := omega) only [IntWalk.i64_in]
        all_goals first
          | rfl
      refine fac_quiet 2 rfl rfl rfl (fun _ _ h _ => h) rfl rfl ?_
      apply Exists.intro
      refine ⟨fun sv w' hw' hfa => ?_, ?_⟩
      · refine ⟨rfl, ?_⟩
        simp only [putsL]
        change quietTo _ _ _ _ (Sem.run _ (execOp (Act.eval _) _) _)
        try simp only [Act.put, List.setIfInBounds_toArray, List.set_cons_succ, List.set_cons_zero]
        simp [go_sem, quietTo, Ext.refl]
        all_goals first
          | rfl
      refine fac_quiet 3 rfl rfl rfl (fun _ _ h _ => h) rfl rfl ?_
      apply Exists.intro
      refine ⟨fun sv w' hw' hfa => ?_, ?_⟩
      · obtain ⟨f2, -⟩ := hfa
        replace f2 : sv 2 = _ := f2
        try dsimp only at f2
        have hk9 := (Ext.refl w2).drew.trans hw'; obtain ⟨y1, -⟩ := (hX3.ext hk9).walk; obtain ⟨y2, -⟩ := (hY2.ext hk9).walk; obtain ⟨hc9, hff, hz9⟩ := hk9.walk; have v1 := (hc9 _ _ hwl).trans d1
        refine ⟨rfl, ?_⟩
        simp only [putsL]
        change quietTo _ _ _ _ (Sem.run _ (execOp (Act.eval (Act.put _ (some 47) (sv 2))) _) _)
        try simp only [Act.put, List.setIfInBounds_toArray, List.set_cons_succ, List.set_cons_zero]
        simp [go_sem, quietTo, Ext.refl, ↓IntWalk.iteOmega, f2, y1]
        all_goals try simp (disch := omega) only [IntWalk.i64_in]
        all_goals first
          | rfl
      refine fac_quiet 4 rfl rfl rfl (fun _ _ h _ => h) rfl rfl ?_
      apply Exists.intro
      refine ⟨fun sv w' hw' hfa => ?_, ?_⟩
      · obtain ⟨_, f3, -⟩ := hfa
        replace f3 : sv 3 = _ := f3
        try dsimp only at f3
        refine ⟨rfl, ?_⟩
        simp only [putsL]
        change quietTo _ _ _ _ (Sem.run _ (execOp (Act.eval (Act.put (Act.put _ (some 48) (sv 3)) (some 47) (sv 2))) _) _)
        try simp only [Act.put, List.setIfInBounds_toArray, List.set_cons_succ, List.set_cons_zero]
        simp [go_sem, quietTo, Ext.refl, ↓IntWalk.iteOmega, f3]
        all_goals try simp (disch := omega) only [IntWalk.i64_in]
        all_goals first
          | rfl
      refine fac_quiet 5 rfl rfl rfl (fun _ _ h _ => h) rfl rfl ?_
      apply Exists.intro
      refine ⟨fun sv w' hw' hfa => ?_, ?_⟩
      · obtain ⟨_, _, f4, -⟩ := hfa
        replace f4 : sv 4 = _ := f4
        try dsimp only at f4
        refine ⟨rfl, ?_⟩
        simp only [putsL]
        change quietTo _ _ _ _ (Sem.run _ (execOp (Act.eval (Act.put (Act.put (Act.put _ (some 49) (sv 4)) (some 48) (sv 3)) (some 47) (sv 2))) _) _)
        try simp only [Act.put, List.setIfInBounds_toArray, List.set_cons_succ, List.set_cons_zero]
        simp [go_sem, quietTo, Ext.refl, ↓IntWalk.iteOmega, f4]
        all_goals try simp (disch := omega) only [IntWalk.i64_in]
        all_goals first
          | rfl
      refine fac_quiet 6 rfl rfl rfl (fun _ _ h _ => h) rfl rfl ?_
      apply Exists.intro
      refine ⟨fun sv w' hw' hfa => ?_, ?_⟩
      · obtain ⟨f0, f1, f2, f3, f4, f5, -⟩ := hfa
        replace f0 : sv 0 = _ := f0
        try dsimp only at f0
        replace f1 : sv 1 = _ := f1
        try dsimp only at f1
        replace f2 : sv 2 = _ := f2
        try dsimp only at f2
        replace f3 : sv 3 = _ := f3
        try dsimp only at f3
        replace f4 : sv 4 = _ := f4
        try dsimp only at f4
        replace f5 : sv 5 = _ := f5
        try dsimp only at f5
        have hk9 := (Ext.refl w2).drew.trans hw'; obtain ⟨y1, -⟩ := (hX3.ext hk9).walk; obtain ⟨y2, -⟩ := (hY2.ext hk9).walk; obtain ⟨hc9, hff, hz9⟩ := hk9.walk; have v1 := (hc9 _ _ hwl).trans d1
        refine ⟨rfl, ?_⟩
        simp only [putsL]
        change quietTo _ _ _ _ (Sem.run _ (execOp (Act.eval (Act.put (Act.put (Act.put (Act.put (Act.put (Act.put _ (some 50) (sv 5)) (some 49) (sv 4)) (some 48) (sv 3)) (some 47) (sv 2)) (some 46) (sv 1)) (some 45) (sv 0))) _) _)
        try simp only [Act.put, List.setIfInBounds_toArray, List.set_cons_succ, List.set_cons_zero]
        simp [go_sem, quietTo, Ext.refl, ↓IntWalk.iteOmega, f1, f5]
        all_goals try simp (disch := omega) only [IntWalk.i64_in]
        all_goals first
          | rfl
          | (exact ho1.out _)
      refine fac_quiet 7 rfl rfl rfl (fun _ _ h _ => h) rfl rfl ?_
      apply Exists.intro
      refine ⟨fun sv w' hw' hfa => ?_, ?_⟩
      · obtain ⟨_, _, _, _, _, _, f6, -⟩ := hfa
        replace f6 : sv 6 = _ := f6
        try dsimp only at f6
        refine ⟨rfl, ?_⟩
        simp only [putsL]
        change quietTo _ _ _ _ (Sem.run _ (execOp (Act.eval (Act.put (Act.put (Act.put (Act.put (Act.put (Act.put (Act.put _ (some 51) (sv 6)) (some 50) (sv 5)) (some 49) (sv 4)) (some 48) (sv 3)) (some 47) (sv 2)) (some 46) (sv 1)) (some 45) (sv 0))) _) _)
        try simp only [Act.put, List.setIfInBounds_toArray, List.set_cons_succ, List.set_cons_zero]
        simp [go_sem, quietTo, Ext.refl, ↓IntWalk.iteOmega, f6]
        all_goals try simp (disch := omega) only [IntWalk.i64_in]
        all_goals first
          | rfl
      refine fac_quiet 8 rfl rfl rfl (fun _ _ h _ => h) rfl rfl ?_
      apply Exists.intro
      refine ⟨fun sv w' hw' hfa => ?_, ?_⟩
      · obtain ⟨_, _, _, _, _, _, _, f7, -⟩ := hfa
        replace f7 : sv 7 = _ := f7
        try dsimp only at f7
        refine ⟨rfl, ?_⟩
        simp only [putsL]
        change quietTo _ _ _ _ (Sem.run _ (execOp (Act.eval (Act.put (Act.put (Act.put (Act.put (Act.put (Act.put (Act.put (Act.put _ (some 52) (sv 7)) (some 51) (sv 6)) (some 50) (sv 5)) (some 49) (sv 4)) (some 48) (sv 3)) (some 47) (sv 2)) (some 46) (sv 1)) (some 45) (sv 0))) _) _)
        try simp only [Act.put, List.setIfInBounds_toArray, List.set_cons_succ, List.set_cons_zero]
        simp [go_sem, quietTo, Ext.refl, f7]
        all_goals first
          | rfl
      refine fac_quiet 9 rfl rfl rfl (fun _ _ h _ => h) rfl rfl ?_
      apply Exists.intro
      refine ⟨fun sv w' hw' hfa => ?_, ?_⟩
      · obtain ⟨_, _, _, _, _, _, _, _, f8, -⟩ := hfa
        replace f8 : sv 8 = _ := f8
        try dsimp only at f8
        refine ⟨by simp [Region.wanted, yielded, putsL, Act.put, f8], ?_⟩
        simp only [putsL]
        change quietTo _ _ _ _ (Sem.run _ (execOp (Act.eval (Act.put (Act.put (Act.put (Act.put (Act.put (Act.put (Act.put (Act.put (Act.put _ (some 53) (sv 8)) (some 52) (sv 7)) (some 51) (sv 6)) (some 50) (sv 5)) (some 49) (sv 4)) (some 48) (sv 3)) (some 47) (sv 2)) (some 46) (sv 1)) (some 45) (sv 0))) _) _)
        try simp only [Act.put, List.setIfInBounds_toArray, List.set_cons_succ, List.set_cons_zero]
        simp [go_sem, quietTo, Ext.refl, f8]
        all_goals first
          | rfl
      refine fac_quiet 10 rfl rfl rfl (fun _ _ h _ => h) rfl rfl ?_
      apply Exists.intro
      refine ⟨fun sv w' hw' hfa => ?_, ?_⟩
      · obtain ⟨_, _, _, _, _, _, _, _, f8, f9, -⟩ := hfa
        replace f8 : sv 8 = _ := f8
        try dsimp only at f8
        replace f9 : sv 9 = _ := f9
        try dsimp only at f9
        have hk9 := (Ext.refl w2).drew.trans hw'; obtain ⟨y1, -⟩ := (hX3.ext hk9).walk; obtain ⟨y2, -⟩ := (hY2.ext hk9).walk; obtain ⟨hc9, hff, hz9⟩ := hk9.walk; have v1 := (hc9 _ _ hwl).trans d1
        refine ⟨by simp [Region.wanted, yielded, putsL, Act.put, f8, f9], ?_⟩
        simp only [putsL]
        change quietTo _ _ _ _ (Sem.run _ (execOp (Act.eval (Act.put (Act.put (Act.put (Act.put (Act.put (Act.put (Act.put (Act.put (Act.put (Act.put _ (some 54) (sv 9)) (some 53) (sv 8)) (some 52) (sv 7)) (some 51) (sv 6)) (some 50) (sv 5)) (some 49) (sv 4)) (some 48) (sv 3)) (some 47) (sv 2)) (some 46) (sv 1)) (some 45) (sv 0))) _) _)
        try simp only [Act.put, List.setIfInBounds_toArray, List.set_cons_succ, List.set_cons_zero]
        simp [go_sem, quietTo, Ext.refl, ↓IntWalk.iteOmega, f8, f9, y2]
        all_goals try simp (disch := omega) only [IntWalk.i64_in]
        all_goals first
          | rfl
      refine fac_quiet 11 rfl rfl rfl (fun _ _ h _ => h) rfl rfl ?_
      apply Exists.intro
      refine ⟨fun sv w' hw' hfa => ?_, ?_⟩
      · obtain ⟨_, _, _, _, _, _, _, _, f8, -⟩ := hfa
        replace f8 : sv 8 = _ := f8
        try dsimp only at f8
        refine ⟨by simp [Region.wanted, yielded, putsL, Act.put, f8], ?_⟩
        simp only [putsL]
        change quietTo _ _ _ _ (Sem.run _ (execOp (Act.eval (Act.put (Act.put (Act.put (Act.put (Act.put (Act.put (Act.put (Act.put (Act.put _ (some 53) (sv 8)) (some 52) (sv 7)) (some 51) (sv 6)) (some 50) (sv 5)) (some 49) (sv 4)) (some 48) (sv 3)) (some 47) (sv 2)) (some 46) (sv 1)) (some 45) (sv 0))) _) _)
        try simp only [Act.put, List.setIfInBounds_toArray, List.set_cons_succ, List.set_cons_zero]
        simp [go_sem, quietTo, Ext.refl, f8]
        all_goals first
          | rfl
      refine fac_quiet 12 rfl rfl rfl (fun _ _ h _ => h) rfl rfl ?_
      apply Exists.intro
      refine ⟨fun sv w' hw' hfa => ?_, ?_⟩
      · obtain ⟨_, _, _, _, _, _, _, _, f8, f11, -⟩ := hfa
        replace f8 : sv 8 = _ := f8
        try dsimp only at f8
        replace f11 : sv 11 = _ := f11
        try dsimp only at f11
        have hk9 := (Ext.refl w2).drew.trans hw'; obtain ⟨y1, -⟩ := (hX3.ext hk9).walk; obtain ⟨y2, -⟩ := (hY2.ext hk9).walk; obtain ⟨hc9, hff, hz9⟩ := hk9.walk; have v1 := (hc9 _ _ hwl).trans d1
        refine ⟨by simp [Region.wanted, yielded, putsL, Act.put, f8, f11], ?_⟩
        simp only [putsL]
        change quietTo _ _ _ _ (Sem.run _ (execOp (Act.eval (Act.put (Act.put (Act.put (Act.put (Act.put (Act.put (Act.put (Act.put (Act.put (Act.put _ (some 56) (sv 11)) (some 53) (sv 8)) (some 52) (sv 7)) (some 51) (sv 6)) (some 50) (sv 5)) (some 49) (sv 4)) (some 48) (sv 3)) (some 47) (sv 2)) (some 46) (sv 1)) (some 45) (sv 0))) _) _)
        try simp only [Act.put, List.setIfInBounds_toArray, List.set_cons_succ, List.set_cons_zero]
        simp [go_sem, quietTo, Ext.refl, ↓IntWalk.iteOmega, f8, f11, y1]
        all_goals try simp (disch := omega) only [IntWalk.i64_in]
        all_goals first
          | rfl
      refine fac_quiet 13 rfl rfl rfl (fun _ _ h _ => h) rfl rfl ?_
      apply Exists.intro
      refine ⟨fun sv w' hw' hfa => ?_, ?_⟩
      · obtain ⟨_, _, _, _, _, _, _, _, f8, -⟩ := hfa
        replace f8 : sv 8 = _ := f8
        try dsimp only at f8
        refine ⟨by simp [Region.wanted, yielded, putsL, Act.put, f8], ?_⟩
        simp only [putsL]
        change quietTo _ _ _ _ (Sem.run _ (execOp (Act.eval (Act.put (Act.put (Act.put (Act.put (Act.put (Act.put (Act.put (Act.put (Act.put _ (some 53) (sv 8)) (some 52) (sv 7)) (some 51) (sv 6)) (some 50) (sv 5)) (some 49) (sv 4)) (some 48) (sv 3)) (some 47) (sv 2)) (some 46) (sv 1)) (some 45) (sv 0))) _) _)
        try simp only [Act.put, List.setIfInBounds_toArray, List.set_cons_succ, List.set_cons_zero]
        simp [go_sem, quietTo, Ext.refl, f8]
        all_goals first
          | rfl
      refine fac_quiet 14 rfl rfl rfl (fun _ _ h _ => h) rfl rfl ?_
      apply Exists.intro
      refine ⟨fun sv w' hw' hfa => ?_, ?_⟩
      · obtain ⟨_, _, _, _, _, _, _, _, f8, f13, -⟩ := hfa
        replace f8 : sv 8 = _ := f8
        try dsimp only at f8
        replace f13 : sv 13 = _ := f13
        try dsimp only at f13
        have hk9 := (Ext.refl w2).drew.trans hw'; obtain ⟨y1, -⟩ := (hX3.ext hk9).walk; obtain ⟨y2, -⟩ := (hY2.ext hk9).walk; obtain ⟨hc9, hff, hz9⟩ := hk9.walk; have v1 := (hc9 _ _ hwl).trans d1
        refine ⟨by simp [Region.wanted, yielded, putsL, Act.put, f8, f13], ?_⟩
        simp only [putsL]
        change quietTo _ _ _ _ (Sem.run _ (execOp (Act.eval (Act.put (Act.put (Act.put (Act.put (Act.put (Act.put (Act.put (Act.put (Act.put (Act.put _ (some 58) (sv 13)) (some 53) (sv 8)) (some 52) (sv 7)) (some 51) (sv 6)) (some 50) (sv 5)) (some 49) (sv 4)) (some 48) (sv 3)) (some 47) (sv 2)) (some 46) (sv 1)) (some 45) (sv 0))) _) _)
        try simp only [Act.put, List.setIfInBounds_toArray, List.set_cons_succ, List.set_cons_zero]
        simp [go_sem, quietTo, Ext.refl, ↓IntWalk.iteOmega, f8, f13, y2]
        all_goals try simp (disch := omega) only [IntWalk.i64_in]
        all_goals first
          | rfl
      refine fac_quiet 15 rfl rfl rfl (fun _ _ h _ => h) rfl rfl ?_
      apply Exists.intro
      refine ⟨fun sv w' hw' hfa => ?_, ?_⟩
      · obtain ⟨_, _, _, _, _, _, _, _, f8, _, f12, _, f14, -⟩ := hfa
        replace f8 : sv 8 = _ := f8
        try dsimp only at f8
        replace f12 : sv 12 = _ := f12
        try dsimp only at f12
        replace f14 : sv 14 = _ := f14
        try dsimp only at f14
        have hk9 := (Ext.refl w2).drew.trans hw'; obtain ⟨y1, -⟩ := (hX3.ext hk9).walk; obtain ⟨y2, -⟩ := (hY2.ext hk9).walk; obtain ⟨hc9, hff, hz9⟩ := hk9.walk; have v1 := (hc9 _ _ hwl).trans d1
        refine ⟨by simp [Region.wanted, yielded, putsL, Act.put, f8, f12, f14], ?_⟩
        simp only [putsL]
        change quietTo _ _ _ _ (Sem.run _ (execOp (Act.eval (Act.put (Act.put (Act.put (Act.put (Act.put (Act.put (Act.put (Act.put (Act.put (Act.put (Act.put (Act.put (Act.put _ (some 59) (sv 14)) (some 58) (sv 13)) (some 57) (sv 12)) (some 56) (sv 11)) (some 53) (sv 8)) (some 52) (sv 7)) (some 51) (sv 6)) (some 50) (sv 5)) (some 49) (sv 4)) (some 48) (sv 3)) (some 47) (sv 2)) (some 46) (sv 1)) (some 45) (sv 0))) _) _)
        try simp only [Act.put, List.setIfInBounds_toArray, List.set_cons_succ, List.set_cons_zero]
        simp [go_sem, quietTo, Ext.refl, ↓IntWalk.iteOmega, f8, f12, f14, hrI]
        all_goals try simp (disch := omega) only [IntWalk.i64_in]
        all_goals first
          | rfl
      refine fac_quiet 16 rfl rfl rfl (fun _ _ h _ => h) rfl rfl ?_
      apply Exists.intro
      refine ⟨fun sv w' hw' hfa => ?_, ?_⟩
      · obtain ⟨_, _, _, _, _, _, _, _, f8, _, _, _, _, f15, -⟩ := hfa
        replace f8 : sv 8 = _ := f8
        try dsimp only at f8
        replace f15 : sv 15 = _ := f15
        try dsimp only at f15
        have hk9 := (Ext.refl w2).drew.trans hw'; obtain ⟨y1, -⟩ := (hX3.ext hk9).walk; obtain ⟨y2, -⟩ := (hY2.ext hk9).walk; obtain ⟨hc9, hff, hz9⟩ := hk9.walk; have v1 := (hc9 _ _ hwl).trans d1
        refine ⟨by simp [Region.wanted, yielded, putsL, Act.put, f8, f15], ?_⟩
        simp only [putsL]
        change quietTo _ _ _ _ (Sem.run _ (execOp (Act.eval (Act.put (Act.put (Act.put (Act.put (Act.put (Act.put (Act.put (Act.put (Act.put (Act.put (Act.put (Act.put (Act.put (Act.put _ (some 60) (sv 15)) (some 59) (sv 14)) (some 58) (sv 13)) (some 57) (sv 12)) (some 56) (sv 11)) (some 53) (sv 8)) (some 52) (sv 7)) (some 51) (sv 6)) (some 50) (sv 5)) (some 49) (sv 4)) (some 48) (sv 3)) (some 47) (sv 2)) (some 46) (sv 1)) (some 45) (sv 0))) _) _)
        try simp only [Act.put, List.setIfInBounds_toArray, List.set_cons_succ, List.set_cons_zero]
        simp [go_sem, quietTo, Ext.refl, ↓IntWalk.iteOmega, f8, f15, v1]
        all_goals try simp (disch := omega) only [IntWalk.i64_in]
        all_goals first
          | rfl
      refine fac_quiet 17 rfl rfl rfl (fun _ _ h _ => h) rfl rfl ?_
      apply Exists.intro
      refine ⟨fun sv w' hw' hfa => ?_, ?_⟩
      · obtain ⟨_, _, _, _, _, _, _, _, f8, _, _, _, _, _, f16, -⟩ := hfa
        replace f8 : sv 8 = _ := f8
        try dsimp only at f8
        replace f16 : sv 16 = _ := f16
        try dsimp only at f16
        refine ⟨by simp [Region.wanted, yielded, putsL, Act.put, f8, f16], ?_⟩
        simp only [putsL]
        change quietTo _ _ _ _ (Sem.run _ (execOp (Act.eval (Act.put (Act.put (Act.put (Act.put (Act.put (Act.put (Act.put (Act.put (Act.put (Act.put (Act.put (Act.put (Act.put (Act.put (Act.put _ (some 61) (sv 16)) (some 60) (sv 15)) (some 59) (sv 14)) (some 58) (sv 13)) (some 57) (sv 12)) (some 56) (sv 11)) (some 53) (sv 8)) (some 52) (sv 7)) (some 51) (sv 6)) (some 50) (sv 5)) (some 49) (sv 4)) (some 48) (sv 3)) (some 47) (sv 2)) (some 46) (sv 1)) (some 45) (sv 0))) _) _)
        try simp only [Act.put, List.setIfInBounds_toArray, List.set_cons_succ, List.set_cons_zero]
        simp [go_sem, quietTo, Ext.refl, ↓IntWalk.iteOmega, f8, f16]
        all_goals try simp (disch := omega) only [IntWalk.i64_in]
        all_goals first
          | rfl
      refine fac_quiet 18 rfl rfl rfl (fun _ _ h _ => h) rfl rfl ?_
      apply Exists.intro
      refine ⟨fun sv w' hw' hfa => ?_, ?_⟩
      · obtain ⟨f0, f1, f2, f3, f4, f5, f6, f7, f8, f9, f10, f11, f12, f13, f14, f15, f16, f17, -⟩ := hfa
        replace f0 : sv 0 = _ := f0
        try dsimp only at f0
        replace f1 : sv 1 = _ := f1
        try dsimp only at f1
        replace f2 : sv 2 = _ := f2
        try dsimp only at f2
        replace f3 : sv 3 = _ := f3
        try dsimp only at f3
        replace f4 : sv 4 = _ := f4
        try dsimp only at f4
        replace f5 : sv 5 = _ := f5
        try dsimp only at f5
        replace f6 : sv 6 = _ := f6
        try dsimp only at f6
        replace f7 : sv 7 = _ := f7
        try dsimp only at f7
        replace f8 : sv 8 = _ := f8
        try dsimp only at f8
        replace f9 : sv 9 = _ := f9
        try dsimp only at f9
        replace f10 : sv 10 = _ := f10
        try dsimp only at f10
        replace f11 : sv 11 = _ := f11
        try dsimp only at f11
        replace f12 : sv 12 = _ := f12
        try dsimp only at f12
        replace f13 : sv 13 = _ := f13
        try dsimp only at f13
        replace f14 : sv 14 = _ := f14
        try dsimp only at f14
        replace f15 : sv 15 = _ := f15
        try dsimp only at f15
        replace f16 : sv 16 = _ := f16
        try dsimp only at f16
        replace f17 : sv 17 = _ := f17
        try dsimp only at f17
        have hk9 := (Ext.refl w2).drew.trans hw'; obtain ⟨y1, -⟩ := (hX3.ext hk9).walk; obtain ⟨y2, -⟩ := (hY2.ext hk9).walk; obtain ⟨hc9, hff, hz9⟩ := hk9.walk; have v1 := (hc9 _ _ hwl).trans d1
        refine ⟨by simp [Region.wanted, yielded, putsL, Act.put, f8, f10, f17], ?_⟩
        simp only [putsL]
        change quietTo _ _ _ _ (Sem.run _ (execOp (Act.eval (Act.put (Act.put (Act.put (Act.put (Act.put (Act.put (Act.put (Act.put (Act.put (Act.put (Act.put (Act.put (Act.put (Act.put (Act.put (Act.put (Act.put (Act.put _ (some 62) (sv 17)) (some 61) (sv 16)) (some 60) (sv 15)) (some 59) (sv 14)) (some 58) (sv 13)) (some 57) (sv 12)) (some 56) (sv 11)) (some 55) (sv 10)) (some 54) (sv 9)) (some 53) (sv 8)) (some 52) (sv 7)) (some 51) (sv 6)) (some 50) (sv 5)) (some 49) (sv 4)) (some 48) (sv 3)) (some 47) (sv 2)) (some 46) (sv 1)) (some 45) (sv 0))) _) _)
        try simp only [Act.put, List.setIfInBounds_toArray, List.set_cons_succ, List.set_cons_zero]
        simp [go_sem, quietTo, Ext.refl, ↓IntWalk.iteOmega, f8, f10, f17]
        all_goals try simp (disch := omega) only [IntWalk.i64_in]
        all_goals first
          | rfl
          | (exact ho2.out _)
      refine fac_quiet 19 rfl rfl rfl (fun _ _ h _ => h) rfl rfl ?_
      apply Exists.intro
      refine ⟨fun sv w' hw' hfa => ?_, ?_⟩
      · obtain ⟨_, _, _, _, _, _, _, _, f8, _, _, _, _, _, _, _, _, _, f18, -⟩ := hfa
        replace f8 : sv 8 = _ := f8
        try dsimp only at f8
        replace f18 : sv 18 = _ := f18
        try dsimp only at f18
        refine ⟨by simp [Region.wanted, yielded, putsL, Act.put, f8, f18], ?_⟩
        simp only [putsL]
        change quietTo _ _ _ _ (Sem.run _ (execOp (Act.eval (Act.put (Act.put (Act.put (Act.put (Act.put (Act.put (Act.put (Act.put (Act.put (Act.put (Act.put (Act.put (Act.put (Act.put (Act.put (Act.put (Act.put (Act.put (Act.put _ (some 63) (sv 18)) (some 62) (sv 17)) (some 61) (sv 16)) (some 60) (sv 15)) (some 59) (sv 14)) (some 58) (sv 13)) (some 57) (sv 12)) (some 56) (sv 11)) (some 55) (sv 10)) (some 54) (sv 9)) (some 53) (sv 8)) (some 52) (sv 7)) (some 51) (sv 6)) (some 50) (sv 5)) (some 49) (sv 4)) (some 48) (sv 3)) (some 47) (sv 2)) (some 46) (sv 1)) (some 45) (sv 0))) _) _)
        try simp only [Act.put, List.setIfInBounds_toArray, List.set_cons_succ, List.set_cons_zero]
        simp [go_sem, quietTo, Ext.refl, ↓IntWalk.iteOmega, f8, f18]
        all_goals try simp (disch := omega) only [IntWalk.i64_in]
        all_goals first
          | rfl
      refine fac_quiet 20 rfl rfl rfl (fun _ _ h _ => h) rfl rfl ?_
      apply Exists.intro
      refine ⟨fun sv w' hw' hfa => ?_, ?_⟩
      · obtain ⟨_, _, _, _, _, _, _, _, f8, _, _, _, _, _, _, _, _, _, _, f19, -⟩ := hfa
        replace f8 : sv 8 = _ := f8
        try dsimp only at f8
        replace f19 : sv 19 = _ := f19
        try dsimp only at f19
        refine ⟨rfl, ?_⟩
        simp only [putsL]
        change quietTo _ _ _ _ (Sem.run _ (execOp (Act.eval (Act.put (Act.put (Act.put (Act.put (Act.put (Act.put (Act.put (Act.put (Act.put (Act.put (Act.put (Act.put (Act.put (Act.put (Act.put (Act.put (Act.put (Act.put (Act.put (Act.put _ (some 64) (sv 19)) (some 63) (sv 18)) (some 62) (sv 17)) (some 61) (sv 16)) (some 60) (sv 15)) (some 59) (sv 14)) (some 58) (sv 13)) (some 57) (sv 12)) (some 56) (sv 11)) (some 55) (sv 10)) (some 54) (sv 9)) (some 53) (sv 8)) (some 52) (sv 7)) (some 51) (sv 6)) (some 50) (sv 5)) (some 49) (sv 4)) (some 48) (sv 3)) (some 47) (sv 2)) (some 46) (sv 1)) (some 45) (sv 0))) _) _)
        try simp only [Act.put, List.setIfInBounds_toArray, List.set_cons_succ, List.set_cons_zero]
        simp [go_sem, quietTo, Ext.refl, ↓IntWalk.iteOmega, f8, f19]
        all_goals try simp (disch := omega) only [IntWalk.i64_in]
        all_goals first
          | rfl
      refine fac_quiet 21 rfl rfl rfl (fun _ _ h _ => h) rfl rfl ?_
      apply Exists.intro
      refine ⟨fun sv w' hw' hfa => ?_, ?_⟩
      · obtain ⟨_, _, _, _, _, _, _, _, _, _, _, _, _, _, _, _, _, _, _, _, f20, -⟩ := hfa
        replace f20 : sv 20 = _ := f20
        try dsimp only at f20
        refine ⟨rfl, ?_⟩
        simp only [putsL]
        change quietTo _ _ _ _ (Sem.run _ (execOp (Act.eval (Act.put (Act.put (Act.put (Act.put (Act.put (Act.put (Act.put (Act.put (Act.put (Act.put (Act.put (Act.put (Act.put (Act.put (Act.put (Act.put (Act.put (Act.put (Act.put (Act.put (Act.put _ (some 65) (sv 20)) (some 64) (sv 19)) (some 63) (sv 18)) (some 62) (sv 17)) (some 61) (sv 16)) (some 60) (sv 15)) (some 59) (sv 14)) (some 58) (sv 13)) (some 57) (sv 12)) (some 56) (sv 11)) (some 55) (sv 10)) (some 54) (sv 9)) (some 53) (sv 8)) (some 52) (sv 7)) (some 51) (sv 6)) (some 50) (sv 5)) (some 49) (sv 4)) (some 48) (sv 3)) (some 47) (sv 2)) (some 46) (sv 1)) (some 45) (sv 0))) _) _)
        try simp only [Act.put, List.setIfInBounds_toArray, List.set_cons_succ, List.set_cons_zero]
        simp [go_sem, quietTo, Ext.refl, f20]
        all_goals first
          | rfl
      refine fac_nil fun xq wrq herq hfrq hcrq holdq hapq => ?_
      obtain ⟨f0, f1, f2, f3, f4, f5, f6, f7, f8, f9, f10, f11, f12, f13, f14, f15, f16, f17, f18, f19, f20, f21, -⟩ := hfrq
      replace f0 : xq 0 = _ := f0
      try dsimp only at f0
      replace f1 : xq 1 = _ := f1
      try dsimp only at f1
      replace f2 : xq 2 = _ := f2
      try dsimp only at f2
      replace f3 : xq 3 = _ := f3
      try dsimp only at f3
      replace f4 : xq 4 = _ := f4
      try dsimp only at f4
      replace f5 : xq 5 = _ := f5
      try dsimp only at f5
      replace f6 : xq 6 = _ := f6
      try dsimp only at f6
      replace f7 : xq 7 = _ := f7
      try dsimp only at f7
      replace f8 : xq 8 = _ := f8
      try dsimp only at f8
      replace f9 : xq 9 = _ := f9
      try dsimp only at f9
      replace f10 : xq 10 = _ := f10
      try dsimp only at f10
      replace f11 : xq 11 = _ := f11
      try dsimp only at f11
      replace f12 : xq 12 = _ := f12
      try dsimp only at f12
      replace f13 : xq 13 = _ := f13
      try dsimp only at f13
      replace f14 : xq 14 = _ := f14
      try dsimp only at f14
      replace f15 : xq 15 = _ := f15
      try dsimp only at f15
      replace f16 : xq 16 = _ := f16
      try dsimp only at f16
      replace f17 : xq 17 = _ := f17
      try dsimp only at f17
      replace f18 : xq 18 = _ := f18
      try dsimp only at f18
      replace f19 : xq 19 = _ := f19
      try dsimp only at f19
      replace f20 : xq 20 = _ := f20
      try dsimp only at f20
      replace f21 : xq 21 = _ := f21
      try dsimp only at f21
      change wpList _ _ _ _ (Act.put (Act.put (Act.put (Act.put (Act.put (Act.put (Act.put (Act.put (Act.put (Act.put (Act.put (Act.put (Act.put (Act.put (Act.put (Act.put (Act.put (Act.put (Act.put (Act.put (Act.put (Act.put _ (some 45) (xq 0)) (some 46) (xq 1)) (some 47) (xq 2)) (some 48) (xq 3)) (some 49) (xq 4)) (some 50) (xq 5)) (some 51) (xq 6)) (some 52) (xq 7)) (some 53) (xq 8)) (some 54) (xq 9)) (some 55) (xq 10)) (some 56) (xq 11)) (some 57) (xq 12)) (some 58) (xq 13)) (some 59) (xq 14)) (some 60) (xq 15)) (some 61) (xq 16)) (some 62) (xq 17)) (some 63) (xq 18)) (some 64) (xq 19)) (some 65) (xq 20)) (some 44) (xq 21)) _
      simp only [putsL, Nat.reduceAdd, List.drop_succ_cons, List.drop_zero, List.drop_nil, Act.put, List.setIfInBounds_toArray, List.set_cons_succ, List.set_cons_zero]
      try simp only [f0, f1, f2, f3, f4, f5, f6, f7, f8, f9, f10, f11, f12, f13, f14, f15, f16, f17, f18, f19, f20, f21]
      clear f0 f1 f2 f3 f4 f5 f6 f7 f8 f9 f10 f11 f12 f13 f14 f15 f16 f17 f18 f19 f20 f21
      clear holdq hapq
      have hkq := (Ext.refl w2).drew.trans herq
      have hYq := hY2.ext hkq
      have hE3 := hE2.trans hkq
      have hk3 := hk2.trans hkq
      clear ho1 ho2 d1 hX3
      go_upto_region 15 with fail
      rcases Nat.eq_zero_or_pos k with hk0 | hk0
      · subst hk0
        have hz0 : ((0 : Nat) : Int) = 0 := rfl
        refine wp_region_facts [] [([], false, false), ([0], false, false), ([0, 1], false, false), ([0, 1, 2], false, false), ([0, 1, 2], false, false), ([0, 1, 2, 4], false, false), ([0, 1, 2, 3, 4, 5], false, false), ([0, 1, 2, 3, 4, 5, 6], false, false), ([0, 1, 2], false, false), ([0, 1, 2, 3, 4, 5, 6, 7, 8], false, false), ([0, 1, 2, 3, 4, 5, 6, 7, 8, 9], false, false), ([0, 1, 2, 3, 4, 5, 6, 7, 8, 9, 10], false, false), ([0, 1, 2, 3, 4, 5, 6, 7, 8, 9, 10, 11], false, false)] (Ext) Ext (fun _ => True) (by kernel_rfl) (by kernel_rfl) Ext.refl (fun _ _ _ => Ext.trans) (fun _ _ h => h) (fun _ _ h => h.size) (fun _ _ h _ => h) trivial ?_
        dsimp only [List.length_cons, List.length_nil, List.drop_succ_cons, List.drop_zero, List.drop_nil]
        refine fac_quiet 0 rfl rfl rfl (fun _ _ h _ => h) rfl rfl ?_
        apply Exists.intro
        refine ⟨fun sv w' hw' hfa => ?_, ?_⟩
        · refine ⟨rfl, ?_⟩
          simp only [putsL]
          change quietTo _ _ _ _ (Sem.run _ (execOp (Act.eval _) _) _)
          try simp only [Act.put, List.setIfInBounds_toArray, List.set_cons_succ, List.set_cons_zero]
          simp [go_sem, quietTo, Ext.refl]
          all_goals first
            | rfl
        refine fac_quiet 1 rfl rfl rfl (fun _ _ h _ => h) rfl rfl ?_
        apply Exists.intro
        refine ⟨fun sv w' hw' hfa => ?_, ?_⟩
        · obtain ⟨f0, -⟩ := hfa
          replace f0 : sv 0 = _ := f0
          try dsimp only at f0
          refine ⟨rfl, ?_⟩
          simp only [putsL]
          change quietTo _ _ _ _ (Sem.run _ (execOp (Act.eval (Act.put _ (some 67) (sv 0))) _) _)
          try simp only [Act.put, List.setIfInBounds_toArray, List.set_cons_succ, List.set_cons_zero]
          simp [go_sem, quietTo, Ext.refl, ↓IntWalk.iteOmega, f0, hz0]
          all_goals try simp (disch := omega) only [IntWalk.i64_in]
          all_goals first
            | rfl
        refine fac_quiet 2 rfl rfl rfl (fun _ _ h _ => h) rfl rfl ?_
        apply Exists.intro
        refine ⟨fun sv w' hw' hfa => ?_, ?_⟩
        · obtain ⟨_, f1, -⟩ := hfa
          replace f1 : sv 1 = _ := f1
          try dsimp only at f1
          refine ⟨rfl, ?_⟩
          simp only [putsL]
          change quietTo _ _ _ _ (Sem.run _ (execOp (Act.eval (Act.put (Act.put _ (some 68) (sv 1)) (some 67) (sv 0))) _) _)
          try simp only [Act.put, List.setIfInBounds_toArray, List.set_cons_succ, List.set_cons_zero]
          simp [go_sem, quietTo, Ext.refl, f1]
          all_goals first
            | rfl
        refine fac_skip 3 rfl rfl rfl (fun _ _ h _ => h) Ext.refl ?_ ?_
        · intro sv w' hw' hfa
          obtain ⟨f0, f1, f2, -⟩ := hfa
          replace f0 : sv 0 = _ := f0
          try dsimp only at f0
          replace f1 : sv 1 = _ := f1
          try dsimp only at f1
          replace f2 : sv 2 = _ := f2
          try dsimp only at f2
          simp [Region.wanted, yielded, putsL, Act.put, f2]
        refine fac_skip 4 rfl rfl rfl (fun _ _ h _ => h) Ext.refl ?_ ?_
        · intro sv w' hw' hfa
          obtain ⟨f0, f1, f2, -⟩ := hfa
          replace f0 : sv 0 = _ := f0
          try dsimp only at f0
          replace f1 : sv 1 = _ := f1
          try dsimp only at f1
          replace f2 : sv 2 = _ := f2
          try dsimp only at f2
          simp [Region.wanted, yielded, putsL, Act.put, f2]
        refine fac_skip 5 rfl rfl rfl (fun _ _ h _ => h) Ext.refl ?_ ?_
        · intro sv w' hw' hfa
          obtain ⟨f0, f1, f2, f4, -⟩ := hfa
          replace f0 : sv 0 = _ := f0
          try dsimp only at f0
          replace f1 : sv 1 = _ := f1
          try dsimp only at f1
          replace f2 : sv 2 = _ := f2
          try dsimp only at f2
          replace f4 : sv 4 = _ := f4
          try dsimp only at f4
          simp [Region.wanted, yielded, putsL, Act.put, f2, f4]
        refine fac_skip 6 rfl rfl rfl (fun _ _ h _ => h) Ext.refl ?_ ?_
        · intro sv w' hw' hfa
          obtain ⟨f0, f1, f2, f3, f4, f5, -⟩ := hfa
          replace f0 : sv 0 = _ := f0
          try dsimp only at f0
          replace f1 : sv 1 = _ := f1
          try dsimp only at f1
          replace f2 : sv 2 = _ := f2
          try dsimp only at f2
          replace f3 : sv 3 = _ := f3
          try dsimp only at f3
          replace f4 : sv 4 = _ := f4
          try dsimp only at f4
          replace f5 : sv 5 = _ := f5
          try dsimp only at f5
          simp [Region.wanted, yielded, putsL, Act.put, f2, f3, f5]
        refine fac_skip 7 rfl rfl rfl (fun _ _ h _ => h) Ext.refl ?_ ?_
        · intro sv w' hw' hfa
          obtain ⟨f0, f1, f2, f3, f4, f5, f6, -⟩ := hfa
          replace f0 : sv 0 = _ := f0
          try dsimp only at f0
          replace f1 : sv 1 = _ := f1
          try dsimp only at f1
          replace f2 : sv 2 = _ := f2
          try dsimp only at f2
          replace f3 : sv 3 = _ := f3
          try dsimp only at f3
          replace f4 : sv 4 = _ := f4
          try dsimp only at f4
          replace f5 : sv 5 = _ := f5
          try dsimp only at f5
          replace f6 : sv 6 = _ := f6
          try dsimp only at f6
          simp [Region.wanted, yielded, putsL, Act.put, f2, f6]
        refine fac_skip 8 rfl rfl rfl (fun _ _ h _ => h) Ext.refl ?_ ?_
        · intro sv w' hw' hfa
          obtain ⟨f0, f1, f2, -⟩ := hfa
          replace f0 : sv 0 = _ := f0
          try dsimp only at f0
          replace f1 : sv 1 = _ := f1
          try dsimp only at f1
          replace f2 : sv 2 = _ := f2
          try dsimp only at f2
          simp [Region.wanted, yielded, putsL, Act.put, f2]
        refine fac_skip 9 rfl rfl rfl (fun _ _ h _ => h) Ext.refl ?_ ?_
        · intro sv w' hw' hfa
          obtain ⟨f0, f1, f2, f3, f4, f5, f6, f7, f8, -⟩ := hfa
          replace f0 : sv 0 = _ := f0
          try dsimp only at f0
          replace f1 : sv 1 = _ := f1
          try dsimp only at f1
          replace f2 : sv 2 = _ := f2
          try dsimp only at f2
          replace f3 : sv 3 = _ := f3
          try dsimp only at f3
          replace f4 : sv 4 = _ := f4
          try dsimp only at f4
          replace f5 : sv 5 = _ := f5
          try dsimp only at f5
          replace f6 : sv 6 = _ := f6
          try dsimp only at f6
          replace f7 : sv 7 = _ := f7
          try dsimp only at f7
          replace f8 : sv 8 = _ := f8
          try dsimp only at f8
          simp [Region.wanted, yielded, putsL, Act.put, f2, f7, f8]
        refine fac_skip 10 rfl rfl rfl (fun _ _ h _ => h) Ext.refl ?_ ?_
        · intro sv w' hw' hfa
          obtain ⟨f0, f1, f2, f3, f4, f5, f6, f7, f8, f9, -⟩ := hfa
          replace f0 : sv 0 = _ := f0
          try dsimp only at f0
          replace f1 : sv 1 = _ := f1
          try dsimp only at f1
          replace f2 : sv 2 = _ := f2
          try dsimp only at f2
          replace f3 : sv 3 = _ := f3
          try dsimp only at f3
          replace f4 : sv 4 = _ := f4
          try dsimp only at f4
          replace f5 : sv 5 = _ := f5
          try dsimp only at f5
          replace f6 : sv 6 = _ := f6
          try dsimp only at f6
          replace f7 : sv 7 = _ := f7
          try dsimp only at f7
          replace f8 : sv 8 = _ := f8
          try dsimp only at f8
          replace f9 : sv 9 = _ := f9
          try dsimp only at f9
          simp [Region.wanted, yielded, putsL, Act.put, f2, f9]
        refine fac_quiet 11 rfl rfl rfl (fun _ _ h _ => h) rfl rfl ?_
        apply Exists.intro
        refine ⟨fun sv w' hw' hfa => ?_, ?_⟩
        · obtain ⟨_, _, f2, _, _, _, _, _, _, _, f10, -⟩ := hfa
          replace f2 : sv 2 = _ := f2
          try dsimp only at f2
          replace f10 : sv 10 = _ := f10
          try dsimp only at f10
          refine ⟨rfl, ?_⟩
          simp only [putsL]
          change quietTo _ _ _ _ (Sem.run _ (execOp (Act.eval (Act.put (Act.put (Act.put (Act.put (Act.put (Act.put (Act.put (Act.put (Act.put (Act.put (Act.put _ (some 77) (sv 10)) (some 76) (sv 9)) (some 75) (sv 8)) (some 74) (sv 7)) (some 73) (sv 6)) (some 72) (sv 5)) (some 71) (sv 4)) (some 70) (sv 3)) (some 69) (sv 2)) (some 68) (sv 1)) (some 67) (sv 0))) _) _)
          try simp only [Act.put, List.setIfInBounds_toArray, List.set_cons_succ, List.set_cons_zero]
          simp [go_sem, quietTo, Ext.refl, ↓IntWalk.iteOmega, f2, f10]
          all_goals try simp (disch := omega) only [IntWalk.i64_in]
          all_goals first
            | rfl
        refine fac_quiet 12 rfl rfl rfl (fun _ _ h _ => h) rfl rfl ?_
        apply Exists.intro
        refine ⟨fun sv w' hw' hfa => ?_, ?_⟩
        · obtain ⟨_, _, _, _, _, _, _, _, _, _, _, f11, -⟩ := hfa
          replace f11 : sv 11 = _ := f11
          try dsimp only at f11
          refine ⟨rfl, ?_⟩
          simp only [putsL]
          change quietTo _ _ _ _ (Sem.run _ (execOp (Act.eval (Act.put (Act.put (Act.put (Act.put (Act.put (Act.put (Act.put (Act.put (Act.put (Act.put (Act.put (Act.put _ (some 78) (sv 11)) (some 77) (sv 10)) (some 76) (sv 9)) (some 75) (sv 8)) (some 74) (sv 7)) (some 73) (sv 6)) (some 72) (sv 5)) (some 71) (sv 4)) (some 70) (sv 3)) (some 69) (sv 2)) (some 68) (sv 1)) (some 67) (sv 0))) _) _)
          try simp only [Act.put, List.setIfInBounds_toArray, List.set_cons_succ, List.set_cons_zero]
          simp [go_sem, quietTo, Ext.refl, f11]
          all_goals first
            | rfl
        refine fac_nil fun xa wra hera hfra hcra holda hapa => ?_
        obtain ⟨f0, f1, f2, f3, f4, f5, f6, f7, f8, f9, f10, f11, f12, -⟩ := hfra
        replace f0 : xa 0 = _ := f0
        try dsimp only at f0
        replace f1 : xa 1 = _ := f1
        try dsimp only at f1
        replace f2 : xa 2 = _ := f2
        try dsimp only at f2
        replace f3 : xa 3 = _ := f3
        try dsimp only at f3
        replace f4 : xa 4 = _ := f4
        try dsimp only at f4
        replace f5 : xa 5 = _ := f5
        try dsimp only at f5
        replace f6 : xa 6 = _ := f6
        try dsimp only at f6
        replace f7 : xa 7 = _ := f7
        try dsimp only at f7
        replace f8 : xa 8 = _ := f8
        try dsimp only at f8
        replace f9 : xa 9 = _ := f9
        try dsimp only at f9
        replace f10 : xa 10 = _ := f10
        try dsimp only at f10
        replace f11 : xa 11 = _ := f11
        try dsimp only at f11
        replace f12 : xa 12 = _ := f12
        try dsimp only at f12
        change wpList _ _ _ _ (Act.put (Act.put (Act.put (Act.put (Act.put (Act.put (Act.put (Act.put (Act.put (Act.put (Act.put (Act.put (Act.put _ (some 67) (xa 0)) (some 68) (xa 1)) (some 69) (xa 2)) (some 70) (xa 3)) (some 71) (xa 4)) (some 72) (xa 5)) (some 73) (xa 6)) (some 74) (xa 7)) (some 75) (xa 8)) (some 76) (xa 9)) (some 77) (xa 10)) (some 78) (xa 11)) (some 66) (xa 12)) _
        simp only [putsL, Nat.reduceAdd, List.drop_succ_cons, List.drop_zero, List.drop_nil, Act.put, List.setIfInBounds_toArray, List.set_cons_succ, List.set_cons_zero]
        try simp only [f0, f1, f2, f3, f4, f5, f6, f7, f8, f9, f10, f11, f12]
        clear f0 f1 f2 f3 f4 f5 f6 f7 f8 f9 f10 f11 f12
        clear holda hapa
        have hka := (Ext.refl wrq).drew.trans hera
        have hYa := hYq.ext hka
        have hoa := own_ext (hk3.trans hka) hown.out
        obtain ⟨ya, -⟩ := hYa.walk
        have lya := hYa.lt
        have hza := (hE.trans (hk3.trans hka)).size
        go_wp2_with (at_builtin; go_loud (refine wp_app1 _ (.tmp 79) (.tmp 82) 31 9 1 16 _ rfl rfl Tryz.underlying31 strInfo rfl (by decide) (by decide) W.heap.size _ _ _ rfl (hoa.alloc _) wra.heap.size (strC x.name) rfl rfl (Blk.new' rfl) (by simp [strC, Value.oneCell']) (by omega) (by simp; omega) ?_; intro v' w6 hown6 hgrow6 _))
        go_roundw
        case rel => exact ⟨1, rfl, by omega, hz.succ (by rw [hv.out, hh, hr1, hr2]; rfl), ((hE.trans (hk3.trans hka)).alloc _).grown hgrow6 fun j e => (hoa.lt j e).1, by rw [hnt.out, flat_snoc]; exact hown6⟩
        case measure => simp [intOf]; omega
      · obtain ⟨j, rfl⟩ : ∃ j, k = j + 1 := ⟨k - 1, by omega⟩
        obtain ⟨y, hy⟩ := getD_some (rfl : S.length = S.length) (show j < S.length by omega)
        obtain ⟨d0, d1, d2⟩ := hprev.out j y rfl hy
        have hat : atL default S (j + 1 - 1) = y := by rw [Nat.add_sub_cancel]; exact atL_of hy
        rw [hat] at hv
        have hwj : IntKind.i64.wrap (j : Int) = j := IntWalk.i64_in _ (by omega)
        have hjl : (j : Int) < S.length := by omega
        have hj0 : 0 < (j : Int) + 1 := by omega
        have hcm := fun u => byPlaceSt_any y x u
        rw [hr] at hcm
        generalize cmpV y x = cv at *
        replace hcm := Lib.hid hcm
        clear hat hy hprev
        by_cases hcv : 0 ≤ cv
        all_goals
          refine wp_region_facts [] [([], false, false), ([0], false, false), ([0, 1], false, false), ([0, 1, 2], false, false), ([0, 1, 2], false, false), ([0, 1, 2, 4], false, false), ([0, 1, 2, 3, 4, 5], false, false), ([0, 1, 2, 3, 4, 5, 6], false, false), ([0, 1, 2], false, false), ([0, 1, 2, 3, 4, 5, 6, 7, 8], false, false), ([0, 1, 2, 3, 4, 5, 6, 7, 8, 9], false, false), ([0, 1, 2, 3, 4, 5, 6, 7, 8, 9, 10], false, false), ([0, 1, 2, 3, 4, 5, 6, 7, 8, 9, 10, 11], false, false)] (Ext) Ext (fun _ => True) (by kernel_rfl) (by kernel_rfl) Ext.refl (fun _ _ _ => Ext.trans) (fun _ _ h => h) (fun _ _ h => h.size) (fun _ _ h _ => h) trivial ?_
          dsimp only [List.length_cons, List.length_nil, List.drop_succ_cons, List.drop_zero, List.drop_nil]
          refine fac_quiet 0 rfl rfl rfl (fun _ _ h _ => h) rfl rfl ?_
          apply Exists.intro
          refine ⟨fun sv w' hw' hfa => ?_, ?_⟩
          · refine ⟨rfl, ?_⟩
            simp only [putsL]
            change quietTo _ _ _ _ (Sem.run _ (execOp (Act.eval _) _) _)
            try simp only [Act.put, List.setIfInBounds_toArray, List.set_cons_succ, List.set_cons_zero]
            simp [go_sem, quietTo, Ext.refl]
            all_goals first
              | rfl
          refine fac_quiet 1 rfl rfl rfl (fun _ _ h _ => h) rfl rfl ?_
          apply Exists.intro
          refine ⟨fun sv w' hw' hfa => ?_, ?_⟩
          · obtain ⟨f0, -⟩ := hfa
            replace f0 : sv 0 = _ := f0
            try dsimp only at f0
            obtain ⟨hc, hf, hz9⟩ := (hk3.drew.trans hw').walk; obtain ⟨x0, -⟩ := ((hYq.drew).ext hw').walk; have y0 := (hc _ (off + j * 3) hbw).trans d0; have y1 := (hc _ (off + j * 3 + 1) hbw).trans d1; have y2 := (hc _ (off + j * 3 + 2) hbw).trans d2
            refine ⟨rfl, ?_⟩
            simp only [putsL]
            change quietTo _ _ _ _ (Sem.run _ (execOp (Act.eval (Act.put _ (some 67) (sv 0))) _) _)
            try simp only [Act.put, List.setIfInBounds_toArray, List.set_cons_succ, List.set_cons_zero]
            simp [go_sem, quietTo, Ext.refl, ↓IntWalk.iteOmega, f0, hj0]
            all_goals try simp (disch := omega) only [IntWalk.i64_in]
            all_goals first
              | rfl
          refine fac_quiet 2 rfl rfl rfl (fun _ _ h _ => h) rfl rfl ?_
          apply Exists.intro
          refine ⟨fun sv w' hw' hfa => ?_, ?_⟩
          · obtain ⟨_, f1, -⟩ := hfa
            replace f1 : sv 1 = _ := f1
            try dsimp only at f1
            refine ⟨rfl, ?_⟩
            simp only [putsL]
            change quietTo _ _ _ _ (Sem.run _ (execOp (Act.eval (Act.put (Act.put _ (some 68) (sv 1)) (some 67) (sv 0))) _) _)
            try simp only [Act.put, List.setIfInBounds_toArray, List.set_cons_succ, List.set_cons_zero]
            simp [go_sem, quietTo, Ext.refl, f1]
            all_goals first
              | rfl
          refine fac_quiet 3 rfl rfl rfl (fun _ _ h _ => h) rfl rfl ?_
          apply Exists.intro
          refine ⟨fun sv w' hw' hfa => ?_, ?_⟩
          · obtain ⟨_, _, f2, -⟩ := hfa
            replace f2 : sv 2 = _ := f2
            try dsimp only at f2
            refine ⟨by simp [Region.wanted, yielded, putsL, Act.put, f2], ?_⟩
            simp only [putsL]
            change quietTo _ _ _ _ (Sem.run _ (execOp (Act.eval (Act.put (Act.put (Act.put _ (some 69) (sv 2)) (some 68) (sv 1)) (some 67) (sv 0))) _) _)
            try simp only [Act.put, List.setIfInBounds_toArray, List.set_cons_succ, List.set_cons_zero]
            simp [go_sem, quietTo, Ext.refl, f2]
            all_goals first
              | rfl
          refine fac_quiet 4 rfl rfl rfl (fun _ _ h _ => h) rfl rfl ?_
          apply Exists.intro
          refine ⟨fun sv w' hw' hfa => ?_, ?_⟩
          · obtain ⟨_, _, f2, -⟩ := hfa
            replace f2 : sv 2 = _ := f2
            try dsimp only at f2
            refine ⟨by simp [Region.wanted, yielded, putsL, Act.put, f2], ?_⟩
            simp only [putsL]
            change quietTo _ _ _ _ (Sem.run _ (execOp (Act.eval (Act.put (Act.put (Act.put _ (some 69) (sv 2)) (some 68) (sv 1)) (some 67) (sv 0))) _) _)
            try simp only [Act.put, List.setIfInBounds_toArray, List.set_cons_succ, List.set_cons_zero]
            simp [go_sem, quietTo, Ext.refl, f2]
            all_goals first
              | rfl
          refine fac_quiet 5 rfl rfl rfl (fun _ _ h _ => h) rfl rfl ?_
          apply Exists.intro
          refine ⟨fun sv w' hw' hfa => ?_, ?_⟩
          · obtain ⟨_, _, f2, f4, -⟩ := hfa
            replace f2 : sv 2 = _ := f2
            try dsimp only at f2
            replace f4 : sv 4 = _ := f4
            try dsimp only at f4
            obtain ⟨hc, hf, hz9⟩ := (hk3.drew.trans hw').walk; obtain ⟨x0, -⟩ := ((hYq.drew).ext hw').walk; have y0 := (hc _ (off + j * 3) hbw).trans d0; have y1 := (hc _ (off + j * 3 + 1) hbw).trans d1; have y2 := (hc _ (off + j * 3 + 2) hbw).trans d2
            refine ⟨by simp [Region.wanted, yielded, putsL, Act.put, f2, f4], ?_⟩
            simp only [putsL]
            change quietTo _ _ _ _ (Sem.run _ (execOp (Act.eval (Act.put (Act.put (Act.put (Act.put _ (some 71) (sv 4)) (some 69) (sv 2)) (some 68) (sv 1)) (some 67) (sv 0))) _) _)
            try simp only [Act.put, List.setIfInBounds_toArray, List.set_cons_succ, List.set_cons_zero]
            simp [go_sem, quietTo, Ext.refl, ↓IntWalk.iteOmega, f2, f4, hwj]
            all_goals try simp (disch := omega) only [IntWalk.i64_in]
            all_goals first
              | rfl
          refine fac_quiet 6 rfl rfl rfl (fun _ _ h _ => h) rfl rfl ?_
          apply Exists.intro
          refine ⟨fun sv w' hw' hfa => ?_, ?_⟩
          · obtain ⟨_, _, f2, f3, _, f5, -⟩ := hfa
            replace f2 : sv 2 = _ := f2
            try dsimp only at f2
            replace f3 : sv 3 = _ := f3
            try dsimp only at f3
            replace f5 : sv 5 = _ := f5
            try dsimp only at f5
            obtain ⟨hc, hf, hz9⟩ := (hk3.drew.trans hw').walk; obtain ⟨x0, -⟩ := ((hYq.drew).ext hw').walk; have y0 := (hc _ (off + j * 3) hbw).trans d0; have y1 := (hc _ (off + j * 3 + 1) hbw).trans d1; have y2 := (hc _ (off + j * 3 + 2) hbw).trans d2
            refine ⟨by simp [Region.wanted, yielded, putsL, Act.put, f2, f3, f5], ?_⟩
            simp only [putsL]
            change quietTo _ _ _ _ (Sem.run _ (execOp (Act.eval (Act.put (Act.put (Act.put (Act.put (Act.put (Act.put _ (some 72) (sv 5)) (some 71) (sv 4)) (some 70) (sv 3)) (some 69) (sv 2)) (some 68) (sv 1)) (some 67) (sv 0))) _) _)
            try simp only [Act.put, List.setIfInBounds_toArray, List.set_cons_succ, List.set_cons_zero]
            simp [go_sem, quietTo, Ext.refl, ↓IntWalk.iteOmega, f2, f3, f5, hjl]
            all_goals try simp (disch := omega) only [IntWalk.i64_in]
            all_goals first
              | rfl
          refine fac_quiet 7 rfl rfl rfl (fun _ _ h _ => h) rfl rfl ?_
          apply Exists.intro
          refine ⟨fun sv w' hw' hfa => ?_, ?_⟩
          · obtain ⟨_, _, f2, _, _, _, f6, -⟩ := hfa
            replace f2 : sv 2 = _ := f2
            try dsimp only at f2
            replace f6 : sv 6 = _ := f6
            try dsimp only at f6
            obtain ⟨hc, hf, hz9⟩ := (hk3.drew.trans hw').walk; obtain ⟨x0, -⟩ := ((hYq.drew).ext hw').walk; have y0 := (hc _ (off + j * 3) hbw).trans d0; have y1 := (hc _ (off + j * 3 + 1) hbw).trans d1; have y2 := (hc _ (off + j * 3 + 2) hbw).trans d2
            refine ⟨by simp [Region.wanted, yielded, putsL, Act.put, f2, f6], ?_⟩
            simp only [putsL]
            change quietTo _ _ _ _ (Sem.run _ (execOp (Act.eval (Act.put (Act.put (Act.put (Act.put (Act.put (Act.put (Act.put _ (some 73) (sv 6)) (some 72) (sv 5)) (some 71) (sv 4)) (some 70) (sv 3)) (some 69) (sv 2)) (some 68) (sv 1)) (some 67) (sv 0))) _) _)
            try simp only [Act.put, List.setIfInBounds_toArray, List.set_cons_succ, List.set_cons_zero]
            simp [go_sem, quietTo, Ext.refl, ↓IntWalk.iteOmega, f2, f6, y0, y1, y2]
            all_goals try simp (disch := omega) only [IntWalk.i64_in]
            all_goals first
              | rfl
          refine fac_quiet 8 rfl rfl rfl (fun _ _ h _ => h) rfl rfl ?_
          apply Exists.intro
          refine ⟨fun sv w' hw' hfa => ?_, ?_⟩
          · obtain ⟨_, _, f2, -⟩ := hfa
            replace f2 : sv 2 = _ := f2
            try dsimp only at f2
            obtain ⟨hc, hf, hz9⟩ := (hk3.drew.trans hw').walk; obtain ⟨x0, -⟩ := ((hYq.drew).ext hw').walk; have y0 := (hc _ (off + j * 3) hbw).trans d0; have y1 := (hc _ (off + j * 3 + 1) hbw).trans d1; have y2 := (hc _ (off + j * 3 + 2) hbw).trans d2
            refine ⟨by simp [Region.wanted, yielded, putsL, Act.put, f2], ?_⟩
            simp only [putsL]
            change quietTo _ _ _ _ (Sem.run _ (execOp (Act.eval (Act.put (Act.put (Act.put _ (some 69) (sv 2)) (some 68) (sv 1)) (some 67) (sv 0))) _) _)
            try simp only [Act.put, List.setIfInBounds_toArray, List.set_cons_succ, List.set_cons_zero]
            simp [go_sem, quietTo, Ext.refl, ↓IntWalk.iteOmega, f2, x0]
            all_goals try simp (disch := omega) only [IntWalk.i64_in]
            all_goals first
              | rfl
          refine fac_quiet 9 rfl rfl rfl (fun _ _ h _ => h) rfl rfl ?_
          apply Exists.intro
          refine ⟨fun sv w' hw' hfa => ?_, ?_⟩
          · obtain ⟨f0, f1, f2, f3, f4, f5, f6, f7, f8, -⟩ := hfa
            replace f0 : sv 0 = _ := f0
            try dsimp only at f0
            replace f1 : sv 1 = _ := f1
            try dsimp only at f1
            replace f2 : sv 2 = _ := f2
            try dsimp only at f2
            replace f3 : sv 3 = _ := f3
            try dsimp only at f3
            replace f4 : sv 4 = _ := f4
            try dsimp only at f4
            replace f5 : sv 5 = _ := f5
            try dsimp only at f5
            replace f6 : sv 6 = _ := f6
            try dsimp only at f6
            replace f7 : sv 7 = _ := f7
            try dsimp only at f7
            replace f8 : sv 8 = _ := f8
            try dsimp only at f8
            obtain ⟨hc, hf, hz9⟩ := (hk3.drew.trans hw').walk; obtain ⟨x0, -⟩ := ((hYq.drew).ext hw').walk; have y0 := (hc _ (off + j * 3) hbw).trans d0; have y1 := (hc _ (off + j * 3 + 1) hbw).trans d1; have y2 := (hc _ (off + j * 3 + 2) hbw).trans d2
            refine ⟨by simp [Region.wanted, yielded, putsL, Act.put, f2, f7, f8], ?_⟩
            simp only [putsL]
            change quietTo _ _ _ _ (Sem.run _ (execOp (Act.eval (Act.put (Act.put (Act.put (Act.put (Act.put (Act.put (Act.put (Act.put (Act.put _ (some 75) (sv 8)) (some 74) (sv 7)) (some 73) (sv 6)) (some 72) (sv 5)) (some 71) (sv 4)) (some 70) (sv 3)) (some 69) (sv 2)) (some 68) (sv 1)) (some 67) (sv 0))) _) _)
            try simp only [Act.put, List.setIfInBounds_toArray, List.set_cons_succ, List.set_cons_zero]
            simp [go_sem, quietTo, Ext.refl, ↓IntWalk.iteOmega, f2, f7, f8]
            all_goals try simp (disch := omega) only [IntWalk.i64_in]
            all_goals first
              | rfl
              | (exact hcm.out _)
          refine fac_quiet 10 rfl rfl rfl (fun _ _ h _ => h) rfl rfl ?_
          apply Exists.intro
          refine ⟨fun sv w' hw' hfa => ?_, ?_⟩
          · obtain ⟨_, _, f2, _, _, _, _, _, _, f9, -⟩ := hfa
            replace f2 : sv 2 = _ := f2
            try dsimp only at f2
            replace f9 : sv 9 = _ := f9
            try dsimp only at f9
            obtain ⟨hc, hf, hz9⟩ := (hk3.drew.trans hw').walk; obtain ⟨x0, -⟩ := ((hYq.drew).ext hw').walk; have y0 := (hc _ (off + j * 3) hbw).trans d0; have y1 := (hc _ (off + j * 3 + 1) hbw).trans d1; have y2 := (hc _ (off + j * 3 + 2) hbw).trans d2
            refine ⟨by simp [Region.wanted, yielded, putsL, Act.put, f2, f9], ?_⟩
            simp only [putsL]
            change quietTo _ _ _ _ (Sem.run _ (execOp (Act.eval (Act.put (Act.put (Act.put (Act.put (Act.put (Act.put (Act.put (Act.put (Act.put (Act.put _ (some 76) (sv 9)) (some 75) (sv 8)) (some 74) (sv 7)) (some 73) (sv 6)) (some 72) (sv 5)) (some 71) (sv 4)) (some 70) (sv 3)) (some 69) (sv 2)) (some 68) (sv 1)) (some 67) (sv 0))) _) _)
            try simp only [Act.put, List.setIfInBounds_toArray, List.set_cons_succ, List.set_cons_zero]
            simp [go_sem, quietTo, Ext.refl, ↓IntWalk.iteOmega, f2, f9, hcv]
            all_goals try simp (disch := omega) only [IntWalk.i64_in]
            all_goals first
              | rfl
          refine fac_quiet 11 rfl rfl rfl (fun _ _ h _ => h) rfl rfl ?_
          apply Exists.intro
          refine ⟨fun sv w' hw' hfa => ?_, ?_⟩
          · obtain ⟨_, _, f2, _, _, _, _, _, _, _, f10, -⟩ := hfa
            replace f2 : sv 2 = _ := f2
            try dsimp only at f2
            replace f10 : sv 10 = _ := f10
            try dsimp only at f10
            refine ⟨rfl, ?_⟩
            simp only [putsL]
            change quietTo _ _ _ _ (Sem.run _ (execOp (Act.eval (Act.put (Act.put (Act.put (Act.put (Act.put (Act.put (Act.put (Act.put (Act.put (Act.put (Act.put _ (some 77) (sv 10)) (some 76) (sv 9)) (some 75) (sv 8)) (some 74) (sv 7)) (some 73) (sv 6)) (some 72) (sv 5)) (some 71) (sv 4)) (some 70) (sv 3)) (some 69) (sv 2)) (some 68) (sv 1)) (some 67) (sv 0))) _) _)
            try simp only [Act.put, List.setIfInBounds_toArray, List.set_cons_succ, List.set_cons_zero]
            simp [go_sem, quietTo, Ext.refl, ↓IntWalk.iteOmega, f2, f10]
            all_goals try simp (disch := omega) only [IntWalk.i64_in]
            all_goals first
              | rfl
          refine fac_quiet 12 rfl rfl rfl (fun _ _ h _ => h) rfl rfl ?_
          apply Exists.intro
          refine ⟨fun sv w' hw' hfa => ?_, ?_⟩
          · obtain ⟨_, _, _, _, _, _, _, _, _, _, _, f11, -⟩ := hfa
            replace f11 : sv 11 = _ := f11
            try dsimp only at f11
            refine ⟨rfl, ?_⟩
            simp only [putsL]
            change quietTo _ _ _ _ (Sem.run _ (execOp (Act.eval (Act.put (Act.put (Act.put (Act.put (Act.put (Act.put (Act.put (Act.put (Act.put (Act.put (Act.put (Act.put _ (some 78) (sv 11)) (some 77) (sv 10)) (some 76) (sv 9)) (some 75) (sv 8)) (some 74) (sv 7)) (some 73) (sv 6)) (some 72) (sv 5)) (some 71) (sv 4)) (some 70) (sv 3)) (some 69) (sv 2)) (some 68) (sv 1)) (some 67) (sv 0))) _) _)
            try simp only [Act.put, List.setIfInBounds_toArray, List.set_cons_succ, List.set_cons_zero]
            simp [go_sem, quietTo, Ext.refl, f11]
            all_goals first
              | rfl
          refine fac_nil fun xb wrb herb hfrb hcrb holdb hapb => ?_
          obtain ⟨f0, f1, f2, f3, f4, f5, f6, f7, f8, f9, f10, f11, f12, -⟩ := hfrb
          replace f0 : xb 0 = _ := f0
          try dsimp only at f0
          replace f1 : xb 1 = _ := f1
          try dsimp only at f1
          replace f2 : xb 2 = _ := f2
          try dsimp only at f2
          replace f3 : xb 3 = _ := f3
          try dsimp only at f3
          replace f4 : xb 4 = _ := f4
          try dsimp only at f4
          replace f5 : xb 5 = _ := f5
          try dsimp only at f5
          replace f6 : xb 6 = _ := f6
          try dsimp only at f6
          replace f7 : xb 7 = _ := f7
          try dsimp only at f7
          replace f8 : xb 8 = _ := f8
          try dsimp only at f8
          replace f9 : xb 9 = _ := f9
          try dsimp only at f9
          replace f10 : xb 10 = _ := f10
          try dsimp only at f10
          replace f11 : xb 11 = _ := f11
          try dsimp only at f11
          replace f12 : xb 12 = _ := f12
          try dsimp only at f12
          change wpList _ _ _ _ (Act.put (Act.put (Act.put (Act.put (Act.put (Act.put (Act.put (Act.put (Act.put (Act.put (Act.put (Act.put (Act.put _ (some 67) (xb 0)) (some 68) (xb 1)) (some 69) (xb 2)) (some 70) (xb 3)) (some 71) (xb 4)) (some 72) (xb 5)) (some 73) (xb 6)) (some 74) (xb 7)) (some 75) (xb 8)) (some 76) (xb 9)) (some 77) (xb 10)) (some 78) (xb 11)) (some 66) (xb 12)) _
          simp only [putsL, Nat.reduceAdd, List.drop_succ_cons, List.drop_zero, List.drop_nil, Act.put, List.setIfInBounds_toArray, List.set_cons_succ, List.set_cons_zero]
          try simp only [f0, f1, f2, f3, f4, f5, f6, f7, f8, f9, f10, f11, f12]
          clear f0 f1 f2 f3 f4 f5 f6 f7 f8 f9 f10 f11 f12
          clear holdb hapb
          have hkb := (Ext.refl wrq).drew.trans herb
          have hYb := hYq.ext hkb
          have hob := own_ext (hk3.trans hkb) hown.out
          obtain ⟨ya, -⟩ := hYb.walk
          have lya := hYb.lt
          have hza := (hE.trans (hk3.trans hkb)).size
          clear d0 d1 d2
        · go_wp2
          go_ret
          exact ⟨ret_int (by rw [hF.out, ← scan_is (v := 7) hz hlt (by rw [hv.out, hh, hr1, hr2]; simp [hcv]) (by decide)]; rfl), hE3.trans hkb⟩
        · go_wp2_with (at_builtin; go_loud (refine wp_app1 _ (.tmp 79) (.tmp 82) 31 9 1 16 _ rfl rfl Tryz.underlying31 strInfo rfl (by decide) (by decide) W.heap.size _ _ _ rfl (hob.alloc _) wrb.heap.size (strC x.name) rfl rfl (Blk.new' rfl) (by simp [strC, Value.oneCell']) (by omega) (by simp; omega) ?_; intro v' w6 hown6 hgrow6 _))
          go_roundw
          case rel => exact ⟨j + 1 + 1, by go_num, by omega, hz.succ (by rw [hv.out, hh, hr1, hr2]; simp [hcv]), ((hE.trans (hk3.trans hkb)).alloc _).grown hgrow6 fun j e => (hob.lt j e).1, by rw [hnt.out, flat_snoc]; exact hown6⟩
          case measure => simp [intOf]; omega
    · obtain rfl : k = S.length := by omega
      have hsz := scan_zero hz
      rw [hsz] at hF
      rw [List.take_length] at hown
      obtain ⟨qp, qc, rfl, hSl⟩ := slc_of_own (enc := strC) (fun _ => rfl) hown (by decide) (by omega)
      have htw := rtwice_any qp S.length qc (namesS S) wr hSl.1 hnS
      replace hsz := Lib.hid hsz
      rw [if_pos rfl] at hF
      clear hown hSl
      cases hd : dupB (namesS S)
      all_goals
        rw [hd] at hF htw
        replace htw := Lib.hid htw
        go_wp2_with (go_at_call 56; (with_reducible refine Calls.mono htw.out ?_); rintro e w2 ⟨rfl, hb2⟩)
        go_ret
        exact ⟨ret_int (by rw [hF.out]; rfl), (hE0.trans hE).trans hb2⟩
end Go.Proofs.YtfcoeikekbjgpaaGreatDoor
