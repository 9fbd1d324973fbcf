/- What is wrong with stands: the program's walk. Conditions: sizes. -/
import Derived.Test.YtdehmioobkneiaaGreatDoorTdJ34
set_option linter.unusedSimpArgs false
set_option linter.unusedVariables false
namespace Go.Proofs.YtdehmioobkneiaaGreatDoor
open Go Go.RowKit
def StandV.Small (x : StandV) : Prop := x.name.size ≤ 1000 ∧ -1099511627776 ≤ x.row ∧ x.row ≤ 1099511627776 ∧ -1099511627776 ≤ x.place ∧ x.place ≤ 1099511627776
/-- People, a stage and stands in memory. -/
structure PsM (w : World) (pp : Option Addr) (pc : Nat) (P : List PersonV) (wp : Option Addr) (wc : Nat) (wide : List Int) (hp : Option Addr) (hc : Nat) (high : List Int) (lp : Option Addr) (lc : Nat) (S : List StandV) : Prop where
  per : Slc 3 perC w pp P.length pc P
  wid : Slc 1 intC w wp wide.length wc wide
  hig : Slc 1 intC w hp high.length hc high
  sta : Slc 3 staC w lp S.length lc S
  sP : ∀ x ∈ P, x.Small
  sw : SmallL wide
  sh : SmallL high
  sS : ∀ x ∈ S, x.Small
  nP : P.length ≤ 1000
  nS : S.length ≤ 1000
theorem PsM.more {w w' : World} {pp : Option Addr} {pc : Nat} {P : List PersonV} {wp : Option Addr} {wc : Nat} {wide : List Int} {hp : Option Addr} {hc : Nat} {high : List Int} {lp : Option Addr} {lc : Nat} {S : List StandV} (h : PsM w pp pc P wp wc wide hp hc high lp lc S) (he : Ext w w') : PsM w' pp pc P wp wc wide hp hc high lp lc S :=
  ⟨h.per.ext he, h.wid.ext he, h.hig.ext he, h.sta.ext he, h.sP, h.sw, h.sh, h.sS, h.nP, h.nS⟩
set_option maxRecDepth 100000 in
set_option maxHeartbeats 1600000 in
theorem stageFault_any (pp : Option Addr) (pc : Nat) (P : List PersonV) (wp : Option Addr) (wc : Nat) (wide : List Int) (hp : Option Addr) (hc : Nat) (high : List Int) (lp : Option Addr) (lc : Nat) (S : List StandV) (w : World) (h : PsM w pp pc P wp wc wide hp hc high lp lc S) :
    Calls Tryz.prog 40 #[.slice pp P.length pc, .agg #[.slice wp wide.length wc, .slice hp high.length hc]] w fun e w' => e = .returned (.int .i64 (ostF P wide high)) ∧ Ext w w' := by
  have h1 := fun u (hu : Ext w u) => checkPeople_any pp P.length pc P u (h.per.ext hu).1 h.sP h.nP
  have h2 := fun u (hu : Ext w u) => checkStage_any wp wc hp hc wide high u (h.wid.ext hu) (h.hig.ext hu) h.sw h.sh
  have hX : Blk (w.alloc (.cells #[.slice wp wide.length wc, .slice hp high.length hc] 48)) w.heap.size 48 #[.slice wp wide.length wc, .slice hp high.length hc] := Blk.new' rfl
  have hE0 : Ext w (w.alloc (.cells #[.slice wp wide.length wc, .slice hp high.length hc] 48)) := (Ext.refl _).alloc _
  have hF : ostF P wide high = if peopleF P = 0 then stageF wide high else peopleF P := rfl
  rw [hF]
  clear hF h
  generalize peopleF P = a at *
  generalize stageF wide high = b at *
  replace h1 := Lib.hid h1; replace h2 := Lib.hid h2
  by_cases h0 : a = 0
  · subst h0
    rw [if_pos rfl]
    go_enter Tryz.func40, Tryz.ntmps40
    go_wp2_with (first
      | (go_at_call 87; (with_reducible refine Calls.mono (h1.out _ hE0) ?_); rintro e w1 ⟨rfl, hb1⟩; obtain ⟨y1, -⟩ := (hX.ext hb1).walk; have ly := (hX.ext hb1).lt)
      | (go_at_call 88; (with_reducible refine Calls.mono (h2.out _ (hE0.trans hb1)) ?_); rintro e w2 ⟨rfl, hb2⟩))
    go_ret
    exact ⟨rfl, (hE0.trans hb1).trans hb2⟩
  · rw [if_neg h0]
    go_enter Tryz.func40, Tryz.ntmps40
    go_wp2_with (go_at_call 87; (with_reducible refine Calls.mono (h1.out _ hE0) ?_); rintro e w1 ⟨rfl, hb1⟩)
    go_ret
    exact ⟨rfl, hE0.trans hb1⟩
set_option maxRecDepth 100000 in
set_option maxHeartbeats 6400000 in
theorem checkStands_any (pp : Option Addr) (pc : Nat) (P : List PersonV) (wp : Option Addr) (wc : Nat) (wide : List Int) (hp : Option Addr) (hc : Nat) (high : List Int) (lp : Option Addr) (lc : Nat) (S : List StandV) (w : World) (h : PsM w pp pc P wp wc wide hp hc high lp lc S) :
    Calls Tryz.prog 12 #[.slice pp P.length pc, .agg #[.slice wp wide.length wc, .slice hp high.length hc], .slice lp S.length lc] w fun e w' => e = .returned (.int .i64 (standsF P wide high S)) ∧ Ext w w' := by
  have hX : Blk (w.alloc (.cells #[.slice wp wide.length wc, .slice hp high.length hc] 48)) w.heap.size 48 #[.slice wp wide.length wc, .slice hp high.length hc] := Blk.new' rfl
  have hE0 : Ext w (w.alloc (.cells #[.slice wp wide.length wc, .slice hp high.length hc] 48)) := (Ext.refl _).alloc _
  have hsf := stageFault_any pp pc P wp wc wide hp hc high lp lc S _ (h.more hE0)
  have hnP := h.nP
  have hnS := h.nS
  by_cases h0 : ostF P wide high = 0
  rotate_left
  · have hF : standsF P wide high S = ostF P wide high := by unfold standsF; rw [if_neg h0]
    rw [hF]
    clear hF h hX
    generalize ostF P wide high = a at *
    replace hsf := Lib.hid hsf
    go_enter Tryz.func12, Tryz.ntmps12
    go_wp2_with (go_at_call 40; (with_reducible refine Calls.mono hsf.out ?_); rintro e w1 ⟨rfl, hb1⟩)
    go_ret
    exact ⟨rfl, hE0.trans hb1⟩
  have hF : standsF P wide high S = listF P wide S := by unfold standsF; rw [if_pos h0]
  obtain ⟨hpf, hst⟩ := ostF_ok h0
  have hpo := peopleF_ok hpf
  obtain ⟨hwo, -, -, hw1, -⟩ := stageF_ok hst
  rw [hF]
  rw [h0] at hsf
  clear hF h0 hpf hst; replace hsf := Lib.hid hsf
  by_cases h1 : P.length < S.length
  · have hF : listF P wide S = 2 := by unfold listF; rw [if_pos h1]
    have h1I : (P.length : Int) < S.length := by omega
    rw [hF]
    clear hF h hX hpo
    go_enter Tryz.func12, Tryz.ntmps12
    go_wp2_with (go_at_call 40; (with_reducible refine Calls.mono hsf.out ?_); rintro e w1 ⟨rfl, hb1⟩)
    go_ret
    exact ⟨rfl, hE0.trans hb1⟩
  have hF : listF P wide S = if scanF S.length (chkSta P wide S) = 0 then (if dupB (namesS S) then 6 else 0) else scanF S.length (chkSta P wide S) := by unfold listF; rw [if_neg h1]
  have h1I : ¬ (P.length : Int) < S.length := by omega
  have hw10 := hwo.1
  replace hF := Lib.hid hF; replace hpo := Lib.hid hpo; replace hwo := Lib.hid hwo; replace h := Lib.hid h
  go_enter Tryz.func12, Tryz.ntmps12
  go_wp2_with (go_at_call 40; (with_reducible refine Calls.mono hsf.out ?_); rintro e w1 ⟨rfl, hb1⟩)
  have hE1 := hE0.trans hb1
  have hX1 := hX.ext hb1
  clear hX hE0 hb1 hsf
  go_loopw [25] (fun v25 wr => ∃ k : Nat, v25 = .int .i64 k ∧ k ≤ S.length ∧ Zeros (chkSta P wide S) k ∧ Ext w1 wr) (fun v25 _ => S.length - (intOf v25).toNat)
  case atStart => exact ⟨0, rfl, Nat.zero_le _, (fun j hj => by omega), Ext.refl _⟩
  case round =>
    obtain ⟨k, rfl, hk, hz, hE⟩ := hrel
    by_cases hlt : k < S.length
    · obtain ⟨x, hx⟩ := getD_some (rfl : S.length = S.length) hlt
      have hkI : (k : Int) < S.length := by omega
      obtain ⟨s1, s2, s3, s4, s5⟩ := h.out.sS x (List.mem_of_getElem? hx)
      rcases (slcC h.out.sta).2 with ⟨-, e⟩ | ⟨b, off, rfl, hb, hEl⟩
      · rw [e] at hx; cases hx
      have hEw := hE1.trans hE
      obtain ⟨c0, c1, c2⟩ := (hEl.ext hEw hb).sta hx
      have hbw := Nat.lt_of_lt_of_le hb hEw.size
      have hv : chkSta P wide S k = if hasP P x.name then (if inB x.row 0 (wide.length - 1) && inB x.place 0 (wide.getD x.row.toNat 0 - 1) then (if 0 < k && decide (0 ≤ cmpV (atL default S (k - 1)) x) then 7 else 0) else 1) else 8 := by
        unfold chkSta; rw [atL_of hx]
      have hprev : ∀ j y, k = j + 1 → S[j]? = some y → wr.cell? ⟨b, off + j * 3, none⟩ = some (.string y.name) ∧ wr.cell? ⟨b, off + j * 3 + 1, none⟩ = some (.int .i64 y.row) ∧ wr.cell? ⟨b, off + j * 3 + 2, none⟩ = some (.int .i64 y.place) := fun j y _ hy => (hEl.ext hEw hb).sta hy
      have hpat := fun u (hu : Ext w u) => personAt_any pp P.length pc P x.name u (h.out.per.ext hu) hpo.out
      have hY := Blk.new' (w := wr) (t := 54) (cs := #[.string x.name, .int .i64 x.row, .int .i64 x.place]) rfl
      have hX2 := hX1.ext hE
      have hEy : Ext wr (wr.alloc (.cells #[.string x.name, .int .i64 x.row, .int .i64 x.place] 54)) := (Ext.refl _).alloc _
      replace hx := Lib.hid hx; replace hv := Lib.hid hv; replace hprev := Lib.hid hprev; replace hpat := Lib.hid hpat; clear hEl
      cases hh : hasP P x.name
      · go_wp2_with (go_at_call 41; (with_reducible refine Calls.mono (hpat.out _ (hEw.alloc _)) ?_); rintro e w2 ⟨kp, is, rfl, hb2, hp1, hp2⟩; obtain rfl : is = false := (by (cases is; rfl; exact absurd (hasP_iff.2 (let ⟨q, hq, hn⟩ := hp1 rfl; ⟨q, List.mem_of_getElem? hq, hn⟩)) (by rw [hh]; decide))); clear hp1 hp2)
        go_ret
        exact ⟨ret_int (by rw [hF.out, ← scan_is (v := 8) hz hlt (by rw [hv.out, hh]; rfl) (by decide)]; rfl), (hEw.alloc _).trans hb2⟩
      go_upto_region 12 with (go_at_call 41; (with_reducible refine Calls.mono (hpat.out _ (hEw.alloc _)) ?_); rintro e w2 ⟨kp, is, rfl, hb2, hp1, hp2⟩; obtain rfl : is = true := (by (cases is; exact absurd (hasP_iff.1 hh) (fun ⟨q, hq, hn⟩ => hp2 rfl q hq hn); rfl)); clear hp1 hp2)
      have hY2 := hY.ext hb2
      have hX3 := hX2.ext (hEy.trans hb2)
      have hE2 := (hEw.alloc _).trans hb2
      have hk2 := hEy.trans hb2
      clear hY hX2 hEy c0 c1 c2
      have ho1 := fun u => outside_is (n := x.row) (lo := 0) (hi := (wide.length : Int) - 1) rfl u
      cases hr1 : inB x.row 0 (wide.length - 1)
      · have hr1' : outB x.row 0 (wide.length - 1) = true := by rw [outB_inB, hr1]; rfl
        rw [hr1'] at ho1
        replace ho1 := Lib.hid ho1
        refine wp_region_facts [] [([], false, false), ([0], false, false), ([], false, false), ([2], false, false), ([2, 3], false, false), ([2, 3, 4], false, false), ([0, 1, 2, 3, 4, 5], false, false), ([0, 1, 2, 3, 4, 5, 6], false, false), ([0, 1, 2, 3, 4, 5, 6, 7], false, false), ([0, 1, 2, 3, 4, 5, 6, 7, 8], false, false), ([0, 1, 2, 3, 4, 5, 6, 7], false, false), ([0, 1, 2, 3, 4, 5, 6, 7, 10], false, false), ([0, 1, 2, 3, 4, 5, 6, 7], false, false), ([0, 1, 2, 3, 4, 5, 6, 7, 12], false, false), ([0, 1, 2, 3, 4, 5, 6, 7, 10, 11, 12, 13], false, false), ([0, 1, 2, 3, 4, 5, 6, 7, 10, 11, 12, 13, 14], false, false), ([0, 1, 2, 3, 4, 5, 6, 7, 10, 11, 12, 13, 14, 15], false, false), ([0, 1, 2, 3, 4, 5, 6, 7, 8, 9, 10, 11, 12, 13, 14, 15, 16], false, false), ([0, 1, 2, 3, 4, 5, 6, 7, 8, 9, 10, 11, 12, 13, 14, 15, 16, 17], false, false)] (Ext) Ext (fun _ => True) (by kernel_rfl) (by kernel_rfl) Ext.refl (fun _ _ _ => Ext.trans) (fun _ _ h => h) (fun _ _ h => h.size) (fun _ _ h _ => h) trivial ?_
        dsimp only [List.length_cons, List.length_nil, List.drop_succ_cons, List.drop_zero, List.drop_nil]
        refine fac_quiet 0 rfl rfl rfl (fun _ _ h _ => h) rfl rfl ?_
        apply Exists.intro
        refine ⟨fun sv w' hw' hfa => ?_, ?_⟩
        · refine ⟨rfl, ?_⟩
          simp only [putsL]
          change quietTo _ _ _ _ (Sem.run _ (execOp (Act.eval _) _) _)
          try simp only [Act.put, sIA, sCS, sCZ]
          simp [go_sem, quietTo, Ext.refl]
          all_goals first
            | rfl
        refine fac_quiet 1 rfl rfl rfl (fun _ _ h _ => h) rfl rfl ?_
        apply Exists.intro
        refine ⟨fun sv w' hw' hfa => ?_, ?_⟩
        · obtain ⟨f0, -⟩ := hfa
          replace f0 : sv 0 = _ := f0; (try dsimp only at f0)
          have hk9 := (Ext.refl w2).drew.trans hw'; obtain ⟨y1, -⟩ := (hX3.ext hk9).walk; obtain ⟨y2, -⟩ := (hY2.ext hk9).walk
          refine ⟨rfl, ?_⟩
          simp only [putsL]
          change quietTo _ _ _ _ (Sem.run _ (execOp (Act.eval (Act.put _ (some 39) (sv 0))) _) _)
          try simp only [Act.put, sIA, sCS, sCZ]
          simp [go_sem, quietTo, Ext.refl, ↓IntWalk.iteOmega, f0, y2]
          all_goals try simp (disch := omega) only [IntWalk.i64_in]
          all_goals first
            | rfl
        refine fac_quiet 2 rfl rfl rfl (fun _ _ h _ => h) rfl rfl ?_
        apply Exists.intro
        refine ⟨fun sv w' hw' hfa => ?_, ?_⟩
        · refine ⟨rfl, ?_⟩
          simp only [putsL]
          change quietTo _ _ _ _ (Sem.run _ (execOp (Act.eval _) _) _)
          try simp only [Act.put, sIA, sCS, sCZ]
          simp [go_sem, quietTo, Ext.refl]
          all_goals first
            | rfl
        refine fac_quiet 3 rfl rfl rfl (fun _ _ h _ => h) rfl rfl ?_
        apply Exists.intro
        refine ⟨fun sv w' hw' hfa => ?_, ?_⟩
        · obtain ⟨f2, -⟩ := hfa
          replace f2 : sv 2 = _ := f2; (try dsimp only at f2)
          have hk9 := (Ext.refl w2).drew.trans hw'; obtain ⟨y1, -⟩ := (hX3.ext hk9).walk; obtain ⟨y2, -⟩ := (hY2.ext hk9).walk
          refine ⟨rfl, ?_⟩
          simp only [putsL]
          change quietTo _ _ _ _ (Sem.run _ (execOp (Act.eval (Act.put _ (some 41) (sv 2))) _) _)
          try simp only [Act.put, sIA, sCS, sCZ]
          simp [go_sem, quietTo, Ext.refl, ↓IntWalk.iteOmega, f2, y1]
          all_goals try simp (disch := omega) only [IntWalk.i64_in]
          all_goals first
            | rfl
        refine fac_quiet 4 rfl rfl rfl (fun _ _ h _ => h) rfl rfl ?_
        apply Exists.intro
        refine ⟨fun sv w' hw' hfa => ?_, ?_⟩
        · obtain ⟨_, f3, -⟩ := hfa
          replace f3 : sv 3 = _ := f3; (try dsimp only at f3)
          refine ⟨rfl, ?_⟩
          simp only [putsL]
          change quietTo _ _ _ _ (Sem.run _ (execOp (Act.eval (Act.put (Act.put _ (some 42) (sv 3)) (some 41) (sv 2))) _) _)
          try simp only [Act.put, sIA, sCS, sCZ]
          simp [go_sem, quietTo, Ext.refl, ↓IntWalk.iteOmega, f3]
          all_goals try simp (disch := omega) only [IntWalk.i64_in]
          all_goals first
            | rfl
        refine fac_quiet 5 rfl rfl rfl (fun _ _ h _ => h) rfl rfl ?_
        apply Exists.intro
        refine ⟨fun sv w' hw' hfa => ?_, ?_⟩
        · obtain ⟨_, _, f4, -⟩ := hfa
          replace f4 : sv 4 = _ := f4; (try dsimp only at f4)
          refine ⟨rfl, ?_⟩
          simp only [putsL]
          change quietTo _ _ _ _ (Sem.run _ (execOp (Act.eval (Act.put (Act.put (Act.put _ (some 43) (sv 4)) (some 42) (sv 3)) (some 41) (sv 2))) _) _)
          try simp only [Act.put, sIA, sCS, sCZ]
          simp [go_sem, quietTo, Ext.refl, ↓IntWalk.iteOmega, f4]
          all_goals try simp (disch := omega) only [IntWalk.i64_in]
          all_goals first
            | rfl
        refine fac_quiet 6 rfl rfl rfl (fun _ _ h _ => h) rfl rfl ?_
        apply Exists.intro
        refine ⟨fun sv w' hw' hfa => ?_, ?_⟩
        · obtain ⟨f0, f1, f2, f3, f4, f5, -⟩ := hfa
          replace f0 : sv 0 = _ := f0; (try dsimp only at f0); replace f1 : sv 1 = _ := f1; (try dsimp only at f1); replace f2 : sv 2 = _ := f2; (try dsimp only at f2); replace f3 : sv 3 = _ := f3; (try dsimp only at f3); replace f4 : sv 4 = _ := f4; (try dsimp only at f4); replace f5 : sv 5 = _ := f5; (try dsimp only at f5)
          have hk9 := (Ext.refl w2).drew.trans hw'; obtain ⟨y1, -⟩ := (hX3.ext hk9).walk; obtain ⟨y2, -⟩ := (hY2.ext hk9).walk
          refine ⟨rfl, ?_⟩
          simp only [putsL]
          change quietTo _ _ _ _ (Sem.run _ (execOp (Act.eval (Act.put (Act.put (Act.put (Act.put (Act.put (Act.put _ (some 44) (sv 5)) (some 43) (sv 4)) (some 42) (sv 3)) (some 41) (sv 2)) (some 40) (sv 1)) (some 39) (sv 0))) _) _)
          try simp only [Act.put, sIA, sCS, sCZ]
          simp [go_sem, quietTo, Ext.refl, ↓IntWalk.iteOmega, f1, f5]
          all_goals try simp (disch := omega) only [IntWalk.i64_in]
          all_goals first
            | rfl
            | (exact ho1.out _)
        refine fac_quiet 7 rfl rfl rfl (fun _ _ h _ => h) rfl rfl ?_
        apply Exists.intro
        refine ⟨fun sv w' hw' hfa => ?_, ?_⟩
        · obtain ⟨_, _, _, _, _, _, f6, -⟩ := hfa
          replace f6 : sv 6 = _ := f6; (try dsimp only at f6)
          refine ⟨rfl, ?_⟩
          simp only [putsL]
          change quietTo _ _ _ _ (Sem.run _ (execOp (Act.eval (Act.put (Act.put (Act.put (Act.put (Act.put (Act.put (Act.put _ (some 45) (sv 6)) (some 44) (sv 5)) (some 43) (sv 4)) (some 42) (sv 3)) (some 41) (sv 2)) (some 40) (sv 1)) (some 39) (sv 0))) _) _)
          try simp only [Act.put, sIA, sCS, sCZ]
          simp [go_sem, quietTo, Ext.refl, f6]
          all_goals first
            | rfl
        refine fac_skip 8 rfl rfl rfl (fun _ _ h _ => h) Ext.refl ?_ ?_
        · intro sv w' hw' hfa
          obtain ⟨f0, f1, f2, f3, f4, f5, f6, f7, -⟩ := hfa
          replace f0 : sv 0 = _ := f0; (try dsimp only at f0); replace f1 : sv 1 = _ := f1; (try dsimp only at f1); replace f2 : sv 2 = _ := f2; (try dsimp only at f2); replace f3 : sv 3 = _ := f3; (try dsimp only at f3); replace f4 : sv 4 = _ := f4; (try dsimp only at f4); replace f5 : sv 5 = _ := f5; (try dsimp only at f5); replace f6 : sv 6 = _ := f6; (try dsimp only at f6)
          replace f7 : sv 7 = _ := f7; (try dsimp only at f7)
          simp [Region.wanted, yielded, putsL, Act.put, f7]
        refine fac_skip 9 rfl rfl rfl (fun _ _ h _ => h) Ext.refl ?_ ?_
        · intro sv w' hw' hfa
          obtain ⟨f0, f1, f2, f3, f4, f5, f6, f7, f8, -⟩ := hfa
          replace f0 : sv 0 = _ := f0; (try dsimp only at f0); replace f1 : sv 1 = _ := f1; (try dsimp only at f1); replace f2 : sv 2 = _ := f2; (try dsimp only at f2); replace f3 : sv 3 = _ := f3; (try dsimp only at f3); replace f4 : sv 4 = _ := f4; (try dsimp only at f4); replace f5 : sv 5 = _ := f5; (try dsimp only at f5); replace f6 : sv 6 = _ := f6; (try dsimp only at f6)
          replace f7 : sv 7 = _ := f7; (try dsimp only at f7); replace f8 : sv 8 = _ := f8; (try dsimp only at f8)
          simp [Region.wanted, yielded, putsL, Act.put, f7, f8]
        refine fac_skip 10 rfl rfl rfl (fun _ _ h _ => h) Ext.refl ?_ ?_
        · intro sv w' hw' hfa
          obtain ⟨f0, f1, f2, f3, f4, f5, f6, f7, -⟩ := hfa
          replace f0 : sv 0 = _ := f0; (try dsimp only at f0); replace f1 : sv 1 = _ := f1; (try dsimp only at f1); replace f2 : sv 2 = _ := f2; (try dsimp only at f2); replace f3 : sv 3 = _ := f3; (try dsimp only at f3); replace f4 : sv 4 = _ := f4; (try dsimp only at f4); replace f5 : sv 5 = _ := f5; (try dsimp only at f5); replace f6 : sv 6 = _ := f6; (try dsimp only at f6)
          replace f7 : sv 7 = _ := f7; (try dsimp only at f7)
          simp [Region.wanted, yielded, putsL, Act.put, f7]
        refine fac_skip 11 rfl rfl rfl (fun _ _ h _ => h) Ext.refl ?_ ?_
        · intro sv w' hw' hfa
          obtain ⟨f0, f1, f2, f3, f4, f5, f6, f7, f10, -⟩ := hfa
          replace f0 : sv 0 = _ := f0; (try dsimp only at f0); replace f1 : sv 1 = _ := f1; (try dsimp only at f1); replace f2 : sv 2 = _ := f2; (try dsimp only at f2); replace f3 : sv 3 = _ := f3; (try dsimp only at f3); replace f4 : sv 4 = _ := f4; (try dsimp only at f4); replace f5 : sv 5 = _ := f5; (try dsimp only at f5); replace f6 : sv 6 = _ := f6; (try dsimp only at f6)
          replace f7 : sv 7 = _ := f7; (try dsimp only at f7); replace f10 : sv 10 = _ := f10; (try dsimp only at f10)
          simp [Region.wanted, yielded, putsL, Act.put, f7, f10]
        refine fac_skip 12 rfl rfl rfl (fun _ _ h _ => h) Ext.refl ?_ ?_
        · intro sv w' hw' hfa
          obtain ⟨f0, f1, f2, f3, f4, f5, f6, f7, -⟩ := hfa
          replace f0 : sv 0 = _ := f0; (try dsimp only at f0); replace f1 : sv 1 = _ := f1; (try dsimp only at f1); replace f2 : sv 2 = _ := f2; (try dsimp only at f2); replace f3 : sv 3 = _ := f3; (try dsimp only at f3); replace f4 : sv 4 = _ := f4; (try dsimp only at f4); replace f5 : sv 5 = _ := f5; (try dsimp only at f5); replace f6 : sv 6 = _ := f6; (try dsimp only at f6)
          replace f7 : sv 7 = _ := f7; (try dsimp only at f7)
          simp [Region.wanted, yielded, putsL, Act.put, f7]
        refine fac_skip 13 rfl rfl rfl (fun _ _ h _ => h) Ext.refl ?_ ?_
        · intro sv w' hw' hfa
          obtain ⟨f0, f1, f2, f3, f4, f5, f6, f7, f12, -⟩ := hfa
          replace f0 : sv 0 = _ := f0; (try dsimp only at f0); replace f1 : sv 1 = _ := f1; (try dsimp only at f1); replace f2 : sv 2 = _ := f2; (try dsimp only at f2); replace f3 : sv 3 = _ := f3; (try dsimp only at f3); replace f4 : sv 4 = _ := f4; (try dsimp only at f4); replace f5 : sv 5 = _ := f5; (try dsimp only at f5); replace f6 : sv 6 = _ := f6; (try dsimp only at f6)
          replace f7 : sv 7 = _ := f7; (try dsimp only at f7); replace f12 : sv 12 = _ := f12; (try dsimp only at f12)
          simp [Region.wanted, yielded, putsL, Act.put, f7, f12]
        refine fac_skip 14 rfl rfl rfl (fun _ _ h _ => h) Ext.refl ?_ ?_
        · intro sv w' hw' hfa
          obtain ⟨f0, f1, f2, f3, f4, f5, f6, f7, f10, f11, f12, f13, -⟩ := hfa
          replace f0 : sv 0 = _ := f0; (try dsimp only at f0); replace f1 : sv 1 = _ := f1; (try dsimp only at f1); replace f2 : sv 2 = _ := f2; (try dsimp only at f2); replace f3 : sv 3 = _ := f3; (try dsimp only at f3); replace f4 : sv 4 = _ := f4; (try dsimp only at f4); replace f5 : sv 5 = _ := f5; (try dsimp only at f5); replace f6 : sv 6 = _ := f6; (try dsimp only at f6)
          replace f7 : sv 7 = _ := f7; (try dsimp only at f7); replace f10 : sv 10 = _ := f10; (try dsimp only at f10); replace f11 : sv 11 = _ := f11; (try dsimp only at f11); replace f12 : sv 12 = _ := f12; (try dsimp only at f12); replace f13 : sv 13 = _ := f13; (try dsimp only at f13)
          simp [Region.wanted, yielded, putsL, Act.put, f7, f11, f13]
        refine fac_skip 15 rfl rfl rfl (fun _ _ h _ => h) Ext.refl ?_ ?_
        · intro sv w' hw' hfa
          obtain ⟨f0, f1, f2, f3, f4, f5, f6, f7, f10, f11, f12, f13, f14, -⟩ := hfa
          replace f0 : sv 0 = _ := f0; (try dsimp only at f0); replace f1 : sv 1 = _ := f1; (try dsimp only at f1); replace f2 : sv 2 = _ := f2; (try dsimp only at f2); replace f3 : sv 3 = _ := f3; (try dsimp only at f3); replace f4 : sv 4 = _ := f4; (try dsimp only at f4); replace f5 : sv 5 = _ := f5; (try dsimp only at f5); replace f6 : sv 6 = _ := f6; (try dsimp only at f6)
          replace f7 : sv 7 = _ := f7; (try dsimp only at f7); replace f10 : sv 10 = _ := f10; (try dsimp only at f10); replace f11 : sv 11 = _ := f11; (try dsimp only at f11); replace f12 : sv 12 = _ := f12; (try dsimp only at f12); replace f13 : sv 13 = _ := f13; (try dsimp only at f13); replace f14 : sv 14 = _ := f14; (try dsimp only at f14)
          simp [Region.wanted, yielded, putsL, Act.put, f7, f14]
        refine fac_skip 16 rfl rfl rfl (fun _ _ h _ => h) Ext.refl ?_ ?_
        · intro sv w' hw' hfa
          obtain ⟨f0, f1, f2, f3, f4, f5, f6, f7, f10, f11, f12, f13, f14, f15, -⟩ := hfa
          replace f0 : sv 0 = _ := f0; (try dsimp only at f0); replace f1 : sv 1 = _ := f1; (try dsimp only at f1); replace f2 : sv 2 = _ := f2; (try dsimp only at f2); replace f3 : sv 3 = _ := f3; (try dsimp only at f3); replace f4 : sv 4 = _ := f4; (try dsimp only at f4); replace f5 : sv 5 = _ := f5; (try dsimp only at f5); replace f6 : sv 6 = _ := f6; (try dsimp only at f6)
          replace f7 : sv 7 = _ := f7; (try dsimp only at f7); replace f10 : sv 10 = _ := f10; (try dsimp only at f10); replace f11 : sv 11 = _ := f11; (try dsimp only at f11); replace f12 : sv 12 = _ := f12; (try dsimp only at f12); replace f13 : sv 13 = _ := f13; (try dsimp only at f13); replace f14 : sv 14 = _ := f14; (try dsimp only at f14); replace f15 : sv 15 = _ := f15
          (try dsimp only at f15)
          simp [Region.wanted, yielded, putsL, Act.put, f7, f15]
        refine fac_skip 17 rfl rfl rfl (fun _ _ h _ => h) Ext.refl ?_ ?_
        · intro sv w' hw' hfa
          obtain ⟨f0, f1, f2, f3, f4, f5, f6, f7, f8, f9, f10, f11, f12, f13, f14, f15, f16, -⟩ := hfa
          replace f0 : sv 0 = _ := f0; (try dsimp only at f0); replace f1 : sv 1 = _ := f1; (try dsimp only at f1); replace f2 : sv 2 = _ := f2; (try dsimp only at f2); replace f3 : sv 3 = _ := f3; (try dsimp only at f3); replace f4 : sv 4 = _ := f4; (try dsimp only at f4); replace f5 : sv 5 = _ := f5; (try dsimp only at f5); replace f6 : sv 6 = _ := f6; (try dsimp only at f6)
          replace f7 : sv 7 = _ := f7; (try dsimp only at f7); replace f8 : sv 8 = _ := f8; (try dsimp only at f8); replace f9 : sv 9 = _ := f9; (try dsimp only at f9); replace f10 : sv 10 = _ := f10; (try dsimp only at f10); replace f11 : sv 11 = _ := f11; (try dsimp only at f11); replace f12 : sv 12 = _ := f12; (try dsimp only at f12); replace f13 : sv 13 = _ := f13
          (try dsimp only at f13); replace f14 : sv 14 = _ := f14; (try dsimp only at f14); replace f15 : sv 15 = _ := f15; (try dsimp only at f15); replace f16 : sv 16 = _ := f16; (try dsimp only at f16)
          simp [Region.wanted, yielded, putsL, Act.put, f7, f9, f16]
        refine fac_quiet 18 rfl rfl rfl (fun _ _ h _ => h) rfl rfl ?_
        apply Exists.intro
        refine ⟨fun sv w' hw' hfa => ?_, ?_⟩
        · obtain ⟨_, _, _, _, _, _, _, f7, _, _, _, _, _, _, _, _, _, f17, -⟩ := hfa
          replace f7 : sv 7 = _ := f7; (try dsimp only at f7); replace f17 : sv 17 = _ := f17; (try dsimp only at f17)
          refine ⟨rfl, ?_⟩
          simp only [putsL]
          change quietTo _ _ _ _ (Sem.run _ (execOp (Act.eval (Act.put (Act.put (Act.put (Act.put (Act.put (Act.put (Act.put (Act.put (Act.put (Act.put (Act.put (Act.put (Act.put (Act.put (Act.put (Act.put (Act.put (Act.put _ (some 56) (sv 17)) (some 55) (sv 16)) (some 54) (sv 15)) (some 53) (sv 14)) (some 52) (sv 13)) (some 51) (sv 12)) (some 50) (sv 11)) (some 49) (sv 10)) (some 48) (sv 9)) (some 47) (sv 8)) (some 46) (sv 7)) (some 45) (sv 6)) (some 44) (sv 5)) (some 43) (sv 4)) (some 42) (sv 3)) (some 41) (sv 2)) (some 40) (sv 1)) (some 39) (sv 0))) _) _)
          try simp only [Act.put, sIA, sCS, sCZ]
          simp [go_sem, quietTo, Ext.refl, ↓IntWalk.iteOmega, f7, f17]
          all_goals try simp (disch := omega) only [IntWalk.i64_in]
          all_goals first
            | rfl
        refine fac_nil fun xq wrq herq hfrq hcrq holdq hapq => ?_
        obtain ⟨f0, f1, f2, f3, f4, f5, f6, f7, f8, f9, f10, f11, f12, f13, f14, f15, f16, f17, f18, -⟩ := hfrq
        replace f0 : xq 0 = _ := f0
        (try dsimp only at f0)
        replace f1 : xq 1 = _ := f1
        (try dsimp only at f1)
        replace f2 : xq 2 = _ := f2
        (try dsimp only at f2)
        replace f3 : xq 3 = _ := f3
        (try dsimp only at f3)
        replace f4 : xq 4 = _ := f4
        (try dsimp only at f4)
        replace f5 : xq 5 = _ := f5
        (try dsimp only at f5)
        replace f6 : xq 6 = _ := f6
        (try dsimp only at f6)
        replace f7 : xq 7 = _ := f7
        (try dsimp only at f7)
        replace f8 : xq 8 = _ := f8
        (try dsimp only at f8)
        replace f9 : xq 9 = _ := f9
        (try dsimp only at f9)
        replace f10 : xq 10 = _ := f10
        (try dsimp only at f10)
        replace f11 : xq 11 = _ := f11
        (try dsimp only at f11)
        replace f12 : xq 12 = _ := f12
        (try dsimp only at f12)
        replace f13 : xq 13 = _ := f13
        (try dsimp only at f13)
        replace f14 : xq 14 = _ := f14
        (try dsimp only at f14)
        replace f15 : xq 15 = _ := f15
        (try dsimp only at f15)
        replace f16 : xq 16 = _ := f16
        (try dsimp only at f16)
        replace f17 : xq 17 = _ := f17
        (try dsimp only at f17)
        replace f18 : xq 18 = _ := f18
        (try dsimp only at f18)
        change wpList _ _ _ _ (Act.put (Act.put (Act.put (Act.put (Act.put (Act.put (Act.put (Act.put (Act.put (Act.put (Act.put (Act.put (Act.put (Act.put (Act.put (Act.put (Act.put (Act.put (Act.put _ (some 39) (xq 0)) (some 40) (xq 1)) (some 41) (xq 2)) (some 42) (xq 3)) (some 43) (xq 4)) (some 44) (xq 5)) (some 45) (xq 6)) (some 46) (xq 7)) (some 47) (xq 8)) (some 48) (xq 9)) (some 49) (xq 10)) (some 50) (xq 11)) (some 51) (xq 12)) (some 52) (xq 13)) (some 53) (xq 14)) (some 54) (xq 15)) (some 55) (xq 16)) (some 56) (xq 17)) (some 57) (xq 18)) _
        simp only [putsL, Nat.reduceAdd, List.drop_succ_cons, List.drop_zero, List.drop_nil, Act.put, sIA, sCS, sCZ]
        try simp only [f0, f1, f2, f3, f4, f5, f6, f7, f8, f9, f10, f11, f12, f13, f14, f15, f16, f17, f18]
        clear f0 f1 f2 f3 f4 f5 f6 f7 f8 f9 f10 f11 f12 f13 f14 f15 f16 f17 f18; clear holdq hapq
        go_wp2
        go_ret
        exact ⟨ret_int (by rw [hF.out, ← scan_is (v := 1) hz hlt (by rw [hv.out, hh, hr1]; rfl) (by decide)]; rfl), hE2.trans ((Ext.refl _).drew.trans herq)⟩
      have hr1' : outB x.row 0 (wide.length - 1) = false := by rw [outB_inB, hr1]; rfl
      rw [hr1'] at ho1
      have hrb := inB_iff.1 hr1
      obtain ⟨r, hr⟩ : ∃ r : Nat, x.row = r := ⟨x.row.toNat, by omega⟩
      obtain ⟨v, hwv⟩ := getD_some (rfl : wide.length = wide.length) (show r < wide.length by omega)
      have hwd : wide.getD x.row.toNat 0 = v := by rw [hr, Int.toNat_natCast, List.getD_eq_getElem?_getD, hwv]; rfl
      have hvb := hwo.out.2 v (List.mem_of_getElem? hwv)
      rcases (slcC h.out.wid).2 with ⟨-, e⟩ | ⟨wb, wo, rfl, hwb, hwE⟩
      · rw [e] at hwv; cases hwv
      have d1 := (hwE.ext hE2 hwb).int hwv
      have hwl := Nat.lt_of_lt_of_le hwb hE2.size
      have hrI : (r : Int) < wide.length := by omega
      rw [hwd] at hv
      have ho2 := fun u => outside_is (n := x.place) (lo := 0) (hi := v - 1) rfl u
      rw [hr] at hY2 hrb ho1
      clear hwE hwd hr1'
      cases hr2 : inB x.place 0 (v - 1)
      · have hr2' : outB x.place 0 (v - 1) = true := by rw [outB_inB, hr2]; rfl
        rw [hr2'] at ho2
        replace ho1 := Lib.hid ho1; replace ho2 := Lib.hid ho2
        refine wp_region_facts [] [([], false, false), ([0], false, false), ([], false, false), ([2], false, false), ([2, 3], false, false), ([2, 3, 4], false, false), ([0, 1, 2, 3, 4, 5], false, false), ([0, 1, 2, 3, 4, 5, 6], false, false), ([0, 1, 2, 3, 4, 5, 6, 7], false, false), ([0, 1, 2, 3, 4, 5, 6, 7, 8], false, false), ([0, 1, 2, 3, 4, 5, 6, 7], false, false), ([0, 1, 2, 3, 4, 5, 6, 7, 10], false, false), ([0, 1, 2, 3, 4, 5, 6, 7], false, false), ([0, 1, 2, 3, 4, 5, 6, 7, 12], false, false), ([0, 1, 2, 3, 4, 5, 6, 7, 10, 11, 12, 13], false, false), ([0, 1, 2, 3, 4, 5, 6, 7, 10, 11, 12, 13, 14], false, false), ([0, 1, 2, 3, 4, 5, 6, 7, 10, 11, 12, 13, 14, 15], false, false), ([0, 1, 2, 3, 4, 5, 6, 7, 8, 9, 10, 11, 12, 13, 14, 15, 16], false, false), ([0, 1, 2, 3, 4, 5, 6, 7, 8, 9, 10, 11, 12, 13, 14, 15, 16, 17], false, false)] (Ext) Ext (fun _ => True) (by kernel_rfl) (by kernel_rfl) Ext.refl (fun _ _ _ => Ext.trans) (fun _ _ h => h) (fun _ _ h => h.size) (fun _ _ h _ => h) trivial ?_
        dsimp only [List.length_cons, List.length_nil, List.drop_succ_cons, List.drop_zero, List.drop_nil]
        refine fac_quiet 0 rfl rfl rfl (fun _ _ h _ => h) rfl rfl ?_
        apply Exists.intro
        refine ⟨fun sv w' hw' hfa => ?_, ?_⟩
        · refine ⟨rfl, ?_⟩
          simp only [putsL]
          change quietTo _ _ _ _ (Sem.run _ (execOp (Act.eval _) _) _)
          try simp only [Act.put, sIA, sCS, sCZ]
          simp [go_sem, quietTo, Ext.refl]
          all_goals first
            | rfl
        refine fac_quiet 1 rfl rfl rfl (fun _ _ h _ => h) rfl rfl ?_
        apply Exists.intro
        refine ⟨fun sv w' hw' hfa => ?_, ?_⟩
        · obtain ⟨f0, -⟩ := hfa
          replace f0 : sv 0 = _ := f0; (try dsimp only at f0)
          have hk9 := (Ext.refl w2).drew.trans hw'; obtain ⟨y1, -⟩ := (hX3.ext hk9).walk; obtain ⟨y2, -⟩ := (hY2.ext hk9).walk; obtain ⟨hc9, hff, hz9⟩ := hk9.walk; have v1 := (hc9 _ _ hwl).trans d1
          refine ⟨rfl, ?_⟩
          simp only [putsL]
          change quietTo _ _ _ _ (Sem.run _ (execOp (Act.eval (Act.put _ (some 39) (sv 0))) _) _)
          try simp only [Act.put, sIA, sCS, sCZ]
          simp [go_sem, quietTo, Ext.refl, ↓IntWalk.iteOmega, f0, y2]
          all_goals try simp (disch := omega) only [IntWalk.i64_in]
          all_goals first
            | rfl
        refine fac_quiet 2 rfl rfl rfl (fun _ _ h _ => h) rfl rfl ?_
        apply Exists.intro
        refine ⟨fun sv w' hw' hfa => ?_, ?_⟩
        · refine ⟨rfl, ?_⟩
          simp only [putsL]
          change quietTo _ _ _ _ (Sem.run _ (execOp (Act.eval _) _) _)
          try simp only [Act.put, sIA, sCS, sCZ]
          simp [go_sem, quietTo, Ext.refl]
          all_goals first
            | rfl
        refine fac_quiet 3 rfl rfl rfl (fun _ _ h _ => h) rfl rfl ?_
        apply Exists.intro
        refine ⟨fun sv w' hw' hfa => ?_, ?_⟩
        · obtain ⟨f2, -⟩ := hfa
          replace f2 : sv 2 = _ := f2; (try dsimp only at f2)
          have hk9 := (Ext.refl w2).drew.trans hw'; obtain ⟨y1, -⟩ := (hX3.ext hk9).walk; obtain ⟨y2, -⟩ := (hY2.ext hk9).walk; obtain ⟨hc9, hff, hz9⟩ := hk9.walk; have v1 := (hc9 _ _ hwl).trans d1
          refine ⟨rfl, ?_⟩
          simp only [putsL]
          change quietTo _ _ _ _ (Sem.run _ (execOp (Act.eval (Act.put _ (some 41) (sv 2))) _) _)
          try simp only [Act.put, sIA, sCS, sCZ]
          simp [go_sem, quietTo, Ext.refl, ↓IntWalk.iteOmega, f2, y1]
          all_goals try simp (disch := omega) only [IntWalk.i64_in]
          all_goals first
            | rfl
        refine fac_quiet 4 rfl rfl rfl (fun _ _ h _ => h) rfl rfl ?_
        apply Exists.intro
        refine ⟨fun sv w' hw' hfa => ?_, ?_⟩
        · obtain ⟨_, f3, -⟩ := hfa
          replace f3 : sv 3 = _ := f3; (try dsimp only at f3)
          refine ⟨rfl, ?_⟩
          simp only [putsL]
          change quietTo _ _ _ _ (Sem.run _ (execOp (Act.eval (Act.put (Act.put _ (some 42) (sv 3)) (some 41) (sv 2))) _) _)
          try simp only [Act.put, sIA, sCS, sCZ]
          simp [go_sem, quietTo, Ext.refl, ↓IntWalk.iteOmega, f3]
          all_goals try simp (disch := omega) only [IntWalk.i64_in]
          all_goals first
            | rfl
        refine fac_quiet 5 rfl rfl rfl (fun _ _ h _ => h) rfl rfl ?_
        apply Exists.intro
        refine ⟨fun sv w' hw' hfa => ?_, ?_⟩
        · obtain ⟨_, _, f4, -⟩ := hfa
          replace f4 : sv 4 = _ := f4; (try dsimp only at f4)
          refine ⟨rfl, ?_⟩
          simp only [putsL]
          change quietTo _ _ _ _ (Sem.run _ (execOp (Act.eval (Act.put (Act.put (Act.put _ (some 43) (sv 4)) (some 42) (sv 3)) (some 41) (sv 2))) _) _)
          try simp only [Act.put, sIA, sCS, sCZ]
          simp [go_sem, quietTo, Ext.refl, ↓IntWalk.iteOmega, f4]
          all_goals try simp (disch := omega) only [IntWalk.i64_in]
          all_goals first
            | rfl
        refine fac_quiet 6 rfl rfl rfl (fun _ _ h _ => h) rfl rfl ?_
        apply Exists.intro
        refine ⟨fun sv w' hw' hfa => ?_, ?_⟩
        · obtain ⟨f0, f1, f2, f3, f4, f5, -⟩ := hfa
          replace f0 : sv 0 = _ := f0; (try dsimp only at f0); replace f1 : sv 1 = _ := f1; (try dsimp only at f1); replace f2 : sv 2 = _ := f2; (try dsimp only at f2); replace f3 : sv 3 = _ := f3; (try dsimp only at f3); replace f4 : sv 4 = _ := f4; (try dsimp only at f4); replace f5 : sv 5 = _ := f5; (try dsimp only at f5)
          have hk9 := (Ext.refl w2).drew.trans hw'; obtain ⟨y1, -⟩ := (hX3.ext hk9).walk; obtain ⟨y2, -⟩ := (hY2.ext hk9).walk; obtain ⟨hc9, hff, hz9⟩ := hk9.walk; have v1 := (hc9 _ _ hwl).trans d1
          refine ⟨rfl, ?_⟩
          simp only [putsL]
          change quietTo _ _ _ _ (Sem.run _ (execOp (Act.eval (Act.put (Act.put (Act.put (Act.put (Act.put (Act.put _ (some 44) (sv 5)) (some 43) (sv 4)) (some 42) (sv 3)) (some 41) (sv 2)) (some 40) (sv 1)) (some 39) (sv 0))) _) _)
          try simp only [Act.put, sIA, sCS, sCZ]
          simp [go_sem, quietTo, Ext.refl, ↓IntWalk.iteOmega, f1, f5]
          all_goals try simp (disch := omega) only [IntWalk.i64_in]
          all_goals first
            | rfl
            | (exact ho1.out _)
        refine fac_quiet 7 rfl rfl rfl (fun _ _ h _ => h) rfl rfl ?_
        apply Exists.intro
        refine ⟨fun sv w' hw' hfa => ?_, ?_⟩
        · obtain ⟨_, _, _, _, _, _, f6, -⟩ := hfa
          replace f6 : sv 6 = _ := f6; (try dsimp only at f6)
          refine ⟨rfl, ?_⟩
          simp only [putsL]
          change quietTo _ _ _ _ (Sem.run _ (execOp (Act.eval (Act.put (Act.put (Act.put (Act.put (Act.put (Act.put (Act.put _ (some 45) (sv 6)) (some 44) (sv 5)) (some 43) (sv 4)) (some 42) (sv 3)) (some 41) (sv 2)) (some 40) (sv 1)) (some 39) (sv 0))) _) _)
          try simp only [Act.put, sIA, sCS, sCZ]
          simp [go_sem, quietTo, Ext.refl, f6]
          all_goals first
            | rfl
        refine fac_quiet 8 rfl rfl rfl (fun _ _ h _ => h) rfl rfl ?_
        apply Exists.intro
        refine ⟨fun sv w' hw' hfa => ?_, ?_⟩
        · obtain ⟨_, _, _, _, _, _, _, f7, -⟩ := hfa
          replace f7 : sv 7 = _ := f7; (try dsimp only at f7)
          refine ⟨by simp [Region.wanted, yielded, putsL, Act.put, f7], ?_⟩
          simp only [putsL]
          change quietTo _ _ _ _ (Sem.run _ (execOp (Act.eval (Act.put (Act.put (Act.put (Act.put (Act.put (Act.put (Act.put (Act.put _ (some 46) (sv 7)) (some 45) (sv 6)) (some 44) (sv 5)) (some 43) (sv 4)) (some 42) (sv 3)) (some 41) (sv 2)) (some 40) (sv 1)) (some 39) (sv 0))) _) _)
          try simp only [Act.put, sIA, sCS, sCZ]
          simp [go_sem, quietTo, Ext.refl, f7]
          all_goals first
            | rfl
        refine fac_quiet 9 rfl rfl rfl (fun _ _ h _ => h) rfl rfl ?_
        apply Exists.intro
        refine ⟨fun sv w' hw' hfa => ?_, ?_⟩
        · obtain ⟨_, _, _, _, _, _, _, f7, f8, -⟩ := hfa
          replace f7 : sv 7 = _ := f7; (try dsimp only at f7); replace f8 : sv 8 = _ := f8; (try dsimp only at f8)
          have hk9 := (Ext.refl w2).drew.trans hw'; obtain ⟨y1, -⟩ := (hX3.ext hk9).walk; obtain ⟨y2, -⟩ := (hY2.ext hk9).walk; obtain ⟨hc9, hff, hz9⟩ := hk9.walk; have v1 := (hc9 _ _ hwl).trans d1
          refine ⟨by simp [Region.wanted, yielded, putsL, Act.put, f7, f8], ?_⟩
          simp only [putsL]
          change quietTo _ _ _ _ (Sem.run _ (execOp (Act.eval (Act.put (Act.put (Act.put (Act.put (Act.put (Act.put (Act.put (Act.put (Act.put _ (some 47) (sv 8)) (some 46) (sv 7)) (some 45) (sv 6)) (some 44) (sv 5)) (some 43) (sv 4)) (some 42) (sv 3)) (some 41) (sv 2)) (some 40) (sv 1)) (some 39) (sv 0))) _) _)
          try simp only [Act.put, sIA, sCS, sCZ]
          simp [go_sem, quietTo, Ext.refl, ↓IntWalk.iteOmega, f7, f8, y2]
          all_goals try simp (disch := omega) only [IntWalk.i64_in]
          all_goals first
            | rfl
        refine fac_quiet 10 rfl rfl rfl (fun _ _ h _ => h) rfl rfl ?_
        apply Exists.intro
        refine ⟨fun sv w' hw' hfa => ?_, ?_⟩
        · obtain ⟨_, _, _, _, _, _, _, f7, -⟩ := hfa
          replace f7 : sv 7 = _ := f7; (try dsimp only at f7)
          refine ⟨by simp [Region.wanted, yielded, putsL, Act.put, f7], ?_⟩
          simp only [putsL]
          change quietTo _ _ _ _ (Sem.run _ (execOp (Act.eval (Act.put (Act.put (Act.put (Act.put (Act.put (Act.put (Act.put (Act.put _ (some 46) (sv 7)) (some 45) (sv 6)) (some 44) (sv 5)) (some 43) (sv 4)) (some 42) (sv 3)) (some 41) (sv 2)) (some 40) (sv 1)) (some 39) (sv 0))) _) _)
          try simp only [Act.put, sIA, sCS, sCZ]
          simp [go_sem, quietTo, Ext.refl, f7]
          all_goals first
            | rfl
        refine fac_quiet 11 rfl rfl rfl (fun _ _ h _ => h) rfl rfl ?_
        apply Exists.intro
        refine ⟨fun sv w' hw' hfa => ?_, ?_⟩
        · obtain ⟨_, _, _, _, _, _, _, f7, f10, -⟩ := hfa
          replace f7 : sv 7 = _ := f7; (try dsimp only at f7); replace f10 : sv 10 = _ := f10; (try dsimp only at f10)
          have hk9 := (Ext.refl w2).drew.trans hw'; obtain ⟨y1, -⟩ := (hX3.ext hk9).walk; obtain ⟨y2, -⟩ := (hY2.ext hk9).walk; obtain ⟨hc9, hff, hz9⟩ := hk9.walk; have v1 := (hc9 _ _ hwl).trans d1
          refine ⟨by simp [Region.wanted, yielded, putsL, Act.put, f7, f10], ?_⟩
          simp only [putsL]
          change quietTo _ _ _ _ (Sem.run _ (execOp (Act.eval (Act.put (Act.put (Act.put (Act.put (Act.put (Act.put (Act.put (Act.put (Act.put _ (some 49) (sv 10)) (some 46) (sv 7)) (some 45) (sv 6)) (some 44) (sv 5)) (some 43) (sv 4)) (some 42) (sv 3)) (some 41) (sv 2)) (some 40) (sv 1)) (some 39) (sv 0))) _) _)
          try simp only [Act.put, sIA, sCS, sCZ]
          simp [go_sem, quietTo, Ext.refl, ↓IntWalk.iteOmega, f7, f10, y1]
          all_goals try simp (disch := omega) only [IntWalk.i64_in]
          all_goals first
            | rfl
        refine fac_quiet 12 rfl rfl rfl (fun _ _ h _ => h) rfl rfl ?_
        apply Exists.intro
        refine ⟨fun sv w' hw' hfa => ?_, ?_⟩
        · obtain ⟨_, _, _, _, _, _, _, f7, -⟩ := hfa
          replace f7 : sv 7 = _ := f7; (try dsimp only at f7)
          refine ⟨by simp [Region.wanted, yielded, putsL, Act.put, f7], ?_⟩
          simp only [putsL]
          change quietTo _ _ _ _ (Sem.run _ (execOp (Act.eval (Act.put (Act.put (Act.put (Act.put (Act.put (Act.put (Act.put (Act.put _ (some 46) (sv 7)) (some 45) (sv 6)) (some 44) (sv 5)) (some 43) (sv 4)) (some 42) (sv 3)) (some 41) (sv 2)) (some 40) (sv 1)) (some 39) (sv 0))) _) _)
          try simp only [Act.put, sIA, sCS, sCZ]
          simp [go_sem, quietTo, Ext.refl, f7]
          all_goals first
            | rfl
        refine fac_quiet 13 rfl rfl rfl (fun _ _ h _ => h) rfl rfl ?_
        apply Exists.intro
        refine ⟨fun sv w' hw' hfa => ?_, ?_⟩
        · obtain ⟨_, _, _, _, _, _, _, f7, f12, -⟩ := hfa
          replace f7 : sv 7 = _ := f7; (try dsimp only at f7); replace f12 : sv 12 = _ := f12; (try dsimp only at f12)
          have hk9 := (Ext.refl w2).drew.trans hw'; obtain ⟨y1, -⟩ := (hX3.ext hk9).walk; obtain ⟨y2, -⟩ := (hY2.ext hk9).walk; obtain ⟨hc9, hff, hz9⟩ := hk9.walk; have v1 := (hc9 _ _ hwl).trans d1
          refine ⟨by simp [Region.wanted, yielded, putsL, Act.put, f7, f12], ?_⟩
          simp only [putsL]
          change quietTo _ _ _ _ (Sem.run _ (execOp (Act.eval (Act.put (Act.put (Act.put (Act.put (Act.put (Act.put (Act.put (Act.put (Act.put _ (some 51) (sv 12)) (some 46) (sv 7)) (some 45) (sv 6)) (some 44) (sv 5)) (some 43) (sv 4)) (some 42) (sv 3)) (some 41) (sv 2)) (some 40) (sv 1)) (some 39) (sv 0))) _) _)
          try simp only [Act.put, sIA, sCS, sCZ]
          simp [go_sem, quietTo, Ext.refl, ↓IntWalk.iteOmega, f7, f12, y2]
          all_goals try simp (disch := omega) only [IntWalk.i64_in]
          all_goals first
            | rfl
        refine fac_quiet 14 rfl rfl rfl (fun _ _ h _ => h) rfl rfl ?_
        apply Exists.intro
        refine ⟨fun sv w' hw' hfa => ?_, ?_⟩
        · obtain ⟨_, _, _, _, _, _, _, f7, _, f11, _, f13, -⟩ := hfa
          replace f7 : sv 7 = _ := f7; (try dsimp only at f7); replace f11 : sv 11 = _ := f11; (try dsimp only at f11); replace f13 : sv 13 = _ := f13; (try dsimp only at f13)
          have hk9 := (Ext.refl w2).drew.trans hw'; obtain ⟨y1, -⟩ := (hX3.ext hk9).walk; obtain ⟨y2, -⟩ := (hY2.ext hk9).walk; obtain ⟨hc9, hff, hz9⟩ := hk9.walk; have v1 := (hc9 _ _ hwl).trans d1
          refine ⟨by simp [Region.wanted, yielded, putsL, Act.put, f7, f11, f13], ?_⟩
          simp only [putsL]
          change quietTo _ _ _ _ (Sem.run _ (execOp (Act.eval (Act.put (Act.put (Act.put (Act.put (Act.put (Act.put (Act.put (Act.put (Act.put (Act.put (Act.put (Act.put _ (some 52) (sv 13)) (some 51) (sv 12)) (some 50) (sv 11)) (some 49) (sv 10)) (some 46) (sv 7)) (some 45) (sv 6)) (some 44) (sv 5)) (some 43) (sv 4)) (some 42) (sv 3)) (some 41) (sv 2)) (some 40) (sv 1)) (some 39) (sv 0))) _) _)
          try simp only [Act.put, sIA, sCS, sCZ]
          simp [go_sem, quietTo, Ext.refl, ↓IntWalk.iteOmega, f7, f11, f13, hrI]
          all_goals try simp (disch := omega) only [IntWalk.i64_in]
          all_goals first
            | rfl
        refine fac_quiet 15 rfl rfl rfl (fun _ _ h _ => h) rfl rfl ?_
        apply Exists.intro
        refine ⟨fun sv w' hw' hfa => ?_, ?_⟩
        · obtain ⟨_, _, _, _, _, _, _, f7, _, _, _, _, f14, -⟩ := hfa
          replace f7 : sv 7 = _ := f7; (try dsimp only at f7); replace f14 : sv 14 = _ := f14; (try dsimp only at f14)
          have hk9 := (Ext.refl w2).drew.trans hw'; obtain ⟨y1, -⟩ := (hX3.ext hk9).walk; obtain ⟨y2, -⟩ := (hY2.ext hk9).walk; obtain ⟨hc9, hff, hz9⟩ := hk9.walk; have v1 := (hc9 _ _ hwl).trans d1
          refine ⟨by simp [Region.wanted, yielded, putsL, Act.put, f7, f14], ?_⟩
          simp only [putsL]
          change quietTo _ _ _ _ (Sem.run _ (execOp (Act.eval (Act.put (Act.put (Act.put (Act.put (Act.put (Act.put (Act.put (Act.put (Act.put (Act.put (Act.put (Act.put (Act.put _ (some 53) (sv 14)) (some 52) (sv 13)) (some 51) (sv 12)) (some 50) (sv 11)) (some 49) (sv 10)) (some 46) (sv 7)) (some 45) (sv 6)) (some 44) (sv 5)) (some 43) (sv 4)) (some 42) (sv 3)) (some 41) (sv 2)) (some 40) (sv 1)) (some 39) (sv 0))) _) _)
          try simp only [Act.put, sIA, sCS, sCZ]
          simp [go_sem, quietTo, Ext.refl, ↓IntWalk.iteOmega, f7, f14, v1]
          all_goals try simp (disch := omega) only [IntWalk.i64_in]
          all_goals first
            | rfl
        refine fac_quiet 16 rfl rfl rfl (fun _ _ h _ => h) rfl rfl ?_
        apply Exists.intro
        refine ⟨fun sv w' hw' hfa => ?_, ?_⟩
        · obtain ⟨_, _, _, _, _, _, _, f7, _, _, _, _, _, f15, -⟩ := hfa
          replace f7 : sv 7 = _ := f7; (try dsimp only at f7); replace f15 : sv 15 = _ := f15; (try dsimp only at f15)
          refine ⟨by simp [Region.wanted, yielded, putsL, Act.put, f7, f15], ?_⟩
          simp only [putsL]
          change quietTo _ _ _ _ (Sem.run _ (execOp (Act.eval (Act.put (Act.put (Act.put (Act.put (Act.put (Act.put (Act.put (Act.put (Act.put (Act.put (Act.put (Act.put (Act.put (Act.put _ (some 54) (sv 15)) (some 53) (sv 14)) (some 52) (sv 13)) (some 51) (sv 12)) (some 50) (sv 11)) (some 49) (sv 10)) (some 46) (sv 7)) (some 45) (sv 6)) (some 44) (sv 5)) (some 43) (sv 4)) (some 42) (sv 3)) (some 41) (sv 2)) (some 40) (sv 1)) (some 39) (sv 0))) _) _)
          try simp only [Act.put, sIA, sCS, sCZ]
          simp [go_sem, quietTo, Ext.refl, ↓IntWalk.iteOmega, f7, f15]
          all_goals try simp (disch := omega) only [IntWalk.i64_in]
          all_goals first
            | rfl
        refine fac_quiet 17 rfl rfl rfl (fun _ _ h _ => h) rfl rfl ?_
        apply Exists.intro
        refine ⟨fun sv w' hw' hfa => ?_, ?_⟩
        · obtain ⟨f0, f1, f2, f3, f4, f5, f6, f7, f8, f9, f10, f11, f12, f13, f14, f15, f16, -⟩ := hfa
          replace f0 : sv 0 = _ := f0; (try dsimp only at f0); replace f1 : sv 1 = _ := f1; (try dsimp only at f1); replace f2 : sv 2 = _ := f2; (try dsimp only at f2); replace f3 : sv 3 = _ := f3; (try dsimp only at f3); replace f4 : sv 4 = _ := f4; (try dsimp only at f4); replace f5 : sv 5 = _ := f5; (try dsimp only at f5); replace f6 : sv 6 = _ := f6; (try dsimp only at f6)
          replace f7 : sv 7 = _ := f7; (try dsimp only at f7); replace f8 : sv 8 = _ := f8; (try dsimp only at f8); replace f9 : sv 9 = _ := f9; (try dsimp only at f9); replace f10 : sv 10 = _ := f10; (try dsimp only at f10); replace f11 : sv 11 = _ := f11; (try dsimp only at f11); replace f12 : sv 12 = _ := f12; (try dsimp only at f12); replace f13 : sv 13 = _ := f13
          (try dsimp only at f13); replace f14 : sv 14 = _ := f14; (try dsimp only at f14); replace f15 : sv 15 = _ := f15; (try dsimp only at f15); replace f16 : sv 16 = _ := f16; (try dsimp only at f16)
          have hk9 := (Ext.refl w2).drew.trans hw'; obtain ⟨y1, -⟩ := (hX3.ext hk9).walk; obtain ⟨y2, -⟩ := (hY2.ext hk9).walk; obtain ⟨hc9, hff, hz9⟩ := hk9.walk; have v1 := (hc9 _ _ hwl).trans d1
          refine ⟨by simp [Region.wanted, yielded, putsL, Act.put, f7, f9, f16], ?_⟩
          simp only [putsL]
          change quietTo _ _ _ _ (Sem.run _ (execOp (Act.eval (Act.put (Act.put (Act.put (Act.put (Act.put (Act.put (Act.put (Act.put (Act.put (Act.put (Act.put (Act.put (Act.put (Act.put (Act.put (Act.put (Act.put _ (some 55) (sv 16)) (some 54) (sv 15)) (some 53) (sv 14)) (some 52) (sv 13)) (some 51) (sv 12)) (some 50) (sv 11)) (some 49) (sv 10)) (some 48) (sv 9)) (some 47) (sv 8)) (some 46) (sv 7)) (some 45) (sv 6)) (some 44) (sv 5)) (some 43) (sv 4)) (some 42) (sv 3)) (some 41) (sv 2)) (some 40) (sv 1)) (some 39) (sv 0))) _) _)
          try simp only [Act.put, sIA, sCS, sCZ]
          simp [go_sem, quietTo, Ext.refl, ↓IntWalk.iteOmega, f7, f9, f16]
          all_goals try simp (disch := omega) only [IntWalk.i64_in]
          all_goals first
            | rfl
            | (exact ho2.out _)
        refine fac_quiet 18 rfl rfl rfl (fun _ _ h _ => h) rfl rfl ?_
        apply Exists.intro
        refine ⟨fun sv w' hw' hfa => ?_, ?_⟩
        · obtain ⟨_, _, _, _, _, _, _, f7, _, _, _, _, _, _, _, _, _, f17, -⟩ := hfa
          replace f7 : sv 7 = _ := f7; (try dsimp only at f7); replace f17 : sv 17 = _ := f17; (try dsimp only at f17)
          refine ⟨rfl, ?_⟩
          simp only [putsL]
          change quietTo _ _ _ _ (Sem.run _ (execOp (Act.eval (Act.put (Act.put (Act.put (Act.put (Act.put (Act.put (Act.put (Act.put (Act.put (Act.put (Act.put (Act.put (Act.put (Act.put (Act.put (Act.put (Act.put (Act.put _ (some 56) (sv 17)) (some 55) (sv 16)) (some 54) (sv 15)) (some 53) (sv 14)) (some 52) (sv 13)) (some 51) (sv 12)) (some 50) (sv 11)) (some 49) (sv 10)) (some 48) (sv 9)) (some 47) (sv 8)) (some 46) (sv 7)) (some 45) (sv 6)) (some 44) (sv 5)) (some 43) (sv 4)) (some 42) (sv 3)) (some 41) (sv 2)) (some 40) (sv 1)) (some 39) (sv 0))) _) _)
          try simp only [Act.put, sIA, sCS, sCZ]
          simp [go_sem, quietTo, Ext.refl, ↓IntWalk.iteOmega, f7, f17]
          all_goals try simp (disch := omega) only [IntWalk.i64_in]
          all_goals first
            | rfl
        refine fac_nil fun xq wrq herq hfrq hcrq holdq hapq => ?_
        obtain ⟨f0, f1, f2, f3, f4, f5, f6, f7, f8, f9, f10, f11, f12, f13, f14, f15, f16, f17, f18, -⟩ := hfrq
        replace f0 : xq 0 = _ := f0
        (try dsimp only at f0)
        replace f1 : xq 1 = _ := f1
        (try dsimp only at f1)
        replace f2 : xq 2 = _ := f2
        (try dsimp only at f2)
        replace f3 : xq 3 = _ := f3
        (try dsimp only at f3)
        replace f4 : xq 4 = _ := f4
        (try dsimp only at f4)
        replace f5 : xq 5 = _ := f5
        (try dsimp only at f5)
        replace f6 : xq 6 = _ := f6
        (try dsimp only at f6)
        replace f7 : xq 7 = _ := f7
        (try dsimp only at f7)
        replace f8 : xq 8 = _ := f8
        (try dsimp only at f8)
        replace f9 : xq 9 = _ := f9
        (try dsimp only at f9)
        replace f10 : xq 10 = _ := f10
        (try dsimp only at f10)
        replace f11 : xq 11 = _ := f11
        (try dsimp only at f11)
        replace f12 : xq 12 = _ := f12
        (try dsimp only at f12)
        replace f13 : xq 13 = _ := f13
        (try dsimp only at f13)
        replace f14 : xq 14 = _ := f14
        (try dsimp only at f14)
        replace f15 : xq 15 = _ := f15
        (try dsimp only at f15)
        replace f16 : xq 16 = _ := f16
        (try dsimp only at f16)
        replace f17 : xq 17 = _ := f17
        (try dsimp only at f17)
        replace f18 : xq 18 = _ := f18
        (try dsimp only at f18)
        change wpList _ _ _ _ (Act.put (Act.put (Act.put (Act.put (Act.put (Act.put (Act.put (Act.put (Act.put (Act.put (Act.put (Act.put (Act.put (Act.put (Act.put (Act.put (Act.put (Act.put (Act.put _ (some 39) (xq 0)) (some 40) (xq 1)) (some 41) (xq 2)) (some 42) (xq 3)) (some 43) (xq 4)) (some 44) (xq 5)) (some 45) (xq 6)) (some 46) (xq 7)) (some 47) (xq 8)) (some 48) (xq 9)) (some 49) (xq 10)) (some 50) (xq 11)) (some 51) (xq 12)) (some 52) (xq 13)) (some 53) (xq 14)) (some 54) (xq 15)) (some 55) (xq 16)) (some 56) (xq 17)) (some 57) (xq 18)) _
        simp only [putsL, Nat.reduceAdd, List.drop_succ_cons, List.drop_zero, List.drop_nil, Act.put, sIA, sCS, sCZ]
        try simp only [f0, f1, f2, f3, f4, f5, f6, f7, f8, f9, f10, f11, f12, f13, f14, f15, f16, f17, f18]
        clear f0 f1 f2 f3 f4 f5 f6 f7 f8 f9 f10 f11 f12 f13 f14 f15 f16 f17 f18; clear holdq hapq
        go_wp2
        go_ret
        exact ⟨ret_int (by rw [hF.out, ← scan_is (v := 1) hz hlt (by rw [hv.out, hh, hr1, hr2]; rfl) (by decide)]; rfl), hE2.trans ((Ext.refl _).drew.trans herq)⟩
      have hr2' : outB x.place 0 (v - 1) = false := by rw [outB_inB, hr2]; rfl
      rw [hr2'] at ho2
      replace ho1 := Lib.hid ho1; replace ho2 := Lib.hid ho2
      refine wp_region_facts [] [([], false, false), ([0], false, false), ([], false, false), ([2], false, false), ([2, 3], false, false), ([2, 3, 4], false, false), ([0, 1, 2, 3, 4, 5], false, false), ([0, 1, 2, 3, 4, 5, 6], false, false), ([0, 1, 2, 3, 4, 5, 6, 7], false, false), ([0, 1, 2, 3, 4, 5, 6, 7, 8], false, false), ([0, 1, 2, 3, 4, 5, 6, 7], false, false), ([0, 1, 2, 3, 4, 5, 6, 7, 10], false, false), ([0, 1, 2, 3, 4, 5, 6, 7], false, false), ([0, 1, 2, 3, 4, 5, 6, 7, 12], false, false), ([0, 1, 2, 3, 4, 5, 6, 7, 10, 11, 12, 13], false, false), ([0, 1, 2, 3, 4, 5, 6, 7, 10, 11, 12, 13, 14], false, false), ([0, 1, 2, 3, 4, 5, 6, 7, 10, 11, 12, 13, 14, 15], false, false), ([0, 1, 2, 3, 4, 5, 6, 7, 8, 9, 10, 11, 12, 13, 14, 15, 16], false, false), ([0, 1, 2, 3, 4, 5, 6, 7, 8, 9, 10, 11, 12, 13, 14, 15, 16, 17], false, false)] (Ext) Ext (fun _ => True) (by kernel_rfl) (by kernel_rfl) Ext.refl (fun _ _ _ => Ext.trans) (fun _ _ h => h) (fun _ _ h => h.size) (fun _ _ h _ => h) trivial ?_
      dsimp only [List.length_cons, List.length_nil, List.drop_succ_cons, List.drop_zero, List.drop_nil]
      refine fac_quiet 0 rfl rfl rfl (fun _ _ h _ => h) rfl rfl ?_
      apply Exists.intro
      refine ⟨fun sv w' hw' hfa => ?_, ?_⟩
      · refine ⟨rfl, ?_⟩
        simp only [putsL]
        change quietTo _ _ _ _ (Sem.run _ (execOp (Act.eval _) _) _)
        try simp only [Act.put, sIA, sCS, sCZ]
        simp [go_sem, quietTo, Ext.refl]
        all_goals first
          | rfl
      refine fac_quiet 1 rfl rfl rfl (fun _ _ h _ => h) rfl rfl ?_
      apply Exists.intro
      refine ⟨fun sv w' hw' hfa => ?_, ?_⟩
      · obtain ⟨f0, -⟩ := hfa
        replace f0 : sv 0 = _ := f0; (try dsimp only at f0)
        have hk9 := (Ext.refl w2).drew.trans hw'; obtain ⟨y1, -⟩ := (hX3.ext hk9).walk; obtain ⟨y2, -⟩ := (hY2.ext hk9).walk; obtain ⟨hc9, hff, hz9⟩ := hk9.walk; have v1 := (hc9 _ _ hwl).trans d1
        refine ⟨rfl, ?_⟩
        simp only [putsL]
        change quietTo _ _ _ _ (Sem.run _ (execOp (Act.eval (Act.put _ (some 39) (sv 0))) _) _)
        try simp only [Act.put, sIA, sCS, sCZ]
        simp [go_sem, quietTo, Ext.refl, ↓IntWalk.iteOmega, f0, y2]
        all_goals try simp (disch := omega) only [IntWalk.i64_in]
        all_goals first
          | rfl
      refine fac_quiet 2 rfl rfl rfl (fun _ _ h _ => h) rfl rfl ?_
      apply Exists.intro
      refine ⟨fun sv w' hw' hfa => ?_, ?_⟩
      · refine ⟨rfl, ?_⟩
        simp only [putsL]
        change quietTo _ _ _ _ (Sem.run _ (execOp (Act.eval _) _) _)
        try simp only [Act.put, sIA, sCS, sCZ]
        simp [go_sem, quietTo, Ext.refl]
        all_goals first
          | rfl
      refine fac_quiet 3 rfl rfl rfl (fun _ _ h _ => h) rfl rfl ?_
      apply Exists.intro
      refine ⟨fun sv w' hw' hfa => ?_, ?_⟩
      · obtain ⟨f2, -⟩ := hfa
        replace f2 : sv 2 = _ := f2; (try dsimp only at f2)
        have hk9 := (Ext.refl w2).drew.trans hw'; obtain ⟨y1, -⟩ := (hX3.ext hk9).walk; obtain ⟨y2, -⟩ := (hY2.ext hk9).walk; obtain ⟨hc9, hff, hz9⟩ := hk9.walk; have v1 := (hc9 _ _ hwl).trans d1
        refine ⟨rfl, ?_⟩
        simp only [putsL]
        change quietTo _ _ _ _ (Sem.run _ (execOp (Act.eval (Act.put _ (some 41) (sv 2))) _) _)
        try simp only [Act.put, sIA, sCS, sCZ]
        simp [go_sem, quietTo, Ext.refl, ↓IntWalk.iteOmega, f2, y1]
        all_goals try simp (disch := omega) only [IntWalk.i64_in]
        all_goals first
          | rfl
      refine fac_quiet 4 rfl rfl rfl (fun _ _ h _ => h) rfl rfl ?_
      apply Exists.intro
      refine ⟨fun sv w' hw' hfa => ?_, ?_⟩
      · obtain ⟨_, f3, -⟩ := hfa
        replace f3 : sv 3 = _ := f3; (try dsimp only at f3)
        refine ⟨rfl, ?_⟩
        simp only [putsL]
        change quietTo _ _ _ _ (Sem.run _ (execOp (Act.eval (Act.put (Act.put _ (some 42) (sv 3)) (some 41) (sv 2))) _) _)
        try simp only [Act.put, sIA, sCS, sCZ]
        simp [go_sem, quietTo, Ext.refl, ↓IntWalk.iteOmega, f3]
        all_goals try simp (disch := omega) only [IntWalk.i64_in]
        all_goals first
          | rfl
      refine fac_quiet 5 rfl rfl rfl (fun _ _ h _ => h) rfl rfl ?_
      apply Exists.intro
      refine ⟨fun sv w' hw' hfa => ?_, ?_⟩
      · obtain ⟨_, _, f4, -⟩ := hfa
        replace f4 : sv 4 = _ := f4; (try dsimp only at f4)
        refine ⟨rfl, ?_⟩
        simp only [putsL]
        change quietTo _ _ _ _ (Sem.run _ (execOp (Act.eval (Act.put (Act.put (Act.put _ (some 43) (sv 4)) (some 42) (sv 3)) (some 41) (sv 2))) _) _)
        try simp only [Act.put, sIA, sCS, sCZ]
        simp [go_sem, quietTo, Ext.refl, ↓IntWalk.iteOmega, f4]
        all_goals try simp (disch := omega) only [IntWalk.i64_in]
        all_goals first
          | rfl
      refine fac_quiet 6 rfl rfl rfl (fun _ _ h _ => h) rfl rfl ?_
      apply Exists.intro
      refine ⟨fun sv w' hw' hfa => ?_, ?_⟩
      · obtain ⟨f0, f1, f2, f3, f4, f5, -⟩ := hfa
        replace f0 : sv 0 = _ := f0; (try dsimp only at f0); replace f1 : sv 1 = _ := f1; (try dsimp only at f1); replace f2 : sv 2 = _ := f2; (try dsimp only at f2); replace f3 : sv 3 = _ := f3; (try dsimp only at f3); replace f4 : sv 4 = _ := f4; (try dsimp only at f4); replace f5 : sv 5 = _ := f5; (try dsimp only at f5)
        have hk9 := (Ext.refl w2).drew.trans hw'; obtain ⟨y1, -⟩ := (hX3.ext hk9).walk; obtain ⟨y2, -⟩ := (hY2.ext hk9).walk; obtain ⟨hc9, hff, hz9⟩ := hk9.walk; have v1 := (hc9 _ _ hwl).trans d1
        refine ⟨rfl, ?_⟩
        simp only [putsL]
        change quietTo _ _ _ _ (Sem.run _ (execOp (Act.eval (Act.put (Act.put (Act.put (Act.put (Act.put (Act.put _ (some 44) (sv 5)) (some 43) (sv 4)) (some 42) (sv 3)) (some 41) (sv 2)) (some 40) (sv 1)) (some 39) (sv 0))) _) _)
        try simp only [Act.put, sIA, sCS, sCZ]
        simp [go_sem, quietTo, Ext.refl, ↓IntWalk.iteOmega, f1, f5]
        all_goals try simp (disch := omega) only [IntWalk.i64_in]
        all_goals first
          | rfl
          | (exact ho1.out _)
      refine fac_quiet 7 rfl rfl rfl (fun _ _ h _ => h) rfl rfl ?_
      apply Exists.intro
      refine ⟨fun sv w' hw' hfa => ?_, ?_⟩
      · obtain ⟨_, _, _, _, _, _, f6, -⟩ := hfa
        replace f6 : sv 6 = _ := f6; (try dsimp only at f6)
        refine ⟨rfl, ?_⟩
        simp only [putsL]
        change quietTo _ _ _ _ (Sem.run _ (execOp (Act.eval (Act.put (Act.put (Act.put (Act.put (Act.put (Act.put (Act.put _ (some 45) (sv 6)) (some 44) (sv 5)) (some 43) (sv 4)) (some 42) (sv 3)) (some 41) (sv 2)) (some 40) (sv 1)) (some 39) (sv 0))) _) _)
        try simp only [Act.put, sIA, sCS, sCZ]
        simp [go_sem, quietTo, Ext.refl, f6]
        all_goals first
          | rfl
      refine fac_quiet 8 rfl rfl rfl (fun _ _ h _ => h) rfl rfl ?_
      apply Exists.intro
      refine ⟨fun sv w' hw' hfa => ?_, ?_⟩
      · obtain ⟨_, _, _, _, _, _, _, f7, -⟩ := hfa
        replace f7 : sv 7 = _ := f7; (try dsimp only at f7)
        refine ⟨by simp [Region.wanted, yielded, putsL, Act.put, f7], ?_⟩
        simp only [putsL]
        change quietTo _ _ _ _ (Sem.run _ (execOp (Act.eval (Act.put (Act.put (Act.put (Act.put (Act.put (Act.put (Act.put (Act.put _ (some 46) (sv 7)) (some 45) (sv 6)) (some 44) (sv 5)) (some 43) (sv 4)) (some 42) (sv 3)) (some 41) (sv 2)) (some 40) (sv 1)) (some 39) (sv 0))) _) _)
        try simp only [Act.put, sIA, sCS, sCZ]
        simp [go_sem, quietTo, Ext.refl, f7]
        all_goals first
          | rfl
      refine fac_quiet 9 rfl rfl rfl (fun _ _ h _ => h) rfl rfl ?_
      apply Exists.intro
      refine ⟨fun sv w' hw' hfa => ?_, ?_⟩
      · obtain ⟨_, _, _, _, _, _, _, f7, f8, -⟩ := hfa
        replace f7 : sv 7 = _ := f7; (try dsimp only at f7); replace f8 : sv 8 = _ := f8; (try dsimp only at f8)
        have hk9 := (Ext.refl w2).drew.trans hw'; obtain ⟨y1, -⟩ := (hX3.ext hk9).walk; obtain ⟨y2, -⟩ := (hY2.ext hk9).walk; obtain ⟨hc9, hff, hz9⟩ := hk9.walk; have v1 := (hc9 _ _ hwl).trans d1
        refine ⟨by simp [Region.wanted, yielded, putsL, Act.put, f7, f8], ?_⟩
        simp only [putsL]
        change quietTo _ _ _ _ (Sem.run _ (execOp (Act.eval (Act.put (Act.put (Act.put (Act.put (Act.put (Act.put (Act.put (Act.put (Act.put _ (some 47) (sv 8)) (some 46) (sv 7)) (some 45) (sv 6)) (some 44) (sv 5)) (some 43) (sv 4)) (some 42) (sv 3)) (some 41) (sv 2)) (some 40) (sv 1)) (some 39) (sv 0))) _) _)
        try simp only [Act.put, sIA, sCS, sCZ]
        simp [go_sem, quietTo, Ext.refl, ↓IntWalk.iteOmega, f7, f8, y2]
        all_goals try simp (disch := omega) only [IntWalk.i64_in]
        all_goals first
          | rfl
      refine fac_quiet 10 rfl rfl rfl (fun _ _ h _ => h) rfl rfl ?_
      apply Exists.intro
      refine ⟨fun sv w' hw' hfa => ?_, ?_⟩
      · obtain ⟨_, _, _, _, _, _, _, f7, -⟩ := hfa
        replace f7 : sv 7 = _ := f7; (try dsimp only at f7)
        refine ⟨by simp [Region.wanted, yielded, putsL, Act.put, f7], ?_⟩
        simp only [putsL]
        change quietTo _ _ _ _ (Sem.run _ (execOp (Act.eval (Act.put (Act.put (Act.put (Act.put (Act.put (Act.put (Act.put (Act.put _ (some 46) (sv 7)) (some 45) (sv 6)) (some 44) (sv 5)) (some 43) (sv 4)) (some 42) (sv 3)) (some 41) (sv 2)) (some 40) (sv 1)) (some 39) (sv 0))) _) _)
        try simp only [Act.put, sIA, sCS, sCZ]
        simp [go_sem, quietTo, Ext.refl, f7]
        all_goals first
          | rfl
      refine fac_quiet 11 rfl rfl rfl (fun _ _ h _ => h) rfl rfl ?_
      apply Exists.intro
      refine ⟨fun sv w' hw' hfa => ?_, ?_⟩
      · obtain ⟨_, _, _, _, _, _, _, f7, f10, -⟩ := hfa
        replace f7 : sv 7 = _ := f7; (try dsimp only at f7); replace f10 : sv 10 = _ := f10; (try dsimp only at f10)
        have hk9 := (Ext.refl w2).drew.trans hw'; obtain ⟨y1, -⟩ := (hX3.ext hk9).walk; obtain ⟨y2, -⟩ := (hY2.ext hk9).walk; obtain ⟨hc9, hff, hz9⟩ := hk9.walk; have v1 := (hc9 _ _ hwl).trans d1
        refine ⟨by simp [Region.wanted, yielded, putsL, Act.put, f7, f10], ?_⟩
        simp only [putsL]
        change quietTo _ _ _ _ (Sem.run _ (execOp (Act.eval (Act.put (Act.put (Act.put (Act.put (Act.put (Act.put (Act.put (Act.put (Act.put _ (some 49) (sv 10)) (some 46) (sv 7)) (some 45) (sv 6)) (some 44) (sv 5)) (some 43) (sv 4)) (some 42) (sv 3)) (some 41) (sv 2)) (some 40) (sv 1)) (some 39) (sv 0))) _) _)
        try simp only [Act.put, sIA, sCS, sCZ]
        simp [go_sem, quietTo, Ext.refl, ↓IntWalk.iteOmega, f7, f10, y1]
        all_goals try simp (disch := omega) only [IntWalk.i64_in]
        all_goals first
          | rfl
      refine fac_quiet 12 rfl rfl rfl (fun _ _ h _ => h) rfl rfl ?_
      apply Exists.intro
      refine ⟨fun sv w' hw' hfa => ?_, ?_⟩
      · obtain ⟨_, _, _, _, _, _, _, f7, -⟩ := hfa
        replace f7 : sv 7 = _ := f7; (try dsimp only at f7)
        refine ⟨by simp [Region.wanted, yielded, putsL, Act.put, f7], ?_⟩
        simp only [putsL]
        change quietTo _ _ _ _ (Sem.run _ (execOp (Act.eval (Act.put (Act.put (Act.put (Act.put (Act.put (Act.put (Act.put (Act.put _ (some 46) (sv 7)) (some 45) (sv 6)) (some 44) (sv 5)) (some 43) (sv 4)) (some 42) (sv 3)) (some 41) (sv 2)) (some 40) (sv 1)) (some 39) (sv 0))) _) _)
        try simp only [Act.put, sIA, sCS, sCZ]
        simp [go_sem, quietTo, Ext.refl, f7]
        all_goals first
          | rfl
      refine fac_quiet 13 rfl rfl rfl (fun _ _ h _ => h) rfl rfl ?_
      apply Exists.intro
      refine ⟨fun sv w' hw' hfa => ?_, ?_⟩
      · obtain ⟨_, _, _, _, _, _, _, f7, f12, -⟩ := hfa
        replace f7 : sv 7 = _ := f7; (try dsimp only at f7); replace f12 : sv 12 = _ := f12; (try dsimp only at f12)
        have hk9 := (Ext.refl w2).drew.trans hw'; obtain ⟨y1, -⟩ := (hX3.ext hk9).walk; obtain ⟨y2, -⟩ := (hY2.ext hk9).walk; obtain ⟨hc9, hff, hz9⟩ := hk9.walk; have v1 := (hc9 _ _ hwl).trans d1
        refine ⟨by simp [Region.wanted, yielded, putsL, Act.put, f7, f12], ?_⟩
        simp only [putsL]
        change quietTo _ _ _ _ (Sem.run _ (execOp (Act.eval (Act.put (Act.put (Act.put (Act.put (Act.put (Act.put (Act.put (Act.put (Act.put _ (some 51) (sv 12)) (some 46) (sv 7)) (some 45) (sv 6)) (some 44) (sv 5)) (some 43) (sv 4)) (some 42) (sv 3)) (some 41) (sv 2)) (some 40) (sv 1)) (some 39) (sv 0))) _) _)
        try simp only [Act.put, sIA, sCS, sCZ]
        simp [go_sem, quietTo, Ext.refl, ↓IntWalk.iteOmega, f7, f12, y2]
        all_goals try simp (disch := omega) only [IntWalk.i64_in]
        all_goals first
          | rfl
      refine fac_quiet 14 rfl rfl rfl (fun _ _ h _ => h) rfl rfl ?_
      apply Exists.intro
      refine ⟨fun sv w' hw' hfa => ?_, ?_⟩
      · obtain ⟨_, _, _, _, _, _, _, f7, _, f11, _, f13, -⟩ := hfa
        replace f7 : sv 7 = _ := f7; (try dsimp only at f7); replace f11 : sv 11 = _ := f11; (try dsimp only at f11); replace f13 : sv 13 = _ := f13; (try dsimp only at f13)
        have hk9 := (Ext.refl w2).drew.trans hw'; obtain ⟨y1, -⟩ := (hX3.ext hk9).walk; obtain ⟨y2, -⟩ := (hY2.ext hk9).walk; obtain ⟨hc9, hff, hz9⟩ := hk9.walk; have v1 := (hc9 _ _ hwl).trans d1
        refine ⟨by simp [Region.wanted, yielded, putsL, Act.put, f7, f11, f13], ?_⟩
        simp only [putsL]
        change quietTo _ _ _ _ (Sem.run _ (execOp (Act.eval (Act.put (Act.put (Act.put (Act.put (Act.put (Act.put (Act.put (Act.put (Act.put (Act.put (Act.put (Act.put _ (some 52) (sv 13)) (some 51) (sv 12)) (some 50) (sv 11)) (some 49) (sv 10)) (some 46) (sv 7)) (some 45) (sv 6)) (some 44) (sv 5)) (some 43) (sv 4)) (some 42) (sv 3)) (some 41) (sv 2)) (some 40) (sv 1)) (some 39) (sv 0))) _) _)
        try simp only [Act.put, sIA, sCS, sCZ]
        simp [go_sem, quietTo, Ext.refl, ↓IntWalk.iteOmega, f7, f11, f13, hrI]
        all_goals try simp (disch := omega) only [IntWalk.i64_in]
        all_goals first
          | rfl
      refine fac_quiet 15 rfl rfl rfl (fun _ _ h _ => h) rfl rfl ?_
      apply Exists.intro
      refine ⟨fun sv w' hw' hfa => ?_, ?_⟩
      · obtain ⟨_, _, _, _, _, _, _, f7, _, _, _, _, f14, -⟩ := hfa
        replace f7 : sv 7 = _ := f7; (try dsimp only at f7); replace f14 : sv 14 = _ := f14; (try dsimp only at f14)
        have hk9 := (Ext.refl w2).drew.trans hw'; obtain ⟨y1, -⟩ := (hX3.ext hk9).walk; obtain ⟨y2, -⟩ := (hY2.ext hk9).walk; obtain ⟨hc9, hff, hz9⟩ := hk9.walk; have v1 := (hc9 _ _ hwl).trans d1
        refine ⟨by simp [Region.wanted, yielded, putsL, Act.put, f7, f14], ?_⟩
        simp only [putsL]
        change quietTo _ _ _ _ (Sem.run _ (execOp (Act.eval (Act.put (Act.put (Act.put (Act.put (Act.put (Act.put (Act.put (Act.put (Act.put (Act.put (Act.put (Act.put (Act.put _ (some 53) (sv 14)) (some 52) (sv 13)) (some 51) (sv 12)) (some 50) (sv 11)) (some 49) (sv 10)) (some 46) (sv 7)) (some 45) (sv 6)) (some 44) (sv 5)) (some 43) (sv 4)) (some 42) (sv 3)) (some 41) (sv 2)) (some 40) (sv 1)) (some 39) (sv 0))) _) _)
        try simp only [Act.put, sIA, sCS, sCZ]
        simp [go_sem, quietTo, Ext.refl, ↓IntWalk.iteOmega, f7, f14, v1]
        all_goals try simp (disch := omega) only [IntWalk.i64_in]
        all_goals first
          | rfl
      refine fac_quiet 16 rfl rfl rfl (fun _ _ h _ => h) rfl rfl ?_
      apply Exists.intro
      refine ⟨fun sv w' hw' hfa => ?_, ?_⟩
      · obtain ⟨_, _, _, _, _, _, _, f7, _, _, _, _, _, f15, -⟩ := hfa
        replace f7 : sv 7 = _ := f7; (try dsimp only at f7); replace f15 : sv 15 = _ := f15; (try dsimp only at f15)
        refine ⟨by simp [Region.wanted, yielded, putsL, Act.put, f7, f15], ?_⟩
        simp only [putsL]
        change quietTo _ _ _ _ (Sem.run _ (execOp (Act.eval (Act.put (Act.put (Act.put (Act.put (Act.put (Act.put (Act.put (Act.put (Act.put (Act.put (Act.put (Act.put (Act.put (Act.put _ (some 54) (sv 15)) (some 53) (sv 14)) (some 52) (sv 13)) (some 51) (sv 12)) (some 50) (sv 11)) (some 49) (sv 10)) (some 46) (sv 7)) (some 45) (sv 6)) (some 44) (sv 5)) (some 43) (sv 4)) (some 42) (sv 3)) (some 41) (sv 2)) (some 40) (sv 1)) (some 39) (sv 0))) _) _)
        try simp only [Act.put, sIA, sCS, sCZ]
        simp [go_sem, quietTo, Ext.refl, ↓IntWalk.iteOmega, f7, f15]
        all_goals try simp (disch := omega) only [IntWalk.i64_in]
        all_goals first
          | rfl
      refine fac_quiet 17 rfl rfl rfl (fun _ _ h _ => h) rfl rfl ?_
      apply Exists.intro
      refine ⟨fun sv w' hw' hfa => ?_, ?_⟩
      · obtain ⟨f0, f1, f2, f3, f4, f5, f6, f7, f8, f9, f10, f11, f12, f13, f14, f15, f16, -⟩ := hfa
        replace f0 : sv 0 = _ := f0; (try dsimp only at f0); replace f1 : sv 1 = _ := f1; (try dsimp only at f1); replace f2 : sv 2 = _ := f2; (try dsimp only at f2); replace f3 : sv 3 = _ := f3; (try dsimp only at f3); replace f4 : sv 4 = _ := f4; (try dsimp only at f4); replace f5 : sv 5 = _ := f5; (try dsimp only at f5); replace f6 : sv 6 = _ := f6; (try dsimp only at f6)
        replace f7 : sv 7 = _ := f7; (try dsimp only at f7); replace f8 : sv 8 = _ := f8; (try dsimp only at f8); replace f9 : sv 9 = _ := f9; (try dsimp only at f9); replace f10 : sv 10 = _ := f10; (try dsimp only at f10); replace f11 : sv 11 = _ := f11; (try dsimp only at f11); replace f12 : sv 12 = _ := f12; (try dsimp only at f12); replace f13 : sv 13 = _ := f13; (try dsimp only at f13)
        replace f14 : sv 14 = _ := f14; (try dsimp only at f14); replace f15 : sv 15 = _ := f15; (try dsimp only at f15); replace f16 : sv 16 = _ := f16; (try dsimp only at f16)
        have hk9 := (Ext.refl w2).drew.trans hw'; obtain ⟨y1, -⟩ := (hX3.ext hk9).walk; obtain ⟨y2, -⟩ := (hY2.ext hk9).walk; obtain ⟨hc9, hff, hz9⟩ := hk9.walk; have v1 := (hc9 _ _ hwl).trans d1
        refine ⟨by simp [Region.wanted, yielded, putsL, Act.put, f7, f9, f16], ?_⟩
        simp only [putsL]
        change quietTo _ _ _ _ (Sem.run _ (execOp (Act.eval (Act.put (Act.put (Act.put (Act.put (Act.put (Act.put (Act.put (Act.put (Act.put (Act.put (Act.put (Act.put (Act.put (Act.put (Act.put (Act.put (Act.put _ (some 55) (sv 16)) (some 54) (sv 15)) (some 53) (sv 14)) (some 52) (sv 13)) (some 51) (sv 12)) (some 50) (sv 11)) (some 49) (sv 10)) (some 48) (sv 9)) (some 47) (sv 8)) (some 46) (sv 7)) (some 45) (sv 6)) (some 44) (sv 5)) (some 43) (sv 4)) (some 42) (sv 3)) (some 41) (sv 2)) (some 40) (sv 1)) (some 39) (sv 0))) _) _)
        try simp only [Act.put, sIA, sCS, sCZ]
        simp [go_sem, quietTo, Ext.refl, ↓IntWalk.iteOmega, f7, f9, f16]
        all_goals try simp (disch := omega) only [IntWalk.i64_in]
        all_goals first
          | rfl
          | (exact ho2.out _)
      refine fac_quiet 18 rfl rfl rfl (fun _ _ h _ => h) rfl rfl ?_
      apply Exists.intro
      refine ⟨fun sv w' hw' hfa => ?_, ?_⟩
      · obtain ⟨_, _, _, _, _, _, _, f7, _, _, _, _, _, _, _, _, _, f17, -⟩ := hfa
        replace f7 : sv 7 = _ := f7; (try dsimp only at f7); replace f17 : sv 17 = _ := f17; (try dsimp only at f17)
        refine ⟨rfl, ?_⟩
        simp only [putsL]
        change quietTo _ _ _ _ (Sem.run _ (execOp (Act.eval (Act.put (Act.put (Act.put (Act.put (Act.put (Act.put (Act.put (Act.put (Act.put (Act.put (Act.put (Act.put (Act.put (Act.put (Act.put (Act.put (Act.put (Act.put _ (some 56) (sv 17)) (some 55) (sv 16)) (some 54) (sv 15)) (some 53) (sv 14)) (some 52) (sv 13)) (some 51) (sv 12)) (some 50) (sv 11)) (some 49) (sv 10)) (some 48) (sv 9)) (some 47) (sv 8)) (some 46) (sv 7)) (some 45) (sv 6)) (some 44) (sv 5)) (some 43) (sv 4)) (some 42) (sv 3)) (some 41) (sv 2)) (some 40) (sv 1)) (some 39) (sv 0))) _) _)
        try simp only [Act.put, sIA, sCS, sCZ]
        simp [go_sem, quietTo, Ext.refl, ↓IntWalk.iteOmega, f7, f17]
        all_goals try simp (disch := omega) only [IntWalk.i64_in]
        all_goals first
          | rfl
      refine fac_nil fun xq wrq herq hfrq hcrq holdq hapq => ?_
      obtain ⟨f0, f1, f2, f3, f4, f5, f6, f7, f8, f9, f10, f11, f12, f13, f14, f15, f16, f17, f18, -⟩ := hfrq
      replace f0 : xq 0 = _ := f0
      (try dsimp only at f0)
      replace f1 : xq 1 = _ := f1
      (try dsimp only at f1)
      replace f2 : xq 2 = _ := f2
      (try dsimp only at f2)
      replace f3 : xq 3 = _ := f3
      (try dsimp only at f3)
      replace f4 : xq 4 = _ := f4
      (try dsimp only at f4)
      replace f5 : xq 5 = _ := f5
      (try dsimp only at f5)
      replace f6 : xq 6 = _ := f6
      (try dsimp only at f6)
      replace f7 : xq 7 = _ := f7
      (try dsimp only at f7)
      replace f8 : xq 8 = _ := f8
      (try dsimp only at f8)
      replace f9 : xq 9 = _ := f9
      (try dsimp only at f9)
      replace f10 : xq 10 = _ := f10
      (try dsimp only at f10)
      replace f11 : xq 11 = _ := f11
      (try dsimp only at f11)
      replace f12 : xq 12 = _ := f12
      (try dsimp only at f12)
      replace f13 : xq 13 = _ := f13
      (try dsimp only at f13)
      replace f14 : xq 14 = _ := f14
      (try dsimp only at f14)
      replace f15 : xq 15 = _ := f15
      (try dsimp only at f15)
      replace f16 : xq 16 = _ := f16
      (try dsimp only at f16)
      replace f17 : xq 17 = _ := f17
      (try dsimp only at f17)
      replace f18 : xq 18 = _ := f18
      (try dsimp only at f18)
      change wpList _ _ _ _ (Act.put (Act.put (Act.put (Act.put (Act.put (Act.put (Act.put (Act.put (Act.put (Act.put (Act.put (Act.put (Act.put (Act.put (Act.put (Act.put (Act.put (Act.put (Act.put _ (some 39) (xq 0)) (some 40) (xq 1)) (some 41) (xq 2)) (some 42) (xq 3)) (some 43) (xq 4)) (some 44) (xq 5)) (some 45) (xq 6)) (some 46) (xq 7)) (some 47) (xq 8)) (some 48) (xq 9)) (some 49) (xq 10)) (some 50) (xq 11)) (some 51) (xq 12)) (some 52) (xq 13)) (some 53) (xq 14)) (some 54) (xq 15)) (some 55) (xq 16)) (some 56) (xq 17)) (some 57) (xq 18)) _
      simp only [putsL, Nat.reduceAdd, List.drop_succ_cons, List.drop_zero, List.drop_nil, Act.put, sIA, sCS, sCZ]
      try simp only [f0, f1, f2, f3, f4, f5, f6, f7, f8, f9, f10, f11, f12, f13, f14, f15, f16, f17, f18]
      clear f0 f1 f2 f3 f4 f5 f6 f7 f8 f9 f10 f11 f12 f13 f14 f15 f16 f17 f18; clear holdq hapq
      have hkq := (Ext.refl w2).drew.trans herq
      have hYq := hY2.ext hkq
      have hE3 := hE2.trans hkq
      have hk3 := hk2.trans hkq
      clear ho1 ho2 d1 hX3
      go_upto_region 14 with fail
      rcases Nat.eq_zero_or_pos k with hk0 | hk0
      · subst hk0
        have hz0 : ((0 : Nat) : Int) = 0 := rfl
        refine wp_region_facts [] [([], false, false), ([0], false, false), ([0, 1], false, false), ([0, 1, 2], false, false), ([0, 1, 2], false, false), ([0, 1, 2, 4], false, false), ([0, 1, 2, 3, 4, 5], false, false), ([0, 1, 2, 3, 4, 5, 6], false, false), ([0, 1, 2], false, false), ([0, 1, 2, 3, 4, 5, 6, 7, 8], false, false), ([0, 1, 2, 3, 4, 5, 6, 7, 8, 9], false, false), ([0, 1, 2, 3, 4, 5, 6, 7, 8, 9, 10], false, false)] (Ext) Ext (fun _ => True) (by kernel_rfl) (by kernel_rfl) Ext.refl (fun _ _ _ => Ext.trans) (fun _ _ h => h) (fun _ _ h => h.size) (fun _ _ h _ => h) trivial ?_
        dsimp only [List.length_cons, List.length_nil, List.drop_succ_cons, List.drop_zero, List.drop_nil]
        refine fac_quiet 0 rfl rfl rfl (fun _ _ h _ => h) rfl rfl ?_
        apply Exists.intro
        refine ⟨fun sv w' hw' hfa => ?_, ?_⟩
        · refine ⟨rfl, ?_⟩
          simp only [putsL]
          change quietTo _ _ _ _ (Sem.run _ (execOp (Act.eval _) _) _)
          try simp only [Act.put, sIA, sCS, sCZ]
          simp [go_sem, quietTo, Ext.refl]
          all_goals first
            | rfl
        refine fac_quiet 1 rfl rfl rfl (fun _ _ h _ => h) rfl rfl ?_
        apply Exists.intro
        refine ⟨fun sv w' hw' hfa => ?_, ?_⟩
        · obtain ⟨f0, -⟩ := hfa
          replace f0 : sv 0 = _ := f0; (try dsimp only at f0)
          refine ⟨rfl, ?_⟩
          simp only [putsL]
          change quietTo _ _ _ _ (Sem.run _ (execOp (Act.eval (Act.put _ (some 58) (sv 0))) _) _)
          try simp only [Act.put, sIA, sCS, sCZ]
          simp [go_sem, quietTo, Ext.refl, ↓IntWalk.iteOmega, f0, hz0]
          all_goals try simp (disch := omega) only [IntWalk.i64_in]
          all_goals first
            | rfl
        refine fac_quiet 2 rfl rfl rfl (fun _ _ h _ => h) rfl rfl ?_
        apply Exists.intro
        refine ⟨fun sv w' hw' hfa => ?_, ?_⟩
        · obtain ⟨_, f1, -⟩ := hfa
          replace f1 : sv 1 = _ := f1; (try dsimp only at f1)
          refine ⟨rfl, ?_⟩
          simp only [putsL]
          change quietTo _ _ _ _ (Sem.run _ (execOp (Act.eval (Act.put (Act.put _ (some 59) (sv 1)) (some 58) (sv 0))) _) _)
          try simp only [Act.put, sIA, sCS, sCZ]
          simp [go_sem, quietTo, Ext.refl, f1]
          all_goals first
            | rfl
        refine fac_skip 3 rfl rfl rfl (fun _ _ h _ => h) Ext.refl ?_ ?_
        · intro sv w' hw' hfa
          obtain ⟨f0, f1, f2, -⟩ := hfa
          replace f0 : sv 0 = _ := f0; (try dsimp only at f0); replace f1 : sv 1 = _ := f1; (try dsimp only at f1); replace f2 : sv 2 = _ := f2; (try dsimp only at f2)
          simp [Region.wanted, yielded, putsL, Act.put, f2]
        refine fac_skip 4 rfl rfl rfl (fun _ _ h _ => h) Ext.refl ?_ ?_
        · intro sv w' hw' hfa
          obtain ⟨f0, f1, f2, -⟩ := hfa
          replace f0 : sv 0 = _ := f0; (try dsimp only at f0); replace f1 : sv 1 = _ := f1; (try dsimp only at f1); replace f2 : sv 2 = _ := f2; (try dsimp only at f2)
          simp [Region.wanted, yielded, putsL, Act.put, f2]
        refine fac_skip 5 rfl rfl rfl (fun _ _ h _ => h) Ext.refl ?_ ?_
        · intro sv w' hw' hfa
          obtain ⟨f0, f1, f2, f4, -⟩ := hfa
          replace f0 : sv 0 = _ := f0; (try dsimp only at f0); replace f1 : sv 1 = _ := f1; (try dsimp only at f1); replace f2 : sv 2 = _ := f2; (try dsimp only at f2); replace f4 : sv 4 = _ := f4; (try dsimp only at f4)
          simp [Region.wanted, yielded, putsL, Act.put, f2, f4]
        refine fac_skip 6 rfl rfl rfl (fun _ _ h _ => h) Ext.refl ?_ ?_
        · intro sv w' hw' hfa
          obtain ⟨f0, f1, f2, f3, f4, f5, -⟩ := hfa
          replace f0 : sv 0 = _ := f0; (try dsimp only at f0); replace f1 : sv 1 = _ := f1; (try dsimp only at f1); replace f2 : sv 2 = _ := f2; (try dsimp only at f2); replace f3 : sv 3 = _ := f3; (try dsimp only at f3); replace f4 : sv 4 = _ := f4; (try dsimp only at f4); replace f5 : sv 5 = _ := f5; (try dsimp only at f5)
          simp [Region.wanted, yielded, putsL, Act.put, f2, f3, f5]
        refine fac_skip 7 rfl rfl rfl (fun _ _ h _ => h) Ext.refl ?_ ?_
        · intro sv w' hw' hfa
          obtain ⟨f0, f1, f2, f3, f4, f5, f6, -⟩ := hfa
          replace f0 : sv 0 = _ := f0; (try dsimp only at f0); replace f1 : sv 1 = _ := f1; (try dsimp only at f1); replace f2 : sv 2 = _ := f2; (try dsimp only at f2); replace f3 : sv 3 = _ := f3; (try dsimp only at f3); replace f4 : sv 4 = _ := f4; (try dsimp only at f4); replace f5 : sv 5 = _ := f5; (try dsimp only at f5); replace f6 : sv 6 = _ := f6; (try dsimp only at f6)
          simp [Region.wanted, yielded, putsL, Act.put, f2, f6]
        refine fac_skip 8 rfl rfl rfl (fun _ _ h _ => h) Ext.refl ?_ ?_
        · intro sv w' hw' hfa
          obtain ⟨f0, f1, f2, -⟩ := hfa
          replace f0 : sv 0 = _ := f0; (try dsimp only at f0); replace f1 : sv 1 = _ := f1; (try dsimp only at f1); replace f2 : sv 2 = _ := f2; (try dsimp only at f2)
          simp [Region.wanted, yielded, putsL, Act.put, f2]
        refine fac_skip 9 rfl rfl rfl (fun _ _ h _ => h) Ext.refl ?_ ?_
        · intro sv w' hw' hfa
          obtain ⟨f0, f1, f2, f3, f4, f5, f6, f7, f8, -⟩ := hfa
          replace f0 : sv 0 = _ := f0; (try dsimp only at f0); replace f1 : sv 1 = _ := f1; (try dsimp only at f1); replace f2 : sv 2 = _ := f2; (try dsimp only at f2); replace f3 : sv 3 = _ := f3; (try dsimp only at f3); replace f4 : sv 4 = _ := f4; (try dsimp only at f4); replace f5 : sv 5 = _ := f5; (try dsimp only at f5); replace f6 : sv 6 = _ := f6; (try dsimp only at f6)
          replace f7 : sv 7 = _ := f7; (try dsimp only at f7); replace f8 : sv 8 = _ := f8; (try dsimp only at f8)
          simp [Region.wanted, yielded, putsL, Act.put, f2, f7, f8]
        refine fac_skip 10 rfl rfl rfl (fun _ _ h _ => h) Ext.refl ?_ ?_
        · intro sv w' hw' hfa
          obtain ⟨f0, f1, f2, f3, f4, f5, f6, f7, f8, f9, -⟩ := hfa
          replace f0 : sv 0 = _ := f0; (try dsimp only at f0); replace f1 : sv 1 = _ := f1; (try dsimp only at f1); replace f2 : sv 2 = _ := f2; (try dsimp only at f2); replace f3 : sv 3 = _ := f3; (try dsimp only at f3); replace f4 : sv 4 = _ := f4; (try dsimp only at f4); replace f5 : sv 5 = _ := f5; (try dsimp only at f5); replace f6 : sv 6 = _ := f6; (try dsimp only at f6)
          replace f7 : sv 7 = _ := f7; (try dsimp only at f7); replace f8 : sv 8 = _ := f8; (try dsimp only at f8); replace f9 : sv 9 = _ := f9; (try dsimp only at f9)
          simp [Region.wanted, yielded, putsL, Act.put, f2, f9]
        refine fac_quiet 11 rfl rfl rfl (fun _ _ h _ => h) rfl rfl ?_
        apply Exists.intro
        refine ⟨fun sv w' hw' hfa => ?_, ?_⟩
        · obtain ⟨_, _, f2, _, _, _, _, _, _, _, f10, -⟩ := hfa
          replace f2 : sv 2 = _ := f2; (try dsimp only at f2); replace f10 : sv 10 = _ := f10; (try dsimp only at f10)
          refine ⟨rfl, ?_⟩
          simp only [putsL]
          change quietTo _ _ _ _ (Sem.run _ (execOp (Act.eval (Act.put (Act.put (Act.put (Act.put (Act.put (Act.put (Act.put (Act.put (Act.put (Act.put (Act.put _ (some 68) (sv 10)) (some 67) (sv 9)) (some 66) (sv 8)) (some 65) (sv 7)) (some 64) (sv 6)) (some 63) (sv 5)) (some 62) (sv 4)) (some 61) (sv 3)) (some 60) (sv 2)) (some 59) (sv 1)) (some 58) (sv 0))) _) _)
          try simp only [Act.put, sIA, sCS, sCZ]
          simp [go_sem, quietTo, Ext.refl, ↓IntWalk.iteOmega, f2, f10]
          all_goals try simp (disch := omega) only [IntWalk.i64_in]
          all_goals first
            | rfl
        refine fac_nil fun xa wra hera hfra hcra holda hapa => ?_
        obtain ⟨f0, f1, f2, f3, f4, f5, f6, f7, f8, f9, f10, f11, -⟩ := hfra
        replace f0 : xa 0 = _ := f0
        (try dsimp only at f0)
        replace f1 : xa 1 = _ := f1
        (try dsimp only at f1)
        replace f2 : xa 2 = _ := f2
        (try dsimp only at f2)
        replace f3 : xa 3 = _ := f3
        (try dsimp only at f3)
        replace f4 : xa 4 = _ := f4
        (try dsimp only at f4)
        replace f5 : xa 5 = _ := f5
        (try dsimp only at f5)
        replace f6 : xa 6 = _ := f6
        (try dsimp only at f6)
        replace f7 : xa 7 = _ := f7
        (try dsimp only at f7)
        replace f8 : xa 8 = _ := f8
        (try dsimp only at f8)
        replace f9 : xa 9 = _ := f9
        (try dsimp only at f9)
        replace f10 : xa 10 = _ := f10
        (try dsimp only at f10)
        replace f11 : xa 11 = _ := f11
        (try dsimp only at f11)
        change wpList _ _ _ _ (Act.put (Act.put (Act.put (Act.put (Act.put (Act.put (Act.put (Act.put (Act.put (Act.put (Act.put (Act.put _ (some 58) (xa 0)) (some 59) (xa 1)) (some 60) (xa 2)) (some 61) (xa 3)) (some 62) (xa 4)) (some 63) (xa 5)) (some 64) (xa 6)) (some 65) (xa 7)) (some 66) (xa 8)) (some 67) (xa 9)) (some 68) (xa 10)) (some 69) (xa 11)) _
        simp only [putsL, Nat.reduceAdd, List.drop_succ_cons, List.drop_zero, List.drop_nil, Act.put, sIA, sCS, sCZ]
        try simp only [f0, f1, f2, f3, f4, f5, f6, f7, f8, f9, f10, f11]
        clear f0 f1 f2 f3 f4 f5 f6 f7 f8 f9 f10 f11; clear holda hapa
        go_wp2
        go_roundw
        case rel => exact ⟨1, rfl, by omega, hz.succ (by rw [hv.out, hh, hr1, hr2]; rfl), (hE.trans hk3).trans ((Ext.refl _).drew.trans hera)⟩
        case measure => simp [intOf]; omega
      · obtain ⟨j, rfl⟩ : ∃ j, k = j + 1 := ⟨k - 1, by omega⟩
        obtain ⟨y, hy⟩ := getD_some (rfl : S.length = S.length) (show j < S.length by omega)
        obtain ⟨d0, d1, d2⟩ := hprev.out j y rfl hy
        have hat : atL default S (j + 1 - 1) = y := by rw [Nat.add_sub_cancel]; exact atL_of hy
        rw [hat] at hv
        have hwj : IntKind.i64.wrap (j : Int) = j := IntWalk.i64_in _ (by omega)
        have hjl : (j : Int) < S.length := by omega
        have hj0 : 0 < (j : Int) + 1 := by omega
        have hcm := fun u => compareSt_any y x u
        rw [hr] at hcm
        generalize cmpV y x = cv at *
        replace hcm := Lib.hid hcm; clear hat hy hprev
        by_cases hcv : 0 ≤ cv
        all_goals
          refine wp_region_facts [] [([], false, false), ([0], false, false), ([0, 1], false, false), ([0, 1, 2], false, false), ([0, 1, 2], false, false), ([0, 1, 2, 4], false, false), ([0, 1, 2, 3, 4, 5], false, false), ([0, 1, 2, 3, 4, 5, 6], false, false), ([0, 1, 2], false, false), ([0, 1, 2, 3, 4, 5, 6, 7, 8], false, false), ([0, 1, 2, 3, 4, 5, 6, 7, 8, 9], false, false), ([0, 1, 2, 3, 4, 5, 6, 7, 8, 9, 10], false, false)] (Ext) Ext (fun _ => True) (by kernel_rfl) (by kernel_rfl) Ext.refl (fun _ _ _ => Ext.trans) (fun _ _ h => h) (fun _ _ h => h.size) (fun _ _ h _ => h) trivial ?_
          dsimp only [List.length_cons, List.length_nil, List.drop_succ_cons, List.drop_zero, List.drop_nil]
          refine fac_quiet 0 rfl rfl rfl (fun _ _ h _ => h) rfl rfl ?_
          apply Exists.intro
          refine ⟨fun sv w' hw' hfa => ?_, ?_⟩
          · refine ⟨rfl, ?_⟩
            simp only [putsL]
            change quietTo _ _ _ _ (Sem.run _ (execOp (Act.eval _) _) _)
            try simp only [Act.put, sIA, sCS, sCZ]
            simp [go_sem, quietTo, Ext.refl]
            all_goals first
              | rfl
          refine fac_quiet 1 rfl rfl rfl (fun _ _ h _ => h) rfl rfl ?_
          apply Exists.intro
          refine ⟨fun sv w' hw' hfa => ?_, ?_⟩
          · obtain ⟨f0, -⟩ := hfa
            replace f0 : sv 0 = _ := f0; (try dsimp only at f0)
            obtain ⟨hc, hf, hz9⟩ := (hk3.drew.trans hw').walk; obtain ⟨x0, -⟩ := ((hYq.drew).ext hw').walk; have y0 := (hc _ (off + j * 3) hbw).trans d0; have y1 := (hc _ (off + j * 3 + 1) hbw).trans d1; have y2 := (hc _ (off + j * 3 + 2) hbw).trans d2
            refine ⟨rfl, ?_⟩
            simp only [putsL]
            change quietTo _ _ _ _ (Sem.run _ (execOp (Act.eval (Act.put _ (some 58) (sv 0))) _) _)
            try simp only [Act.put, sIA, sCS, sCZ]
            simp [go_sem, quietTo, Ext.refl, ↓IntWalk.iteOmega, f0, hj0]
            all_goals try simp (disch := omega) only [IntWalk.i64_in]
            all_goals first
              | rfl
          refine fac_quiet 2 rfl rfl rfl (fun _ _ h _ => h) rfl rfl ?_
          apply Exists.intro
          refine ⟨fun sv w' hw' hfa => ?_, ?_⟩
          · obtain ⟨_, f1, -⟩ := hfa
            replace f1 : sv 1 = _ := f1; (try dsimp only at f1)
            refine ⟨rfl, ?_⟩
            simp only [putsL]
            change quietTo _ _ _ _ (Sem.run _ (execOp (Act.eval (Act.put (Act.put _ (some 59) (sv 1)) (some 58) (sv 0))) _) _)
            try simp only [Act.put, sIA, sCS, sCZ]
            simp [go_sem, quietTo, Ext.refl, f1]
            all_goals first
              | rfl
          refine fac_quiet 3 rfl rfl rfl (fun _ _ h _ => h) rfl rfl ?_
          apply Exists.intro
          refine ⟨fun sv w' hw' hfa => ?_, ?_⟩
          · obtain ⟨_, _, f2, -⟩ := hfa
            replace f2 : sv 2 = _ := f2; (try dsimp only at f2)
            refine ⟨by simp [Region.wanted, yielded, putsL, Act.put, f2], ?_⟩
            simp only [putsL]
            change quietTo _ _ _ _ (Sem.run _ (execOp (Act.eval (Act.put (Act.put (Act.put _ (some 60) (sv 2)) (some 59) (sv 1)) (some 58) (sv 0))) _) _)
            try simp only [Act.put, sIA, sCS, sCZ]
            simp [go_sem, quietTo, Ext.refl, f2]
            all_goals first
              | rfl
          refine fac_quiet 4 rfl rfl rfl (fun _ _ h _ => h) rfl rfl ?_
          apply Exists.intro
          refine ⟨fun sv w' hw' hfa => ?_, ?_⟩
          · obtain ⟨_, _, f2, -⟩ := hfa
            replace f2 : sv 2 = _ := f2; (try dsimp only at f2)
            refine ⟨by simp [Region.wanted, yielded, putsL, Act.put, f2], ?_⟩
            simp only [putsL]
            change quietTo _ _ _ _ (Sem.run _ (execOp (Act.eval (Act.put (Act.put (Act.put _ (some 60) (sv 2)) (some 59) (sv 1)) (some 58) (sv 0))) _) _)
            try simp only [Act.put, sIA, sCS, sCZ]
            simp [go_sem, quietTo, Ext.refl, f2]
            all_goals first
              | rfl
          refine fac_quiet 5 rfl rfl rfl (fun _ _ h _ => h) rfl rfl ?_
          apply Exists.intro
          refine ⟨fun sv w' hw' hfa => ?_, ?_⟩
          · obtain ⟨_, _, f2, f4, -⟩ := hfa
            replace f2 : sv 2 = _ := f2; (try dsimp only at f2); replace f4 : sv 4 = _ := f4; (try dsimp only at f4)
            obtain ⟨hc, hf, hz9⟩ := (hk3.drew.trans hw').walk; obtain ⟨x0, -⟩ := ((hYq.drew).ext hw').walk; have y0 := (hc _ (off + j * 3) hbw).trans d0; have y1 := (hc _ (off + j * 3 + 1) hbw).trans d1; have y2 := (hc _ (off + j * 3 + 2) hbw).trans d2
            refine ⟨by simp [Region.wanted, yielded, putsL, Act.put, f2, f4], ?_⟩
            simp only [putsL]
            change quietTo _ _ _ _ (Sem.run _ (execOp (Act.eval (Act.put (Act.put (Act.put (Act.put _ (some 62) (sv 4)) (some 60) (sv 2)) (some 59) (sv 1)) (some 58) (sv 0))) _) _)
            try simp only [Act.put, sIA, sCS, sCZ]
            simp [go_sem, quietTo, Ext.refl, ↓IntWalk.iteOmega, f2, f4, hwj]
            all_goals try simp (disch := omega) only [IntWalk.i64_in]
            all_goals first
              | rfl
          refine fac_quiet 6 rfl rfl rfl (fun _ _ h _ => h) rfl rfl ?_
          apply Exists.intro
          refine ⟨fun sv w' hw' hfa => ?_, ?_⟩
          · obtain ⟨_, _, f2, f3, _, f5, -⟩ := hfa
            replace f2 : sv 2 = _ := f2; (try dsimp only at f2); replace f3 : sv 3 = _ := f3; (try dsimp only at f3); replace f5 : sv 5 = _ := f5; (try dsimp only at f5)
            obtain ⟨hc, hf, hz9⟩ := (hk3.drew.trans hw').walk; obtain ⟨x0, -⟩ := ((hYq.drew).ext hw').walk; have y0 := (hc _ (off + j * 3) hbw).trans d0; have y1 := (hc _ (off + j * 3 + 1) hbw).trans d1; have y2 := (hc _ (off + j * 3 + 2) hbw).trans d2
            refine ⟨by simp [Region.wanted, yielded, putsL, Act.put, f2, f3, f5], ?_⟩
            simp only [putsL]
            change quietTo _ _ _ _ (Sem.run _ (execOp (Act.eval (Act.put (Act.put (Act.put (Act.put (Act.put (Act.put _ (some 63) (sv 5)) (some 62) (sv 4)) (some 61) (sv 3)) (some 60) (sv 2)) (some 59) (sv 1)) (some 58) (sv 0))) _) _)
            try simp only [Act.put, sIA, sCS, sCZ]
            simp [go_sem, quietTo, Ext.refl, ↓IntWalk.iteOmega, f2, f3, f5, hjl]
            all_goals try simp (disch := omega) only [IntWalk.i64_in]
            all_goals first
              | rfl
          refine fac_quiet 7 rfl rfl rfl (fun _ _ h _ => h) rfl rfl ?_
          apply Exists.intro
          refine ⟨fun sv w' hw' hfa => ?_, ?_⟩
          · obtain ⟨_, _, f2, _, _, _, f6, -⟩ := hfa
            replace f2 : sv 2 = _ := f2; (try dsimp only at f2); replace f6 : sv 6 = _ := f6; (try dsimp only at f6)
            obtain ⟨hc, hf, hz9⟩ := (hk3.drew.trans hw').walk; obtain ⟨x0, -⟩ := ((hYq.drew).ext hw').walk; have y0 := (hc _ (off + j * 3) hbw).trans d0; have y1 := (hc _ (off + j * 3 + 1) hbw).trans d1; have y2 := (hc _ (off + j * 3 + 2) hbw).trans d2
            refine ⟨by simp [Region.wanted, yielded, putsL, Act.put, f2, f6], ?_⟩
            simp only [putsL]
            change quietTo _ _ _ _ (Sem.run _ (execOp (Act.eval (Act.put (Act.put (Act.put (Act.put (Act.put (Act.put (Act.put _ (some 64) (sv 6)) (some 63) (sv 5)) (some 62) (sv 4)) (some 61) (sv 3)) (some 60) (sv 2)) (some 59) (sv 1)) (some 58) (sv 0))) _) _)
            try simp only [Act.put, sIA, sCS, sCZ]
            simp [go_sem, quietTo, Ext.refl, ↓IntWalk.iteOmega, f2, f6, y0, y1, y2]
            all_goals try simp (disch := omega) only [IntWalk.i64_in]
            all_goals first
              | rfl
          refine fac_quiet 8 rfl rfl rfl (fun _ _ h _ => h) rfl rfl ?_
          apply Exists.intro
          refine ⟨fun sv w' hw' hfa => ?_, ?_⟩
          · obtain ⟨_, _, f2, -⟩ := hfa
            replace f2 : sv 2 = _ := f2; (try dsimp only at f2)
            obtain ⟨hc, hf, hz9⟩ := (hk3.drew.trans hw').walk; obtain ⟨x0, -⟩ := ((hYq.drew).ext hw').walk; have y0 := (hc _ (off + j * 3) hbw).trans d0; have y1 := (hc _ (off + j * 3 + 1) hbw).trans d1; have y2 := (hc _ (off + j * 3 + 2) hbw).trans d2
            refine ⟨by simp [Region.wanted, yielded, putsL, Act.put, f2], ?_⟩
            simp only [putsL]
            change quietTo _ _ _ _ (Sem.run _ (execOp (Act.eval (Act.put (Act.put (Act.put _ (some 60) (sv 2)) (some 59) (sv 1)) (some 58) (sv 0))) _) _)
            try simp only [Act.put, sIA, sCS, sCZ]
            simp [go_sem, quietTo, Ext.refl, ↓IntWalk.iteOmega, f2, x0]
            all_goals try simp (disch := omega) only [IntWalk.i64_in]
            all_goals first
              | rfl
          refine fac_quiet 9 rfl rfl rfl (fun _ _ h _ => h) rfl rfl ?_
          apply Exists.intro
          refine ⟨fun sv w' hw' hfa => ?_, ?_⟩
          · obtain ⟨f0, f1, f2, f3, f4, f5, f6, f7, f8, -⟩ := hfa
            replace f0 : sv 0 = _ := f0; (try dsimp only at f0); replace f1 : sv 1 = _ := f1; (try dsimp only at f1); replace f2 : sv 2 = _ := f2; (try dsimp only at f2); replace f3 : sv 3 = _ := f3; (try dsimp only at f3); replace f4 : sv 4 = _ := f4; (try dsimp only at f4); replace f5 : sv 5 = _ := f5; (try dsimp only at f5); replace f6 : sv 6 = _ := f6; (try dsimp only at f6)
            replace f7 : sv 7 = _ := f7; (try dsimp only at f7); replace f8 : sv 8 = _ := f8; (try dsimp only at f8)
            obtain ⟨hc, hf, hz9⟩ := (hk3.drew.trans hw').walk; obtain ⟨x0, -⟩ := ((hYq.drew).ext hw').walk; have y0 := (hc _ (off + j * 3) hbw).trans d0; have y1 := (hc _ (off + j * 3 + 1) hbw).trans d1; have y2 := (hc _ (off + j * 3 + 2) hbw).trans d2
            refine ⟨by simp [Region.wanted, yielded, putsL, Act.put, f2, f7, f8], ?_⟩
            simp only [putsL]
            change quietTo _ _ _ _ (Sem.run _ (execOp (Act.eval (Act.put (Act.put (Act.put (Act.put (Act.put (Act.put (Act.put (Act.put (Act.put _ (some 66) (sv 8)) (some 65) (sv 7)) (some 64) (sv 6)) (some 63) (sv 5)) (some 62) (sv 4)) (some 61) (sv 3)) (some 60) (sv 2)) (some 59) (sv 1)) (some 58) (sv 0))) _) _)
            try simp only [Act.put, sIA, sCS, sCZ]
            simp [go_sem, quietTo, Ext.refl, ↓IntWalk.iteOmega, f2, f7, f8]
            all_goals try simp (disch := omega) only [IntWalk.i64_in]
            all_goals first
              | rfl
              | (exact hcm.out _)
          refine fac_quiet 10 rfl rfl rfl (fun _ _ h _ => h) rfl rfl ?_
          apply Exists.intro
          refine ⟨fun sv w' hw' hfa => ?_, ?_⟩
          · obtain ⟨_, _, f2, _, _, _, _, _, _, f9, -⟩ := hfa
            replace f2 : sv 2 = _ := f2; (try dsimp only at f2); replace f9 : sv 9 = _ := f9; (try dsimp only at f9)
            obtain ⟨hc, hf, hz9⟩ := (hk3.drew.trans hw').walk; obtain ⟨x0, -⟩ := ((hYq.drew).ext hw').walk; have y0 := (hc _ (off + j * 3) hbw).trans d0; have y1 := (hc _ (off + j * 3 + 1) hbw).trans d1; have y2 := (hc _ (off + j * 3 + 2) hbw).trans d2
            refine ⟨by simp [Region.wanted, yielded, putsL, Act.put, f2, f9], ?_⟩
            simp only [putsL]
            change quietTo _ _ _ _ (Sem.run _ (execOp (Act.eval (Act.put (Act.put (Act.put (Act.put (Act.put (Act.put (Act.put (Act.put (Act.put (Act.put _ (some 67) (sv 9)) (some 66) (sv 8)) (some 65) (sv 7)) (some 64) (sv 6)) (some 63) (sv 5)) (some 62) (sv 4)) (some 61) (sv 3)) (some 60) (sv 2)) (some 59) (sv 1)) (some 58) (sv 0))) _) _)
            try simp only [Act.put, sIA, sCS, sCZ]
            simp [go_sem, quietTo, Ext.refl, ↓IntWalk.iteOmega, f2, f9, hcv]
            all_goals try simp (disch := omega) only [IntWalk.i64_in]
            all_goals first
              | rfl
          refine fac_quiet 11 rfl rfl rfl (fun _ _ h _ => h) rfl rfl ?_
          apply Exists.intro
          refine ⟨fun sv w' hw' hfa => ?_, ?_⟩
          · obtain ⟨_, _, f2, _, _, _, _, _, _, _, f10, -⟩ := hfa
            replace f2 : sv 2 = _ := f2; (try dsimp only at f2); replace f10 : sv 10 = _ := f10; (try dsimp only at f10)
            refine ⟨rfl, ?_⟩
            simp only [putsL]
            change quietTo _ _ _ _ (Sem.run _ (execOp (Act.eval (Act.put (Act.put (Act.put (Act.put (Act.put (Act.put (Act.put (Act.put (Act.put (Act.put (Act.put _ (some 68) (sv 10)) (some 67) (sv 9)) (some 66) (sv 8)) (some 65) (sv 7)) (some 64) (sv 6)) (some 63) (sv 5)) (some 62) (sv 4)) (some 61) (sv 3)) (some 60) (sv 2)) (some 59) (sv 1)) (some 58) (sv 0))) _) _)
            try simp only [Act.put, sIA, sCS, sCZ]
            simp [go_sem, quietTo, Ext.refl, ↓IntWalk.iteOmega, f2, f10]
            all_goals try simp (disch := omega) only [IntWalk.i64_in]
            all_goals first
              | rfl
          refine fac_nil fun xb wrb herb hfrb hcrb holdb hapb => ?_
          obtain ⟨f0, f1, f2, f3, f4, f5, f6, f7, f8, f9, f10, f11, -⟩ := hfrb
          replace f0 : xb 0 = _ := f0
          (try dsimp only at f0)
          replace f1 : xb 1 = _ := f1
          (try dsimp only at f1)
          replace f2 : xb 2 = _ := f2
          (try dsimp only at f2)
          replace f3 : xb 3 = _ := f3
          (try dsimp only at f3)
          replace f4 : xb 4 = _ := f4
          (try dsimp only at f4)
          replace f5 : xb 5 = _ := f5
          (try dsimp only at f5)
          replace f6 : xb 6 = _ := f6
          (try dsimp only at f6)
          replace f7 : xb 7 = _ := f7
          (try dsimp only at f7)
          replace f8 : xb 8 = _ := f8
          (try dsimp only at f8)
          replace f9 : xb 9 = _ := f9
          (try dsimp only at f9)
          replace f10 : xb 10 = _ := f10
          (try dsimp only at f10)
          replace f11 : xb 11 = _ := f11
          (try dsimp only at f11)
          change wpList _ _ _ _ (Act.put (Act.put (Act.put (Act.put (Act.put (Act.put (Act.put (Act.put (Act.put (Act.put (Act.put (Act.put _ (some 58) (xb 0)) (some 59) (xb 1)) (some 60) (xb 2)) (some 61) (xb 3)) (some 62) (xb 4)) (some 63) (xb 5)) (some 64) (xb 6)) (some 65) (xb 7)) (some 66) (xb 8)) (some 67) (xb 9)) (some 68) (xb 10)) (some 69) (xb 11)) _
          simp only [putsL, Nat.reduceAdd, List.drop_succ_cons, List.drop_zero, List.drop_nil, Act.put, sIA, sCS, sCZ]
          try simp only [f0, f1, f2, f3, f4, f5, f6, f7, f8, f9, f10, f11]
          clear f0 f1 f2 f3 f4 f5 f6 f7 f8 f9 f10 f11; clear holdb hapb
          go_wp2
          first
            | (go_ret
               exact ⟨ret_int (by rw [hF.out, ← scan_is (v := 7) hz hlt (by rw [hv.out, hh, hr1, hr2]; simp [hcv]) (by decide)]; rfl), hE3.trans ((Ext.refl _).drew.trans herb)⟩)
            | (go_roundw
               case rel => exact ⟨j + 1 + 1, by go_num, by omega, hz.succ (by rw [hv.out, hh, hr1, hr2]; simp [hcv]), (hE.trans hk3).trans ((Ext.refl _).drew.trans herb)⟩
               case measure => simp [intOf]; omega)
    · obtain rfl : k = S.length := by omega
      have hsz := scan_zero hz
      rw [hsz] at hF
      have htw := fun u (hu : Ext w u) => standTwice_any lp S.length lc S u (h.out.sta.ext hu) hnS fun x hx => (h.out.sS x hx).1
      replace htw := Lib.hid htw; replace hsz := Lib.hid hsz
      rw [if_pos rfl] at hF
      cases hd : dupB (namesS S)
      · rw [hd] at hF
        go_wp2_with (go_at_call 44; (with_reducible refine Calls.mono (htw.out _ (hE1.trans hE)) ?_); rintro e w2 ⟨t, rfl, ht, hb2⟩; obtain rfl : t = false := (by cases t; rfl; exact absurd (dupB_iff.2 (ht.1 rfl)) (by rw [hd]; decide)))
        go_ret
        exact ⟨ret_int (by rw [hF.out]; rfl), (hE1.trans hE).trans hb2⟩
      · rw [hd] at hF
        go_wp2_with (go_at_call 44; (with_reducible refine Calls.mono (htw.out _ (hE1.trans hE)) ?_); rintro e w2 ⟨t, rfl, ht, hb2⟩; obtain rfl : t = true := (ht.2 (dupB_iff.1 hd)))
        go_ret
        exact ⟨ret_int (by rw [hF.out]; rfl), (hE1.trans hE).trans hb2⟩
end Go.Proofs.YtdehmioobkneiaaGreatDoor
