/- People on a stage by height or by sections, where something is wrong: the program's walk. Conditions: lists in memory. -/
import Derived.Test.YtfcoeikekbjgpaaGreatDoorRxRoK
set_option linter.unusedSimpArgs false
set_option linter.unusedVariables false
namespace Go.Proofs.YtfcoeikekbjgpaaGreatDoor
open Go Go.RowKit

theorem indexNo_any (p : Option Addr) (c : Nat) (G : List ByteArray) (nm : ByteArray) (w : World) (h : Slc 1 strC w p G.length c G) (hn : G.length ≤ 1000) (hi : nm ∉ G) :
    Calls Tryz.prog 40 #[.slice p G.length c, .string nm] w fun e w' => e = .returned (.int .i64 (-1)) ∧ Ext w w' :=
  (indexS2_any p G.length c G nm w h hn).mono fun e w' ⟨i', he, hd, hE⟩ => ⟨by
    rcases hd with ⟨rfl, -⟩ | ⟨k, rfl, hk⟩
    · exact he
    · exact absurd (List.mem_of_getElem? hk) hi, hE⟩
/-- What the program says is wrong ahead of its work. -/
def ofF (P : List PersonV) (wide high : List Int) : Int := if ostF P wide high = 0 then fullF P wide else ostF P wide high
theorem wo_of {P : List PersonV} {wide high : List Int} (ho : ostF P wide high = 0) : WideOk wide := by
  unfold ostF at ho
  by_cases hp0 : peopleF P = 0
  · rw [if_pos hp0] at ho; exact (stageF_ok ho).1
  · rw [if_neg hp0] at ho; exact absurd ho hp0
section
variable {w : World} {pp : Option Addr} {pc : Nat} {P : List PersonV} {wp : Option Addr} {wcap : Nat} {wide : List Int} {hp : Option Addr} {hc : Nat} {high : List Int} {op : Option Addr} {oc : Nat} {O : List ByteArray}
set_option maxRecDepth 100000 in
theorem byHeightB_any (h : PsM w pp pc P wp wcap wide hp hc high none 0 []) (hf : ofF P wide high ≠ 0) :
    Calls Tryz.prog 14 #[.slice pp P.length pc, .agg #[.slice wp wide.length wcap, .slice hp high.length hc]] w fun e w' => e = .returned (.tuple #[.slice none 0 0, .int .i64 (ofF P wide high)]) ∧ Ext w w' := by
  have hE0 : Ext w (w.alloc (.cells #[.slice wp wide.length wcap, .slice hp high.length hc] 29)) := (Ext.refl _).alloc _
  have hB0 : Blk (w.alloc (.cells #[.slice wp wide.length wcap, .slice hp high.length hc] 29)) w.heap.size 29 #[.slice wp wide.length wcap, .slice hp high.length hc] := Blk.new' rfl
  have hfu := fun u (hu : Ext w u) => full_any pp pc P wp wcap wide hp hc high u (h.more hu) wo_of
  have e : (if ostF P wide high = 0 then fullF P wide else ostF P wide high) = ofF P wide high := rfl
  rw [e] at hfu
  generalize ofF P wide high = f at *
  obtain ⟨q0, -⟩ := hB0.walk
  have ql := hB0.lt
  replace hfu := Lib.hid hfu
  clear h e
  go_enter Tryz.func14, Tryz.ntmps14
  go_wp2_with (go_at_call 35; (with_reducible refine Calls.mono (hfu.out _ hE0) ?_); rintro e w1 ⟨rfl, hb1⟩)
  go_ret2
  exact ⟨rfl, hE0.trans hb1⟩
set_option maxRecDepth 100000 in
theorem bySectionB_any (h : PsM w pp pc P wp wcap wide hp hc high none 0 []) (hO : Slc 1 strC w op O.length oc O) (hOs : ∀ x ∈ O, x.size ≤ 1000) (hO19 : O.length ≤ 1000) (f : Int) (hf0 : f ≠ 0) (hf : (if ofF P wide high = 0 then orderF O else ofF P wide high) = f) :
    Calls Tryz.prog 15 #[.slice pp P.length pc, .agg #[.slice wp wide.length wcap, .slice hp high.length hc], .slice op O.length oc] w fun e w' => e = .returned (.tuple #[.slice none 0 0, .int .i64 f]) ∧ Ext w w' := by
  have hE0 : Ext w (w.alloc (.cells #[.slice wp wide.length wcap, .slice hp high.length hc] 29)) := (Ext.refl _).alloc _
  have hB0 : Blk (w.alloc (.cells #[.slice wp wide.length wcap, .slice hp high.length hc] 29)) w.heap.size 29 #[.slice wp wide.length wcap, .slice hp high.length hc] := Blk.new' rfl
  have hfu := fun u (hu : Ext w u) => full_any pp pc P wp wcap wide hp hc high u (h.more hu) wo_of
  have e : (if ostF P wide high = 0 then fullF P wide else ostF P wide high) = ofF P wide high := rfl
  rw [e] at hfu
  have hor := fun u (hu : Ext w u) => orderFault_any (hO.ext hu) hO19 hOs
  obtain ⟨q0, -⟩ := hB0.walk
  have ql := hB0.lt
  by_cases h0 : ofF P wide high = 0
  · rw [if_pos h0] at hf
    rw [hf] at hor
    rw [h0] at hfu
    replace hfu := Lib.hid hfu
    replace hor := Lib.hid hor
    clear h e h0 hf hO
    go_enter Tryz.func15, Tryz.ntmps15
    go_wp2_with (first
      | (go_at_call 35; (with_reducible refine Calls.mono (hfu.out _ hE0) ?_); rintro e w1 ⟨rfl, hb1⟩; have E1 := hE0.trans hb1)
      | (go_at_call 39; (with_reducible refine Calls.mono (hor.out _ E1) ?_); rintro e w2 ⟨rfl, hb2⟩))
    go_ret2
    exact ⟨rfl, E1.trans hb2⟩
  · rw [if_neg h0] at hf
    rw [hf] at hfu
    replace hfu := Lib.hid hfu
    clear h e h0 hf hO hor
    go_enter Tryz.func15, Tryz.ntmps15
    go_wp2_with (go_at_call 35; (with_reducible refine Calls.mono (hfu.out _ hE0) ?_); rintro e w1 ⟨rfl, hb1⟩)
    go_ret2
    exact ⟨rfl, hE0.trans hb1⟩
set_option maxRecDepth 100000 in
set_option maxHeartbeats 12800000 in
theorem bySectionN_any (h : PsM w pp pc P wp wcap wide hp hc high none 0 []) (hO : Slc 1 strC w op O.length oc O) (hOs : ∀ x ∈ O, x.size ≤ 1000) (ho : ostF P wide high = 0) (hf : fullF P wide = 0) (hof : orderF O = 0) (hP : P.length ≤ 19) (hO19 : O.length ≤ 19) (hun : ∃ x ∈ P, x.sect ∉ O) :
    Calls Tryz.prog 15 #[.slice pp P.length pc, .agg #[.slice wp wide.length wcap, .slice hp high.length hc], .slice op O.length oc] w fun e w' => e = .returned (.tuple #[.slice none 0 0, .int .i64 8]) ∧ Ext w w' := by
  have hE0 : Ext w (w.alloc (.cells #[.slice wp wide.length wcap, .slice hp high.length hc] 29)) := (Ext.refl _).alloc _
  have hB0 : Blk (w.alloc (.cells #[.slice wp wide.length wcap, .slice hp high.length hc] 29)) w.heap.size 29 #[.slice wp wide.length wcap, .slice hp high.length hc] := Blk.new' rfl
  obtain ⟨hpo, hwo⟩ : PeopleOk P ∧ WideOk wide := by
    have e := ho
    unfold ostF at e
    by_cases hp0 : peopleF P = 0
    · rw [if_pos hp0] at e; exact ⟨peopleF_ok hp0, (stageF_ok e).1⟩
    · rw [if_neg hp0] at e; exact absurd e hp0
  obtain ⟨-, hOn⟩ := orderF_ok hof
  have hfu := fun u (hu : Ext w u) => full_any pp pc P wp wcap wide hp hc high u (h.more hu) (fun _ => hwo)
  simp only [if_pos ho, hf] at hfu
  have hor := fun u (hu : Ext w u) => orderFault_any (hO.ext hu) (by omega) hOs
  rw [hof] at hor
  have hby := fun u (hu : Ext w u) => byHeight_any pp pc P u (h.per.ext hu) hP hpo
  have hma := fun u (hu : Ext w u) => many_any wp wcap wide hp high.length hc P.length (by omega) u (h.wid.ext hu) hwo
  have hw10 := hwo.1
  have hwid := h.wid
  have hsP := h.sP
  have hmk1 := fun u => make_ppl O.length (by omega) u
  have hmk2 := fun u => make_int O.length (by omega) u
  replace hfu := Lib.hid hfu
  replace hor := Lib.hid hor
  replace hby := Lib.hid hby
  replace hma := Lib.hid hma
  replace hwo := Lib.hid hwo
  replace hOn := Lib.hid hOn
  replace hun := Lib.hid hun
  replace hsP := Lib.hid hsP
  clear ho hf hof h hpo hOs
  go_enter Tryz.func15, Tryz.ntmps15
  go_upto_region 9 with (first
    | (go_at_call 35; (with_reducible refine Calls.mono (hfu.out _ hE0) ?_); rintro e w1 ⟨rfl, hb1⟩; have E1 := hE0.trans hb1)
    | (go_at_call 39; (with_reducible refine Calls.mono (hor.out _ E1) ?_); rintro e w2 ⟨rfl, hb2⟩; have E2 := E1.trans hb2))
  have hB2 := (hB0.ext hb1).ext hb2
  clear hfu hor hE0 hB0 hb1 hb2 E1 hmk1 hmk2
  have hE3 : Ext w2 ((w2.alloc (.cells (List.replicate O.length (Value.slice none 0 0)).toArray 26)).alloc (.cells (rowI (List.replicate O.length 0)) 3)) := ((Ext.refl _).alloc _).alloc _
  have hR3 : Blk ((w2.alloc (.cells (List.replicate O.length (Value.slice none 0 0)).toArray 26)).alloc (.cells (rowI (List.replicate O.length 0)) 3)) w2.heap.size 26 (List.replicate O.length (Value.slice none 0 0)).toArray := (Blk.new' rfl).alloc _
  have hZ3 : Blk ((w2.alloc (.cells (List.replicate O.length (Value.slice none 0 0)).toArray 26)).alloc (.cells (rowI (List.replicate O.length 0)) 3)) (w2.heap.size + 1) 3 (rowI (List.replicate O.length 0)) := Blk.new' (by simp)
  obtain ⟨W3, hW3⟩ : ∃ W, W = (w2.alloc (.cells (List.replicate O.length (Value.slice none 0 0)).toArray 26)).alloc (.cells (rowI (List.replicate O.length 0)) 3) := ⟨_, rfl⟩
  change Code.wp _ _ _ _ ((w2.alloc (.cells (List.replicate O.length (Value.slice none 0 0)).toArray 26)).alloc (.cells (rowI (List.replicate O.length 0)) 3))
  rw [← hW3] at hE3 hR3 hZ3
  rw [← hW3]
  clear hW3
  obtain ⟨og, hog⟩ : ∃ og, og = w2.heap.size := ⟨_, rfl⟩
  obtain ⟨gz, hgz⟩ : ∃ gz, gz = w2.heap.size + 1 := ⟨_, rfl⟩
  rw [← hgz] at hZ3
  rw [← hog] at hR3
  rw [← hgz, ← hog]
  have hB3 := hB2.ext hE3
  have hE4 := E2.trans hE3
  have hgo : w.heap.size < og ∧ og < gz := by have := E2.size; have := hB2.lt; omega
  have hgB : w.heap.size < w2.heap.size := hB2.lt
  have hw2o : w2.heap.size ≤ og := Nat.le_of_eq hog.symm
  have hgz3 := hZ3.lt
  clear hgz hB2 hog
  go_wp2_with (go_at_call 36; (with_reducible refine Calls.mono (hby.out _ hE4) ?_); rintro e w5 ⟨q, d, M, rfl, hM, hSM, hqf, hb5⟩; replace hM := Lib.hid hM)
  have hML : M.length = P.length := hM.out.1.length_eq
  rw [← hML] at hSM hma
  have hM19 : M.length ≤ 19 := by omega
  have hR5 := hR3.ext hb5
  have hZ5 := hZ3.ext hb5
  have hB5 := hB3.ext hb5
  have hE5 := hE4.trans hb5
  have hsz5 := hb5.size
  have hOQ5 : OutQ w2 w5 og w5.heap.size (grpsL O (M.take 0)) (List.replicate O.length (.slice none 0 0)) := by
    rw [List.take_zero, grps_nil]
    exact OutQ.made (hE3.trans hb5) hw2o (by omega) hR5
  have hZ5' : Blk w5 gz 3 (rowI (lensL (grpsL O (M.take 0)))) := by
    rw [List.take_zero, grps_nil, show lensL (List.replicate O.length ([] : List PersonV)) = List.replicate O.length 0 by unfold lensL; simp]
    exact hZ5
  have hW5 := hwid.ext hE5
  have hO5 := hO.ext hE5
  have hMu : ∃ x ∈ M, x.sect ∉ O := hun.out.imp fun x hx => ⟨hM.out.1.symm.subset hx.1, hx.2⟩
  have hMs : ∀ x ∈ M, x.Small := fun x hx => hsP.out x (hM.out.1.subset hx)
  rw [← hML]
  have hqz : ∀ a, q = some a → a.block ≠ og ∧ a.block ≠ gz := fun a ha => by have := hqf a ha; omega
  have hO1 : og < w5.heap.size ∧ gz < w5.heap.size := by omega
  have hB1 := hB5.lt
  replace hMu := Lib.hid hMu
  replace hMs := Lib.hid hMs
  replace hqz := Lib.hid hqz
  have hoz : ∀ a, op = some a → a.block ≠ og ∧ a.block ≠ gz := fun a ha => by obtain ⟨b, off, rfl, hb⟩ := hO.2.2.2 a ha; simp only; omega
  have hwz : ∀ a, wp = some a → a.block ≠ og ∧ a.block ≠ gz := fun a ha => by obtain ⟨b, off, rfl, hb⟩ := hwid.2.2.2 a ha; simp only; omega
  replace hoz := Lib.hid hoz
  replace hwz := Lib.hid hwz
  have hmaa := fun u (hu : Ext w u) => hma.out u hu
  clear hby hE3 hR3 hZ3 hB3 hE4 hb5 hR5 hZ5 hwid hO hML hP hgz3 hqf hun hsP hmaa hsz5 hgB
  go_loopw [44] (fun v44 wr => ∃ (j : Nat) (vs : List Value), v44 = .int .i64 j ∧ j ≤ M.length ∧ OutQ w2 wr og w5.heap.size (grpsL O (M.take j)) vs ∧ Blk wr gz 3 (rowI (lensL (grpsL O (M.take j)))) ∧ ExtQ og gz w5 wr ∧ ∀ x ∈ M.take j, x.sect ∈ O) (fun v44 _ => M.length - (intOf v44).toNat)
  case atStart => exact ⟨0, _, rfl, Nat.zero_le _, hOQ5, hZ5', ExtQ.refl _ _ _, fun x hx => by simp at hx⟩
  case round =>
    clear hOQ5 hZ5'
    obtain ⟨j, vs, rfl, hj, hOQ, hZ, hX, hcj⟩ := hrel
    have hszr := hX.2.2.2.1
    by_cases hlt : j < M.length
    · obtain ⟨x, hx⟩ := getD_some (rfl : M.length = M.length) hlt
      have hjI : (j : Int) < M.length := by omega
      have hxs := hMs.out x (List.mem_of_getElem? hx)
      rcases (slcC (hSM.extQ hX hqz.out)).2 with ⟨-, e⟩ | ⟨b, off, rfl, hb, hEl⟩
      · rw [e] at hx; cases hx
      obtain ⟨c0, c1, c2⟩ := hEl.per hx
      by_cases hin : x.sect ∈ O
      rotate_left
      · have hix := fun u (hu : Ext wr u) => indexNo_any op oc O x.sect u ((hO5.extQ hX hoz.out).ext hu) (by omega) hin
        have hE1 : Ext wr (wr.alloc (.cells #[.string x.name, .int .i64 x.high, .string x.sect] 59)) := (Ext.refl _).alloc _
        have hEw := ExtQ.back hE5 (by omega) (by omega) hX
        have lb := hb
        replace hix := Lib.hid hix
        clear hx hEl hcj hOQ hZ hin
        go_wp2_with (go_at_call 40; (with_reducible refine Calls.mono (hix.out _ hE1) ?_); rintro e w12 ⟨rfl, hb12⟩)
        go_ret2
        exact ⟨rfl, (hEw.trans hE1).trans hb12⟩
      obtain ⟨i, hil, hi0⟩ := List.getElem_of_mem hin
      have hi : O[i]? = some x.sect := by rw [List.getElem?_eq_getElem hil, hi0]
      obtain ⟨g1, g2⟩ := grps_snoc hOn.out hx hi
      have hcj2 : ∀ y ∈ M.take (j + 1), y.sect ∈ O := fun y hy => by
        rw [take_snocL hx] at hy
        rcases List.mem_append.1 hy with h1 | h1
        · exact hcj y h1
        · rw [List.mem_singleton.1 h1]; exact hin
      replace hcj2 := Lib.hid hcj2
      clear hcj hin
      have hix := fun u (hu : Ext wr u) => indexAt_any op oc O i x.sect u ((hO5.extQ hX hoz.out).ext hu) (by omega) hOn.out hi
      obtain ⟨p, c, hv, hcell, hown⟩ := hOQ.at_ g2
      have hrl : (grpS x.sect (M.take j)).length ≤ 19 := by unfold grpS; exact Nat.le_trans (List.length_filter_le _ _) (by rw [List.length_take]; omega)
      have hzat := lensL_at g2
      have hzc := rowI_cell hZ hzat
      have hZ2 := rowI_set hZ i ((grpS x.sect (M.take j)).length + 1)
      have hls : lensL (grpsL O (M.take (j + 1))) = (lensL (grpsL O (M.take j))).set i ((grpS x.sect (M.take j)).length + 1) := by
        rw [g1, lensL_set]
        simp
      obtain ⟨-, hzf⟩ := hZ.walk
      have hzl := hZ.lt
      have lb := hb
      have hY0 : Blk (wr.alloc (.cells #[.string x.name, .int .i64 x.high, .string x.sect] 59)) wr.heap.size 59 #[.string x.name, .int .i64 x.high, .string x.sect] := Blk.new' rfl
      have hE1 : Ext wr (wr.alloc (.cells #[.string x.name, .int .i64 x.high, .string x.sect] 59)) := (Ext.refl _).alloc _
      have hiI : (i : Int) < O.length := by omega
      have hol := hOQ.blk.lt
      replace hix := Lib.hid hix
      replace g1 := Lib.hid g1
      replace g2 := Lib.hid g2
      replace hv := Lib.hid hv
      replace hls := Lib.hid hls
      replace hown := Lib.hid hown
      generalize grpS x.sect (M.take j) = G at *
      clear hx hi hi0 hEl hzat
      go_upto_region 15 with (go_at_call 40; (with_reducible refine Calls.mono (hix.out _ hE1) ?_); rintro e w12 ⟨rfl, hb12⟩)
      have hE12 := hE1.trans hb12
      have hY12 := hY0.ext hb12
      clear hix hY0 hE1 hb12 c0 c1 c2
      refine wp_region_facts [0, 1] [([], false, false), ([], false, false), ([], false, false), ([], false, false), ([2, 3], false, false), ([2, 3, 4], false, false), ([], false, false), ([6], false, true)] (Ext) Ext (fun _ => True) (by kernel_rfl) (by kernel_rfl) Ext.refl (fun _ _ _ => Ext.trans) (fun _ _ h => h) (fun _ _ h => h.size) (fun _ _ h _ => h) trivial ?_
      dsimp only [List.length_cons, List.length_nil, List.drop_succ_cons, List.drop_zero, List.drop_nil]
      refine fac_late 0 rfl rfl Ext.refl (fun _ _ h _ => h) rfl rfl (fun _ _ _ _ h => h) ?_
      apply Exists.intro
      refine ⟨fun sv w' hw' hfa => ?_, ?_⟩
      · refine ⟨rfl, fun w2 => ?_⟩
        simp only [putsL]
        change pureTo _ _ (Sem.run _ (execOp (Act.eval _) _) _)
        try simp only [Act.put, List.setIfInBounds_toArray, List.set_cons_succ, List.set_cons_zero]
        simp [go_sem, pureTo]
        all_goals try simp (disch := omega) only [IntWalk.i64_in]
        all_goals first
          | rfl
      refine fac_late 1 rfl rfl Ext.refl (fun _ _ h _ => h) rfl rfl (fun _ _ _ _ h => h) ?_
      apply Exists.intro
      refine ⟨fun sv w' hw' hfa => ?_, ?_⟩
      · refine ⟨rfl, fun w2 => ?_⟩
        simp only [putsL]
        change pureTo _ _ (Sem.run _ (execOp (Act.eval _) _) _)
        try simp only [Act.put, List.setIfInBounds_toArray, List.set_cons_succ, List.set_cons_zero]
        simp [go_sem, pureTo]
        all_goals try simp (disch := omega) only [IntWalk.i64_in]
        all_goals first
          | rfl
      refine fac_quiet 2 rfl rfl rfl (fun _ _ h _ => h) rfl rfl ?_
      apply Exists.intro
      refine ⟨fun sv w' hw' hfa => ?_, ?_⟩
      · refine ⟨rfl, ?_⟩
        simp only [putsL]
        change quietTo _ _ _ _ (Sem.run _ (execOp (Act.eval _) _) _)
        try simp only [Act.put, List.setIfInBounds_toArray, List.set_cons_succ, List.set_cons_zero]
        simp [go_sem, quietTo, Ext.refl]
        all_goals first
          | rfl
      refine fac_quiet 3 rfl rfl rfl (fun _ _ h _ => h) rfl rfl ?_
      apply Exists.intro
      refine ⟨fun sv w' hw' hfa => ?_, ?_⟩
      · refine ⟨rfl, ?_⟩
        simp only [putsL]
        change quietTo _ _ _ _ (Sem.run _ (execOp (Act.eval _) _) _)
        try simp only [Act.put, List.setIfInBounds_toArray, List.set_cons_succ, List.set_cons_zero]
        simp [go_sem, quietTo, Ext.refl]
        all_goals first
          | rfl
      refine fac_quiet 4 rfl rfl rfl (fun _ _ h _ => h) rfl rfl ?_
      apply Exists.intro
      refine ⟨fun sv w' hw' hfa => ?_, ?_⟩
      · obtain ⟨f2, f3, -⟩ := hfa
        replace f2 : sv 2 = _ := f2
        try dsimp only at f2
        replace f3 : sv 3 = _ := f3
        try dsimp only at f3
        have hk9 := (Ext.refl w12).drew.trans hw'; have y5 := ((hE12.trans hk9).walk.1 _ _ hol).trans hcell; obtain ⟨y6, -⟩ := (hY12.ext hk9).walk
        refine ⟨rfl, ?_⟩
        simp only [putsL]
        change quietTo _ _ _ _ (Sem.run _ (execOp (Act.eval (Act.put (Act.put _ (some 57) (sv 3)) (some 56) (sv 2))) _) _)
        try simp only [Act.put, List.setIfInBounds_toArray, List.set_cons_succ, List.set_cons_zero]
        simp [go_sem, quietTo, Ext.refl, ↓IntWalk.iteOmega, f2, f3, hiI]
        all_goals try simp (disch := omega) only [IntWalk.i64_in]
        all_goals first
          | rfl
      refine fac_quiet 5 rfl rfl rfl (fun _ _ h _ => h) rfl rfl ?_
      apply Exists.intro
      refine ⟨fun sv w' hw' hfa => ?_, ?_⟩
      · obtain ⟨_, _, f4, -⟩ := hfa
        replace f4 : sv 4 = _ := f4
        try dsimp only at f4
        have hk9 := (Ext.refl w12).drew.trans hw'; have y5 := ((hE12.trans hk9).walk.1 _ _ hol).trans hcell; obtain ⟨y6, -⟩ := (hY12.ext hk9).walk
        refine ⟨rfl, ?_⟩
        simp only [putsL]
        change quietTo _ _ _ _ (Sem.run _ (execOp (Act.eval (Act.put (Act.put (Act.put _ (some 58) (sv 4)) (some 57) (sv 3)) (some 56) (sv 2))) _) _)
        try simp only [Act.put, List.setIfInBounds_toArray, List.set_cons_succ, List.set_cons_zero]
        simp [go_sem, quietTo, Ext.refl, ↓IntWalk.iteOmega, f4, y5]
        all_goals try simp (disch := omega) only [IntWalk.i64_in]
        all_goals first
          | rfl
      refine fac_quiet 6 rfl rfl rfl (fun _ _ h _ => h) rfl rfl ?_
      apply Exists.intro
      refine ⟨fun sv w' hw' hfa => ?_, ?_⟩
      · have hk9 := (Ext.refl w12).drew.trans hw'; have y5 := ((hE12.trans hk9).walk.1 _ _ hol).trans hcell; obtain ⟨y6, -⟩ := (hY12.ext hk9).walk
        refine ⟨rfl, ?_⟩
        simp only [putsL]
        change quietTo _ _ _ _ (Sem.run _ (execOp (Act.eval _) _) _)
        try simp only [Act.put, List.setIfInBounds_toArray, List.set_cons_succ, List.set_cons_zero]
        simp [go_sem, quietTo, Ext.refl, ↓IntWalk.iteOmega, y6]
        all_goals try simp (disch := omega) only [IntWalk.i64_in]
        all_goals first
          | rfl
      refine fac_row 7 rfl rfl rfl (fun _ _ h _ => h) (fun _ _ h => h.size) (fun _ _ _ _ _ he _ hb => hb.ext he) ?_
      apply Exists.intro
      apply Exists.intro
      apply Exists.intro
      apply Exists.intro
      refine ⟨fun sv w' hw' hfa => ?_, ?_⟩
      · obtain ⟨f6, -⟩ := hfa
        replace f6 : sv 6 = _ := f6
        try dsimp only at f6
        refine ⟨rfl, ?_⟩
        simp only [putsL]
        change rowTo _ _ _ _ _ (Sem.run _ (execOp (Act.eval (Act.put _ (some 60) (sv 6))) _) _)
        try simp only [Act.put, List.setIfInBounds_toArray, List.set_cons_succ, List.set_cons_zero]
        simp [go_sem, rowTo, Ext.refl, f6]
        all_goals try simp (disch := omega) only [IntWalk.i64_in]
        all_goals first
          | rfl
          | exact ⟨rfl, rfl⟩
          | exact ⟨⟨rfl, rfl⟩, rfl⟩
      refine fac_nil fun xq wrq herq hfrq hcrq holdq hapq => ?_
      obtain ⟨f0, f1, f2, f3, f4, f5, f6, f7, -⟩ := hfrq
      replace f0 : xq 0 = _ := f0
      try dsimp only at f0
      replace f1 : xq 1 = _ := f1
      try dsimp only at f1
      replace f2 : xq 2 = _ := f2
      try dsimp only at f2
      replace f3 : xq 3 = _ := f3
      try dsimp only at f3
      replace f4 : xq 4 = _ := f4
      try dsimp only at f4
      replace f5 : xq 5 = _ := f5
      try dsimp only at f5
      replace f6 : xq 6 = _ := f6
      try dsimp only at f6
      obtain ⟨g7, f7, l7, b7⟩ := f7
      replace f7 : xq 7 = _ := f7
      obtain ⟨p7, q7⟩ := b7.walk
      change wpList _ _ _ _ (Act.put (Act.put (Act.put (Act.put (Act.put (Act.put (Act.put (Act.put _ (some 54) (xq 0)) (some 55) (xq 1)) (some 56) (xq 2)) (some 57) (xq 3)) (some 58) (xq 4)) (some 59) (xq 5)) (some 60) (xq 6)) (some 61) (xq 7)) _
      simp only [putsL, Nat.reduceAdd, List.drop_succ_cons, List.drop_zero, List.drop_nil, Act.put, List.setIfInBounds_toArray, List.set_cons_succ, List.set_cons_zero]
      try simp only [f0, f1, f2, f3, f4, f5, f6, f7]
      clear f0 f1 f2 f3 f4 f5 f6
      clear holdq hapq
      have hkq := hE12.trans ((Ext.refl w12).drew.trans herq)
      have hoq := own_ext hkq hown.out
      have hOQq := hOQ.more hkq
      have hZq := hZ.ext hkq
      have hXq := hX.ext hkq
      have hszq := hkq.size
      go_upto_region 16 with (at_builtin; go_loud (refine wp_appL _ (.tmp 59) (.tmp 61) 26 59 3 40 _ rfl rfl Tryz.underlying26 perInfo rfl (by decide) (by decide) w5.heap.size p G.length c _ rfl hoq _ (perC x) rfl rfl b7 (per_one _) (by omega) (by omega) ?_; intro b1 c1 w6 hown6 hgrow6 hlo; have hBo : Blk w6 og 26 _ := (hgrow6.block og hOQq.blk.lt fun e => own_no hoq hOQq.blk (by decide) e.symm).trans hOQq.blk; obtain ⟨-, o2⟩ := hBo.walk; have ol := hBo.lt; have oc9 : w6.cell? ⟨og, i, none⟩ = some (.slice p G.length c) := (hBo.cell i).trans (by simpa using hv.out)))
      have hOQ2 := hOQq.app g2.out hv.out hown6 hgrow6 (hlo.imp (fun h => h) fun h => h)
      have hr9 : grpsL O (M.take (j + 1)) = (grpsL O (M.take j)).set i (G ++ [x]) := g1.out
      rw [← hr9] at hOQ2
      have hZ6 : Blk w6 gz 3 _ := (hgrow6.block gz hZq.lt fun e => own_no hoq hZq (by decide) e.symm).trans hZq
      have hX6 : ExtQ og gz w5 w6 := hXq.grown hgrow6 fun q e => (hoq.lt q e).1
      have hZ7 := hZ6.far (p := ⟨og, i, none⟩) (by simp only; omega) (.slice (some ⟨b1, 0, none⟩) (G.length + 1) c1)
      have hX7 := hX6.set (p := ⟨og, i, none⟩) (.inl rfl) (.slice (some ⟨b1, 0, none⟩) (G.length + 1) c1)
      clear hOQq hZq hXq hoq hkq hcell hBo o2 ol oc9 hOQ hZ hX hE12 hY12 herq hZ6 hX6 hzc hzf hzl hlo hown6 hgrow6 hown hr9
      obtain ⟨W7, hW7⟩ : ∃ W, W = w6.setCell ⟨og, i, none⟩ (.slice (some ⟨b1, 0, none⟩) (G.length + 1) c1) := ⟨_, rfl⟩
      change Code.wp _ _ _ _ (w6.setCell ⟨og, i, none⟩ (.slice (some ⟨b1, 0, none⟩) (G.length + 1) c1))
      rw [← hW7] at hOQ2 hZ7 hX7
      rw [← hW7]
      clear hW7
      have hz9 := rowI_cell hZ7 (lensL_at g2.out)
      have hZ9 := rowI_set hZ7 i (G.length + 1)
      obtain ⟨-, hzf⟩ := hZ7.walk
      have hzl := hZ7.lt
      have hok9 : OutQ w2 (W7.setCell ⟨gz, i, none⟩ (.int .i64 (G.length + 1))) og w5.heap.size (grpsL O (M.take (j + 1))) _ := hOQ2.aside (g := gz) (by omega) (by omega) hZ7 (by decide) i (.int .i64 (G.length + 1))
      have hX9 := hX7.set (p := ⟨gz, i, none⟩) (.inr rfl) (.int .i64 (G.length + 1))
      replace hls := Lib.hid hls.out
      clear hZ7 hX7 hOQ2
      go_wp2
      go_roundw
      case rel => exact ⟨j + 1, _, by go_num, by omega, hok9, by rw [hls.out]; exact hZ9, hX9, hcj2.out⟩
      case measure => simp [intOf]; omega
    · obtain rfl : j = M.length := by omega
      rw [List.take_length] at hcj
      obtain ⟨x, hx, hno⟩ := hMu.out
      exact absurd (hcj x hx) hno
end
end Go.Proofs.YtfcoeikekbjgpaaGreatDoor
