/- People on a stage by their sections: the program's walk. Conditions: people, the stage and the order are right. -/
import Derived.Test.YtdehmioobkneiaaGreatDoorTdJ45
import Derived.Test.YtdehmioobkneiaaGreatDoorTdJ42
set_option linter.unusedSimpArgs false
set_option linter.unusedVariables false
namespace Go.Proofs.YtdehmioobkneiaaGreatDoor
open Go Go.RowKit
theorem indexAt_any (p : Option Addr) (c : Nat) (G : List ByteArray) (i : Nat) (nm : ByteArray) (w : World) (h : Slc 1 strC w p G.length c G) (hn : G.length ≤ 1000) (hnd : G.Nodup) (hi : G[i]? = some nm) :
    Calls Tryz.prog 15 #[.slice p G.length c, .string nm] w fun e w' => e = .returned (.int .i64 i) ∧ Ext w w' :=
  (indexS2_any p G.length c G nm w h hn).mono fun e w' ⟨i', he, hd, hE⟩ => ⟨by
    rcases hd with ⟨-, hno⟩ | ⟨k, rfl, hk⟩
    · exact absurd (List.mem_of_getElem? hi) hno
    · have hki : k = i := (List.getElem?_inj (List.getElem?_eq_some_iff.1 hk).1 hnd).1 (hk.trans hi.symm)
      rw [he, hki], hE⟩
/-- The lists of those who are left, in memory. -/
structure SecM (w7 w : World) (og : Nat) (G : List (List PersonV)) (vs : List Value) : Prop where
  blk : Blk w og 36 vs.toArray
  len : vs.length = G.length
  at_ : ∀ (i : Nat) (g : List PersonV), G[i]? = some g → ∃ (p : Option Addr) (c : Nat), vs[i]? = some (.slice p g.length c) ∧ Slc 3 perC w7 p g.length c g ∧ ∀ a, p = some a → a.block ≠ og
  ext : ExtS og w7 w
theorem SecM.cell {w7 w : World} {og : Nat} {G : List (List PersonV)} {vs : List Value} (h : SecM w7 w og G vs) {i : Nat} {v : Value} (hv : vs[i]? = some v) : w.cell? ⟨og, i, none⟩ = some v := (h.blk.cell i).trans (by simpa using hv)
theorem SecM.more {w7 w w' : World} {og : Nat} {G : List (List PersonV)} {vs : List Value} (h : SecM w7 w og G vs) (he : Ext w w') : SecM w7 w' og G vs := ⟨h.blk.ext he, h.len, h.at_, h.ext.ext he⟩
theorem SecM.far {w7 w : World} {og : Nat} {G : List (List PersonV)} {vs : List Value} (h : SecM w7 w og G vs) {p : Addr} (hp : w7.heap.size ≤ p.block) (hne : p.block ≠ og) (u : Value) : SecM w7 (w.setCell p u) og G vs :=
  ⟨h.blk.far (fun e => hne e.symm) _, h.len, h.at_, h.ext.setCell (.inr hp) _⟩
theorem SecM.grown {w7 w w' : World} {og : Nat} {G : List (List PersonV)} {vs : List Value} (h : SecM w7 w og G vs) {r : Option Nat} (k : w.grownBy w' r) (hr : ∀ j, r = some j → w7.heap.size ≤ j ∧ j ≠ og) : SecM w7 w' og G vs :=
  ⟨(k.block og h.blk.lt fun e => (hr og e.symm).2 rfl).trans h.blk, h.len, h.at_, ⟨k.os.trans h.ext.1, k.tape.trans h.ext.2.1, k.output.trans h.ext.2.2.1, Nat.le_trans h.ext.2.2.2.1 k.size, fun i hi hn => (k.block i (Nat.lt_of_lt_of_le hi h.ext.2.2.2.1) fun e => by have := (hr i e.symm).1; omega).trans (h.ext.2.2.2.2 i hi hn)⟩⟩
theorem SecM.put {w7 w : World} {og : Nat} {G : List (List PersonV)} {vs : List Value} (h : SecM w7 w og G vs) {i : Nat} {g g' : List PersonV} (hg : G[i]? = some g) {p' : Option Addr} {c' : Nat} (hS : Slc 3 perC w7 p' g'.length c' g') (hp : ∀ a, p' = some a → a.block ≠ og) : SecM w7 (w.setCell ⟨og, i, none⟩ (.slice p' g'.length c')) og (G.set i g') (vs.set i (.slice p' g'.length c')) := by
  have hi := (List.getElem?_eq_some_iff.1 hg).1
  refine ⟨by simpa using h.blk.set_ i (.slice p' g'.length c'), by rw [List.length_set, List.length_set]; exact h.len, fun d q hq => ?_, h.ext.setCell (p := ⟨og, i, none⟩) (.inl rfl) _⟩
  rw [List.getElem?_set] at hq
  by_cases hd : i = d
  · subst hd
    rw [if_pos rfl, if_pos hi] at hq
    cases hq
    exact ⟨p', c', by rw [List.getElem?_set, if_pos rfl, if_pos (by rw [h.len]; exact hi)], hS, hp⟩
  · rw [if_neg hd] at hq
    obtain ⟨p, c, h1, h2, h3⟩ := h.at_ d q hq
    exact ⟨p, c, by rw [List.getElem?_set, if_neg hd]; exact h1, h2, h3⟩
theorem own_extQ {F b : Nat} {w w' : World} (he : ExtQ F b w w') {base : Nat} {e : TypeId} {k n : Nat} {v : Value} {xs : List Value} (ho : w.ownsRow base e k v n xs) (h1 : v.ownBlock ≠ some F) (h2 : v.ownBlock ≠ some b) : w'.ownsRow base e k v n xs := by
  refine ⟨ho.1, ?_⟩
  rcases ho.2 with h | ⟨g, cap, cur, rfl, hb, hg, hr⟩
  · exact .inl h
  · exact .inr ⟨g, cap, cur, rfl, hb, (he.2.2.2.2 g (Array.getElem?_eq_some_iff.1 hg).1 (fun e => h1 (by rw [← e]; rfl)) (fun e => h2 (by rw [← e]; rfl))).trans hg, hr⟩
section
variable {w : World} {pp : Option Addr} {pc : Nat} {P : List PersonV} {wp : Option Addr} {wcap : Nat} {wide : List Int} {hp : Option Addr} {hc : Nat} {high : List Int} {op : Option Addr} {oc : Nat} {O : List ByteArray}
set_option maxRecDepth 100000 in
set_option maxHeartbeats 12800000 in
theorem bySectionS_any (h : PsM w pp pc P wp wcap wide hp hc high none 0 []) (hO : Slc 1 strC w op O.length oc O) (hOs : ∀ x ∈ O, x.size ≤ 1000) (ho : ostF P wide high = 0) (hf : fullF P wide = 0) (hof : orderF O = 0) (hP : P.length ≤ 19) (hO19 : O.length ≤ 19) (hcov : ∀ x ∈ P, x.sect ∈ O) :
    Calls Tryz.prog 11 #[.slice pp P.length pc, .agg #[.slice wp wide.length wcap, .slice hp high.length hc], .slice op O.length oc] w fun e w' => ∃ (q : Option Addr) (c : Nat) (M : List PersonV), e = .returned (.tuple #[.slice q (bsL wide M.length (lensL (grpsL O M)) (grpsL O M) wide.length).length c, .int .i64 0]) ∧ ByH P M ∧ Slc 3 staC w' q (bsL wide M.length (lensL (grpsL O M)) (grpsL O M) wide.length).length c (bsL wide M.length (lensL (grpsL O M)) (grpsL O M) wide.length) ∧ Ext w w' := by
  have hE0 : Ext w (w.alloc (.cells #[.slice wp wide.length wcap, .slice hp high.length hc] 48)) := (Ext.refl _).alloc _
  have hB0 : Blk (w.alloc (.cells #[.slice wp wide.length wcap, .slice hp high.length hc] 48)) w.heap.size 48 #[.slice wp wide.length wcap, .slice hp high.length hc] := Blk.new' rfl
  obtain ⟨hpo, hwo⟩ : PeopleOk P ∧ WideOk wide := by
    have e := ho
    unfold ostF at e
    by_cases hp0 : peopleF P = 0
    · rw [if_pos hp0] at e; exact ⟨peopleF_ok hp0, (stageF_ok e).1⟩
    · rw [if_neg hp0] at e; exact absurd e hp0
  obtain ⟨-, hOn⟩ := orderF_ok hof
  have hfu := fun u (hu : Ext w u) => full_any pp pc P wp wcap wide hp hc high u (h.more hu) (fun _ => hwo)
  simp only [if_pos ho, hf] at hfu
  have hor := fun u (hu : Ext w u) => orderFault_any (hO.ext hu) (by omega) hOs
  rw [hof] at hor
  have hby := fun u (hu : Ext w u) => byHeight_any pp pc P u (h.per.ext hu) hP hpo
  have hma := fun u (hu : Ext w u) => many_any wp wcap wide hp high.length hc P.length (by omega) u (h.wid.ext hu) hwo
  have hw10 := hwo.1
  have hwid := h.wid
  have hsP := h.sP
  have hmk1 := fun u => make_ppl O.length (by omega) u
  have hmk2 := fun u => make_int O.length (by omega) u
  replace hfu := Lib.hid hfu; replace hor := Lib.hid hor; replace hby := Lib.hid hby; replace hma := Lib.hid hma; replace hwo := Lib.hid hwo; replace hOn := Lib.hid hOn; replace hcov := Lib.hid hcov; replace hsP := Lib.hid hsP; clear ho hf hof h hpo hOs
  go_enter Tryz.func11, Tryz.ntmps11
  go_upto_region 9 with (first
    | (go_at_call 34; (with_reducible refine Calls.mono (hfu.out _ hE0) ?_); rintro e w1 ⟨rfl, hb1⟩; have E1 := hE0.trans hb1)
    | (go_at_call 35; (with_reducible refine Calls.mono (hor.out _ E1) ?_); rintro e w2 ⟨rfl, hb2⟩; have E2 := E1.trans hb2))
  have hB2 := (hB0.ext hb1).ext hb2
  clear hfu hor hE0 hB0 hb1 hb2 E1 hmk1 hmk2
  have hE3 : Ext w2 ((w2.alloc (.cells (List.replicate O.length (Value.slice none 0 0)).toArray 36)).alloc (.cells (rowI (List.replicate O.length 0)) 3)) := ((Ext.refl _).alloc _).alloc _
  have hR3 : Blk ((w2.alloc (.cells (List.replicate O.length (Value.slice none 0 0)).toArray 36)).alloc (.cells (rowI (List.replicate O.length 0)) 3)) w2.heap.size 36 (List.replicate O.length (Value.slice none 0 0)).toArray := (Blk.new' rfl).alloc _
  have hZ3 : Blk ((w2.alloc (.cells (List.replicate O.length (Value.slice none 0 0)).toArray 36)).alloc (.cells (rowI (List.replicate O.length 0)) 3)) (w2.heap.size + 1) 3 (rowI (List.replicate O.length 0)) := Blk.new' (by simp)
  obtain ⟨W3, hW3⟩ : ∃ W, W = (w2.alloc (.cells (List.replicate O.length (Value.slice none 0 0)).toArray 36)).alloc (.cells (rowI (List.replicate O.length 0)) 3) := ⟨_, rfl⟩
  change Code.wp _ _ _ _ ((w2.alloc (.cells (List.replicate O.length (Value.slice none 0 0)).toArray 36)).alloc (.cells (rowI (List.replicate O.length 0)) 3))
  rw [← hW3] at hE3 hR3 hZ3
  rw [← hW3]
  clear hW3
  obtain ⟨og, hog⟩ : ∃ og, og = w2.heap.size := ⟨_, rfl⟩
  obtain ⟨gz, hgz⟩ : ∃ gz, gz = w2.heap.size + 1 := ⟨_, rfl⟩
  rw [← hgz] at hZ3
  rw [← hog] at hR3
  rw [← hgz, ← hog]
  have hB3 := hB2.ext hE3
  have hE4 := E2.trans hE3
  have hgo : w.heap.size < og ∧ og < gz := by have := E2.size; have := hB2.lt; omega
  have hgB : w.heap.size < w2.heap.size := hB2.lt
  have hw2o : w2.heap.size ≤ og := Nat.le_of_eq hog.symm
  have hgz3 := hZ3.lt
  clear hgz hB2 hog
  go_wp2_with (go_at_call 36; (with_reducible refine Calls.mono (hby.out _ hE4) ?_); rintro e w5 ⟨q, d, M, rfl, hM, hSM, hqf, hb5⟩; replace hM := Lib.hid hM)
  have hML : M.length = P.length := hM.out.1.length_eq
  rw [← hML] at hSM hma
  have hM19 : M.length ≤ 19 := by omega
  have hR5 := hR3.ext hb5
  have hZ5 := hZ3.ext hb5
  have hB5 := hB3.ext hb5
  have hE5 := hE4.trans hb5
  have hsz5 := hb5.size
  have hOQ5 : OutQ w2 w5 og w5.heap.size (grpsL O (M.take 0)) (List.replicate O.length (.slice none 0 0)) := by
    rw [List.take_zero, grps_nil]
    exact OutQ.made (hE3.trans hb5) hw2o (by omega) hR5
  have hZ5' : Blk w5 gz 3 (rowI (lensL (grpsL O (M.take 0)))) := by
    rw [List.take_zero, grps_nil, show lensL (List.replicate O.length ([] : List PersonV)) = List.replicate O.length 0 by unfold lensL; simp]
    exact hZ5
  have hW5 := hwid.ext hE5
  have hO5 := hO.ext hE5
  have hMc : ∀ x ∈ M, x.sect ∈ O := fun x hx => hcov.out x (hM.out.1.subset hx)
  have hMs : ∀ x ∈ M, x.Small := fun x hx => hsP.out x (hM.out.1.subset hx)
  rw [← hML]
  have hqz : ∀ a, q = some a → a.block ≠ og ∧ a.block ≠ gz := fun a ha => by have := hqf a ha; omega
  have hO1 : og < w5.heap.size ∧ gz < w5.heap.size := by omega
  have hB1 := hB5.lt
  replace hMc := Lib.hid hMc; replace hMs := Lib.hid hMs; replace hqz := Lib.hid hqz
  have hoz : ∀ a, op = some a → a.block ≠ og ∧ a.block ≠ gz := fun a ha => by obtain ⟨b, off, rfl, hb⟩ := hO.2.2.2 a ha; simp only; omega
  have hwz : ∀ a, wp = some a → a.block ≠ og ∧ a.block ≠ gz := fun a ha => by obtain ⟨b, off, rfl, hb⟩ := hwid.2.2.2 a ha; simp only; omega
  replace hoz := Lib.hid hoz; replace hwz := Lib.hid hwz
  have hmaa := fun u (hu : Ext w u) => hma.out u hu
  clear hby hE3 hR3 hZ3 hB3 hE4 hb5 hR5 hZ5 hwid hO hML hP hgz3 hqf hcov hsP hmaa hsz5 hgB
  go_loopw [44] (fun v44 wr => ∃ (j : Nat) (vs : List Value), v44 = .int .i64 j ∧ j ≤ M.length ∧ OutQ w2 wr og w5.heap.size (grpsL O (M.take j)) vs ∧ Blk wr gz 3 (rowI (lensL (grpsL O (M.take j)))) ∧ ExtQ og gz w5 wr) (fun v44 _ => M.length - (intOf v44).toNat)
  case atStart => exact ⟨0, _, rfl, Nat.zero_le _, hOQ5, hZ5', ExtQ.refl _ _ _⟩
  case round =>
    clear hOQ5 hZ5'
    obtain ⟨j, vs, rfl, hj, hOQ, hZ, hX⟩ := hrel
    have hszr := hX.2.2.2.1
    by_cases hlt : j < M.length
    · obtain ⟨x, hx⟩ := getD_some (rfl : M.length = M.length) hlt
      have hjI : (j : Int) < M.length := by omega
      obtain ⟨i, hil, hi0⟩ := List.getElem_of_mem (hMc.out x (List.mem_of_getElem? hx))
      have hi : O[i]? = some x.sect := by rw [List.getElem?_eq_getElem hil, hi0]
      obtain ⟨g1, g2⟩ := grps_snoc hOn.out hx hi
      have hxs := hMs.out x (List.mem_of_getElem? hx)
      rcases (slcC (hSM.extQ hX hqz.out)).2 with ⟨-, e⟩ | ⟨b, off, rfl, hb, hEl⟩
      · rw [e] at hx; cases hx
      obtain ⟨c0, c1, c2⟩ := hEl.per hx
      have hix := fun u (hu : Ext wr u) => indexAt_any op oc O i x.sect u ((hO5.extQ hX hoz.out).ext hu) (by omega) hOn.out hi
      obtain ⟨p, c, hv, hcell, hown⟩ := hOQ.at_ g2
      have hrl : (grpS x.sect (M.take j)).length ≤ 19 := by unfold grpS; exact Nat.le_trans (List.length_filter_le _ _) (by rw [List.length_take]; omega)
      have hzat := lensL_at g2
      have hzc := rowI_cell hZ hzat
      have hZ2 := rowI_set hZ i ((grpS x.sect (M.take j)).length + 1)
      have hls : lensL (grpsL O (M.take (j + 1))) = (lensL (grpsL O (M.take j))).set i ((grpS x.sect (M.take j)).length + 1) := by
        rw [g1, lensL_set]
        simp
      obtain ⟨-, hzf⟩ := hZ.walk
      have hzl := hZ.lt
      have lb := hb
      have hY0 : Blk (wr.alloc (.cells #[.string x.name, .int .i64 x.high, .string x.sect] 42)) wr.heap.size 42 #[.string x.name, .int .i64 x.high, .string x.sect] := Blk.new' rfl
      have hE1 : Ext wr (wr.alloc (.cells #[.string x.name, .int .i64 x.high, .string x.sect] 42)) := (Ext.refl _).alloc _
      have hiI : (i : Int) < O.length := by omega
      have hol := hOQ.blk.lt
      replace hix := Lib.hid hix; replace g1 := Lib.hid g1; replace g2 := Lib.hid g2; replace hv := Lib.hid hv; replace hls := Lib.hid hls; replace hown := Lib.hid hown
      generalize grpS x.sect (M.take j) = G at *
      clear hx hi hi0 hEl hzat
      go_upto_region 15 with (go_at_call 15; (with_reducible refine Calls.mono (hix.out _ hE1) ?_); rintro e w12 ⟨rfl, hb12⟩)
      have hE12 := hE1.trans hb12
      have hY12 := hY0.ext hb12
      clear hix hY0 hE1 hb12 c0 c1 c2
      refine wp_region_facts [0, 1] [([], false, false), ([], false, false), ([], false, false), ([], false, false), ([2, 3], false, false), ([2, 3, 4], false, false), ([], false, false), ([6], false, true)] (Ext) Ext (fun _ => True) (by kernel_rfl) (by kernel_rfl) Ext.refl (fun _ _ _ => Ext.trans) (fun _ _ h => h) (fun _ _ h => h.size) (fun _ _ h _ => h) trivial ?_
      dsimp only [List.length_cons, List.length_nil, List.drop_succ_cons, List.drop_zero, List.drop_nil]
      refine fac_late 0 rfl rfl Ext.refl (fun _ _ h _ => h) rfl rfl (fun _ _ _ _ h => h) ?_
      apply Exists.intro
      refine ⟨fun sv w' hw' hfa => ?_, ?_⟩
      · refine ⟨rfl, fun w2 => ?_⟩
        simp only [putsL]
        change pureTo _ _ (Sem.run _ (execOp (Act.eval _) _) _)
        try simp only [Act.put, sIA, sCS, sCZ]
        simp [go_sem, pureTo]
        all_goals try simp (disch := omega) only [IntWalk.i64_in]
        all_goals first
          | rfl
      refine fac_late 1 rfl rfl Ext.refl (fun _ _ h _ => h) rfl rfl (fun _ _ _ _ h => h) ?_
      apply Exists.intro
      refine ⟨fun sv w' hw' hfa => ?_, ?_⟩
      · refine ⟨rfl, fun w2 => ?_⟩
        simp only [putsL]
        change pureTo _ _ (Sem.run _ (execOp (Act.eval _) _) _)
        try simp only [Act.put, sIA, sCS, sCZ]
        simp [go_sem, pureTo]
        all_goals try simp (disch := omega) only [IntWalk.i64_in]
        all_goals first
          | rfl
      refine fac_quiet 2 rfl rfl rfl (fun _ _ h _ => h) rfl rfl ?_
      apply Exists.intro
      refine ⟨fun sv w' hw' hfa => ?_, ?_⟩
      · refine ⟨rfl, ?_⟩
        simp only [putsL]
        change quietTo _ _ _ _ (Sem.run _ (execOp (Act.eval _) _) _)
        try simp only [Act.put, sIA, sCS, sCZ]
        simp [go_sem, quietTo, Ext.refl]
        all_goals first
          | rfl
      refine fac_quiet 3 rfl rfl rfl (fun _ _ h _ => h) rfl rfl ?_
      apply Exists.intro
      refine ⟨fun sv w' hw' hfa => ?_, ?_⟩
      · refine ⟨rfl, ?_⟩
        simp only [putsL]
        change quietTo _ _ _ _ (Sem.run _ (execOp (Act.eval _) _) _)
        try simp only [Act.put, sIA, sCS, sCZ]
        simp [go_sem, quietTo, Ext.refl]
        all_goals first
          | rfl
      refine fac_quiet 4 rfl rfl rfl (fun _ _ h _ => h) rfl rfl ?_
      apply Exists.intro
      refine ⟨fun sv w' hw' hfa => ?_, ?_⟩
      · obtain ⟨f2, f3, -⟩ := hfa
        replace f2 : sv 2 = _ := f2; (try dsimp only at f2); replace f3 : sv 3 = _ := f3; (try dsimp only at f3)
        have hk9 := (Ext.refl w12).drew.trans hw'; have y5 := ((hE12.trans hk9).walk.1 _ _ hol).trans hcell; obtain ⟨y6, -⟩ := (hY12.ext hk9).walk
        refine ⟨rfl, ?_⟩
        simp only [putsL]
        change quietTo _ _ _ _ (Sem.run _ (execOp (Act.eval (Act.put (Act.put _ (some 57) (sv 3)) (some 56) (sv 2))) _) _)
        try simp only [Act.put, sIA, sCS, sCZ]
        simp [go_sem, quietTo, Ext.refl, ↓IntWalk.iteOmega, f2, f3, hiI]
        all_goals try simp (disch := omega) only [IntWalk.i64_in]
        all_goals first
          | rfl
      refine fac_quiet 5 rfl rfl rfl (fun _ _ h _ => h) rfl rfl ?_
      apply Exists.intro
      refine ⟨fun sv w' hw' hfa => ?_, ?_⟩
      · obtain ⟨_, _, f4, -⟩ := hfa
        replace f4 : sv 4 = _ := f4; (try dsimp only at f4)
        have hk9 := (Ext.refl w12).drew.trans hw'; have y5 := ((hE12.trans hk9).walk.1 _ _ hol).trans hcell; obtain ⟨y6, -⟩ := (hY12.ext hk9).walk
        refine ⟨rfl, ?_⟩
        simp only [putsL]
        change quietTo _ _ _ _ (Sem.run _ (execOp (Act.eval (Act.put (Act.put (Act.put _ (some 58) (sv 4)) (some 57) (sv 3)) (some 56) (sv 2))) _) _)
        try simp only [Act.put, sIA, sCS, sCZ]
        simp [go_sem, quietTo, Ext.refl, ↓IntWalk.iteOmega, f4, y5]
        all_goals try simp (disch := omega) only [IntWalk.i64_in]
        all_goals first
          | rfl
      refine fac_quiet 6 rfl rfl rfl (fun _ _ h _ => h) rfl rfl ?_
      apply Exists.intro
      refine ⟨fun sv w' hw' hfa => ?_, ?_⟩
      · have hk9 := (Ext.refl w12).drew.trans hw'; have y5 := ((hE12.trans hk9).walk.1 _ _ hol).trans hcell; obtain ⟨y6, -⟩ := (hY12.ext hk9).walk
        refine ⟨rfl, ?_⟩
        simp only [putsL]
        change quietTo _ _ _ _ (Sem.run _ (execOp (Act.eval _) _) _)
        try simp only [Act.put, sIA, sCS, sCZ]
        simp [go_sem, quietTo, Ext.refl, ↓IntWalk.iteOmega, y6]
        all_goals try simp (disch := omega) only [IntWalk.i64_in]
        all_goals first
          | rfl
      refine fac_row 7 rfl rfl rfl (fun _ _ h _ => h) (fun _ _ h => h.size) (fun _ _ _ _ _ he _ hb => hb.ext he) ?_
      apply Exists.intro
      apply Exists.intro
      apply Exists.intro
      apply Exists.intro
      refine ⟨fun sv w' hw' hfa => ?_, ?_⟩
      · obtain ⟨f6, -⟩ := hfa
        replace f6 : sv 6 = _ := f6; (try dsimp only at f6)
        refine ⟨rfl, ?_⟩
        simp only [putsL]
        change rowTo _ _ _ _ _ (Sem.run _ (execOp (Act.eval (Act.put _ (some 60) (sv 6))) _) _)
        try simp only [Act.put, sIA, sCS, sCZ]
        simp [go_sem, rowTo, Ext.refl, f6]
        all_goals try simp (disch := omega) only [IntWalk.i64_in]
        all_goals first
          | rfl
          | exact ⟨rfl, rfl⟩
          | exact ⟨⟨rfl, rfl⟩, rfl⟩
      refine fac_nil fun xq wrq herq hfrq hcrq holdq hapq => ?_
      obtain ⟨f0, f1, f2, f3, f4, f5, f6, f7, -⟩ := hfrq
      replace f0 : xq 0 = _ := f0
      (try dsimp only at f0)
      replace f1 : xq 1 = _ := f1
      (try dsimp only at f1)
      replace f2 : xq 2 = _ := f2
      (try dsimp only at f2)
      replace f3 : xq 3 = _ := f3
      (try dsimp only at f3)
      replace f4 : xq 4 = _ := f4
      (try dsimp only at f4)
      replace f5 : xq 5 = _ := f5
      (try dsimp only at f5)
      replace f6 : xq 6 = _ := f6
      (try dsimp only at f6); obtain ⟨g7, f7, l7, b7⟩ := f7
      replace f7 : xq 7 = _ := f7
      obtain ⟨p7, q7⟩ := b7.walk
      change wpList _ _ _ _ (Act.put (Act.put (Act.put (Act.put (Act.put (Act.put (Act.put (Act.put _ (some 54) (xq 0)) (some 55) (xq 1)) (some 56) (xq 2)) (some 57) (xq 3)) (some 58) (xq 4)) (some 59) (xq 5)) (some 60) (xq 6)) (some 61) (xq 7)) _
      simp only [putsL, Nat.reduceAdd, List.drop_succ_cons, List.drop_zero, List.drop_nil, Act.put, sIA, sCS, sCZ]
      try simp only [f0, f1, f2, f3, f4, f5, f6, f7]
      clear f0 f1 f2 f3 f4 f5 f6; clear holdq hapq
      have hkq := hE12.trans ((Ext.refl w12).drew.trans herq)
      have hoq := own_ext hkq hown.out
      have hOQq := hOQ.more hkq
      have hZq := hZ.ext hkq
      have hXq := hX.ext hkq
      have hszq := hkq.size
      go_upto_region 16 with (at_builtin; go_loud (refine wp_appL _ (.tmp 59) (.tmp 61) 36 42 3 40 _ rfl rfl Tryz.underlying36 perInfo rfl (by decide) (by decide) w5.heap.size p G.length c _ rfl hoq _ (perC x) rfl rfl b7 (per_one _) (by omega) (by omega) ?_; intro b1 c1 w6 hown6 hgrow6 hlo; have hBo : Blk w6 og 36 _ := (hgrow6.block og hOQq.blk.lt fun e => own_no hoq hOQq.blk (by decide) e.symm).trans hOQq.blk; obtain ⟨-, o2⟩ := hBo.walk; have ol := hBo.lt; have oc9 : w6.cell? ⟨og, i, none⟩ = some (.slice p G.length c) := (hBo.cell i).trans (by simpa using hv.out)))
      have hOQ2 := hOQq.app g2.out hv.out hown6 hgrow6 (hlo.imp (fun h => h) fun h => h)
      have hr9 : grpsL O (M.take (j + 1)) = (grpsL O (M.take j)).set i (G ++ [x]) := g1.out
      rw [← hr9] at hOQ2
      have hZ6 : Blk w6 gz 3 _ := (hgrow6.block gz hZq.lt fun e => own_no hoq hZq (by decide) e.symm).trans hZq
      have hX6 : ExtQ og gz w5 w6 := hXq.grown hgrow6 fun q e => (hoq.lt q e).1
      have hZ7 := hZ6.far (p := ⟨og, i, none⟩) (by simp only; omega) (.slice (some ⟨b1, 0, none⟩) (G.length + 1) c1)
      have hX7 := hX6.set (p := ⟨og, i, none⟩) (.inl rfl) (.slice (some ⟨b1, 0, none⟩) (G.length + 1) c1)
      clear hOQq hZq hXq hoq hkq hcell hBo o2 ol oc9 hOQ hZ hX hE12 hY12 herq hZ6 hX6 hzc hzf hzl hlo hown6 hgrow6 hown hr9
      obtain ⟨W7, hW7⟩ : ∃ W, W = w6.setCell ⟨og, i, none⟩ (.slice (some ⟨b1, 0, none⟩) (G.length + 1) c1) := ⟨_, rfl⟩
      change Code.wp _ _ _ _ (w6.setCell ⟨og, i, none⟩ (.slice (some ⟨b1, 0, none⟩) (G.length + 1) c1))
      rw [← hW7] at hOQ2 hZ7 hX7
      rw [← hW7]
      clear hW7
      have hz9 := rowI_cell hZ7 (lensL_at g2.out)
      have hZ9 := rowI_set hZ7 i (G.length + 1)
      obtain ⟨-, hzf⟩ := hZ7.walk
      have hzl := hZ7.lt
      have hok9 : OutQ w2 (W7.setCell ⟨gz, i, none⟩ (.int .i64 (G.length + 1))) og w5.heap.size (grpsL O (M.take (j + 1))) _ := hOQ2.aside (g := gz) (by omega) (by omega) hZ7 (by decide) i (.int .i64 (G.length + 1))
      have hX9 := hX7.set (p := ⟨gz, i, none⟩) (.inr rfl) (.int .i64 (G.length + 1))
      replace hls := Lib.hid hls.out
      clear hZ7 hX7 hOQ2
      go_wp2
      go_roundw
      case rel => exact ⟨j + 1, _, by go_num, by omega, hok9, by rw [hls.out]; exact hZ9, hX9⟩
      case measure => simp [intOf]; omega
    · obtain rfl : j = M.length := by omega
      rw [List.take_length] at hOQ hZ
      have hsum := grps_sum hOn.out hMc.out M.length (Nat.le_refl _)
      rw [List.take_length] at hsum
      have hE := ExtQ.back hE5 (by omega) (by omega) hX
      have hBr := hB5.extQ (by omega) (by omega) hX
      have hWr := hW5.extQ hX hwz.out
      have hGl := grpsL_len O M
      have hat7 : ∀ (i : Nat) (g : List PersonV), (grpsL O M)[i]? = some g → ∃ (p : Option Addr) (c : Nat), vs[i]? = some (.slice p g.length c) ∧ Slc 3 perC wr p g.length c g ∧ ∀ a, p = some a → a.block ≠ og := fun i g hg => by
        obtain ⟨p, c, hv, -, hown⟩ := hOQ.at_ hg
        obtain ⟨p2, c2, e, hS⟩ := slc_of_own perC_len hown (by decide) (by have : g.length ≤ M.length := by { obtain ⟨nm, -, rfl⟩ := List.mem_map.1 (List.mem_of_getElem? hg); exact List.length_filter_le _ _ }; omega)
        cases e
        exact ⟨p, c, hv, hS, fun a ha e => by subst ha; have := (hown.lt a.block rfl).1; omega⟩
      have hvl := hOQ.len
      have hob := hOQ.blk
      have hA0 := lensL_nonneg (grpsL O M)
      have hAl := lensL_len (grpsL O M)
      generalize hG0e : grpsL O M = G0 at *
      generalize hAe : lensL G0 = A at *
      have hfin : bsL wide M.length (lensL (grpsL O M)) (grpsL O M) wide.length = bsL wide M.length A G0 wide.length := by rw [hG0e, hAe]
      replace hfin := Lib.hid hfin; clear hG0e
      have hgz := hZ.lt
      obtain ⟨y1, -⟩ := hBr.walk
      have yl := hBr.lt
      have hwg : ∀ a, wp = some a → a.block ≠ og := fun a ha => (hwz.out a ha).1
      have hAO : A.length = O.length := by omega
      have hG0 : G0.length = O.length := hGl
      have hsO : A.sum = M.length := hsum
      have hsec : M.length ≠ 0 → SecOk A G0 := fun h0 => ⟨hA0, by omega, by omega⟩
      have hbd := fun (r : Nat) => bsL_bound (wide := wide) (A := A) (G0 := G0) hwo.out hsec r
      replace hwg := Lib.hid hwg; replace hAO := Lib.hid hAO; replace hG0 := Lib.hid hG0; replace hsO := Lib.hid hsO; replace hsec := Lib.hid hsec; replace hbd := Lib.hid hbd; replace hsum := Lib.hid hsum; clear hOQ hX hE5 hB5 hW5 hSM hO5 hqz hoz hwz hMc hMs hB1 hGl hAl hsum; replace hAe := Lib.hid hAe; replace hat7 := Lib.hid hat7
      go_wp2_with (go_at_call 37; (with_reducible refine Calls.mono (hma.out _ hE) ?_); rintro e w7 ⟨mq, mc, rfl, hSm, hmf, hb7⟩)
      have hB7 := hBr.ext hb7
      have hZ7 := hZ.ext hb7
      have hW7 := hWr.ext hb7
      have hE7 := hE.trans hb7
      have hSec : SecM w7 w7 og (secG wide M.length A G0 0) vs := ⟨hob.ext hb7, hvl, fun i g hg => by obtain ⟨p, c, h1, h2, h3⟩ := hat7.out i g hg; exact ⟨p, c, h1, h2.ext hb7, h3⟩, ExtS.refl _ _⟩
      have hmo : ∀ a, mq = some a → a.block ≠ og := fun a ha => by have := hmf a ha; have := hob.lt; omega
      have hol := hob.lt
      have hol7 : og < w7.heap.size := Nat.lt_of_lt_of_le hol hb7.size
      have hzl7 : gz < w7.heap.size := hZ7.lt
      have hbl7 : w.heap.size < w7.heap.size := hB7.lt
      clear hat7 hob hvl hZ hBr hWr hE hb7 y1 yl hma hmf hgz; replace hmo := Lib.hid hmo; replace hSm := Lib.hid hSm
      go_loopw [15, 76] (fun v15 v76 wr => ∃ (r : Nat) (vs : List Value), v76 = .int .i64 r ∧ r ≤ wide.length ∧ SecM w7 wr og (secG wide M.length A G0 r) vs ∧ wr.ownsRow w7.heap.size 54 3 v15 (bsL wide M.length A G0 r).length ((bsL wide M.length A G0 r).flatMap staC)) (fun _ v76 _ => wide.length - (intOf v76).toNat)
      case atStart => exact ⟨0, vs, rfl, Nat.zero_le _, hSec, World.ownsRow_nil _ _ _ _⟩
      case round =>
        clear hSec
        obtain ⟨r, vs, rfl, hr, hM7, hown⟩ := hrel
        have hszr := hM7.ext.2.2.2.1
        have hBr := hB7.extS (show w.heap.size ≠ og by omega) hM7.ext
        have hWr := hW7.extS hM7.ext hwg.out
        have hZr := hZ7.extS (show gz ≠ og by omega) hM7.ext
        have hEr := ExtS.back hE7 (by omega) hM7.ext
        by_cases hlt : r < wide.length
        · have hrI : (r : Int) < wide.length := by omega
          have hSmr := hSm.out.extS hM7.ext hmo.out
          rcases (slcC hSmr).2 with ⟨-, e⟩ | ⟨mb, mo, rfl, hmb, hml⟩
          · have := manyL_len wide M.length wide.length
            rw [e] at this
            simp at this
            omega
          have c80 := hml.int (manyL_take hlt)
          have htM := takeN_le wide M.length r
          have htM2 := leftN_le wide M.length r
          clear hml
          by_cases h0 : takeN wide M.length r = 0
          · have hend := bsL_end (A := A) (G0 := G0) hwo.out hlt h0
            rw [h0] at c80
            rw [← hend] at hown
            have hb9 := hbd.out wide.length
            obtain ⟨p, c, rfl, hSo⟩ := slc_of_own staC_len hown (by decide) (by omega)
            replace hSo := Lib.hid hSo; clear hown hend h0
            go_wp2
            go_ret2
            exact ⟨p, c, M, (by rw [hfin.out]; rfl), hM.out, by rw [hfin.out]; exact hSo.out, hEr⟩
          · have hsk := hsec.out (by omega)
            have hsh := hsk.sh (wide := wide) (n := M.length) r
            obtain ⟨cp1, cp2, cp3⟩ := hsh.cap
            obtain ⟨pl1, pl2, pl3⟩ := partsL_ok hsh.n0 hsh.a0 hsh.s0
            have hT : secT wide M.length A G0 r = shrL (takeN wide M.length r) A (lensL (secG wide M.length A G0 r)) := by unfold secT; rw [if_neg h0]
            have hpa := parts_any (n := takeN wide M.length r) (slc_rowI hZr (by have := hAO.out; omega)) (by omega) (by have := hAO.out; omega) hA0 hsk.s0 (by have := hsO.out; omega)
            have hql := hsk.q_len (wide := wide) (n := M.length) r
            have hbs := bsL_succ wide M.length A G0 r
            have hgs := secG_succ wide M.length A G0 r
            have hGr := secG_len wide M.length A G0 r
            have hQe : secQ wide M.length A G0 r = headG (secG wide M.length A G0 r) (secT wide M.length A G0 r) G0.length := rfl
            have htw := takeN_wide wide M.length r
            rw [hT] at hgs hQe
            generalize secG wide M.length A G0 r = G at *
            generalize hGe : secG wide M.length A G0 (r + 1) = G' at *
            replace hGe := Lib.hid hGe
            generalize takeN wide M.length r = tk at *
            have hLl : (lensL G).length = O.length := by rw [lensL_len, hGr]; exact hG0.out
            rw [hAO.out] at hpa
            have hcn : ∀ y ∈ capL (partsL tk A) (lensL G), 0 ≤ y := fun y hy => by
              obtain ⟨i, hi, e⟩ := List.getElem_of_mem hy
              exact (cp3 i y (by rw [List.getElem?_eq_getElem hi, e])).1
            have hPl : (partsL tk A).length = O.length := by rw [pl1]; exact hAO.out
            have hPL : (partsL tk A).length = (lensL G).length := by omega
            have hcpl : (capL (partsL tk A) (lensL G)).length = O.length := by omega
            have hne : ¬ (tk : Int) = 0 := by omega
            replace hpa := Lib.hid hpa; replace hbs := Lib.hid hbs; replace hgs := Lib.hid hgs; replace hQe := Lib.hid hQe; replace hGr := Lib.hid hGr; replace hT := Lib.hid hT; replace hPl := Lib.hid hPl; replace hPL := Lib.hid hPL; replace hcpl := Lib.hid hcpl; replace hLl := Lib.hid hLl; replace cp1 := Lib.hid cp1; replace cp3 := Lib.hid cp3; replace pl1 := Lib.hid pl1
            replace pl2 := Lib.hid pl2; replace pl3 := Lib.hid pl3; replace hcn := Lib.hid hcn; replace hown := Lib.hid hown
            go_upto_region 25 with (go_at_call 38; (with_reducible refine Calls.mono hpa.out ?_); rintro e w9 ⟨gt, rfl, hgt, hT9, hb9⟩)
            have hM9 := hM7.more hb9
            have hB9 := hBr.ext hb9
            have hW9 := hWr.ext hb9
            have hE9 := hEr.trans hb9
            have hown9 := own_ext hb9 hown.out
            have hgtl := hT9.lt
            have hog9 : og < gt := by omega
            clear hM7 hBr hWr hEr hown hZr hSmr hpa hb9 c80 hmb
            have hngt := own_no hown9 hT9 (by decide)
            have hgt7 : w7.heap.size ≤ gt := by omega
            replace hown9 := Lib.hid hown9; replace hngt := Lib.hid hngt
            go_wp2
            go_loopw [19, 89] (fun v19 v89 wr => ∃ j : Nat, v89 = .int .i64 j ∧ j ≤ O.length ∧ v19 = .int .i64 (tk - ((capL (partsL tk A) (lensL G)).take j).sum) ∧ Blk wr gt 3 (rowI ((capL (partsL tk A) (lensL G)).take j ++ (partsL tk A).drop j)) ∧ ExtS gt w9 wr) (fun _ v89 _ => O.length - (intOf v89).toNat)
            case atStart => exact ⟨0, rfl, Nat.zero_le _, by simp, by simpa using hT9, ExtS.refl _ _⟩
            case round =>
              clear hT9
              obtain ⟨j, rfl, hj, rfl, hB4, hX4⟩ := hrel
              obtain ⟨t1, t2⟩ := take_nonneg hcn.out j
              by_cases hlt4 : j < O.length
              · obtain ⟨x, hx⟩ := getD_some hPl.out hlt4
                obtain ⟨g, hg⟩ := getD_some (rfl : G.length = G.length) (show j < G.length by rw [hGr.out, hG0.out]; exact hlt4)
                obtain ⟨p, c, hv, hSg, hgo⟩ := hM9.at_ j g hg
                have hgll : g.length ≤ 1000000000 := hSg.1.2.1
                have hjI : (j : Int) < O.length := by omega
                have x0 := pl2.out x (List.mem_of_getElem? hx)
                have x1 := (mem_le_sum pl2.out (List.mem_of_getElem? hx)).1
                have hca := capL_at hx (lensL_at hg)
                have hob4 := hM9.blk.extS (show og ≠ gt by omega) hX4
                have cog : wr.cell? ⟨og, j, none⟩ = some (.slice p g.length c) := (hob4.cell j).trans (by simpa using hv)
                have hol4 := hob4.lt
                have c8 := rowI_cell hB4 (mid_at (by rw [hcpl.out, hPl.out]) hx)
                have hgl4 := hB4.lt
                have hset := set_take_drop (xs := partsL tk A) (by rw [hcpl.out, hPl.out]) hca
                have hsn := sum_snoc hca
                obtain ⟨t3, t4⟩ := take_nonneg hcn.out (j + 1)
                rw [hsn] at t3 t4
                have hB4' := rowI_set hB4 j (min x (g.length : Int))
                rw [hset] at hB4'
                have hat2 : ((capL (partsL tk A) (lensL G)).take (j + 1) ++ (partsL tk A).drop (j + 1))[j]? = some (min x (g.length : Int)) := by
                  rw [List.getElem?_append_left (by rw [List.length_take, hcpl.out]; omega), List.getElem?_take_of_lt (by omega)]
                  exact hca
                have cp2' := cp2
                rw [pl3.out] at x1
                have hmn0 : 0 ≤ min x (g.length : Int) := by omega
                have hmn1 : min x (g.length : Int) ≤ x := by omega
                generalize hmv : min x (g.length : Int) = mv at *
                replace hsn := Lib.hid hsn; replace hat2 := Lib.hid hat2
                have hxH := Lib.hid hx
                have hsetH := Lib.hid hset
                clear hx hg hv hSg hca hset
                go_upto_region 28 with fail
                refine wp_region_facts [] [([], false, false), ([], false, false), ([], false, false), ([], false, false), ([2, 3], false, false), ([2, 3, 4], false, false), ([], false, false), ([], false, false), ([6, 7], false, false), ([6, 7, 8], false, false), ([6, 7, 8, 9], false, false), ([2, 3, 4, 5, 6, 7, 8, 9, 10], false, false), ([0, 1], false, false)] (Ext) Ext (fun _ => True) (by kernel_rfl) (by kernel_rfl) Ext.refl (fun _ _ _ => Ext.trans) (fun _ _ h => h) (fun _ _ h => h.size) (fun _ _ h _ => h) trivial ?_
                dsimp only [List.length_cons, List.length_nil, List.drop_succ_cons, List.drop_zero, List.drop_nil]
                refine fac_quiet 0 rfl rfl rfl (fun _ _ h _ => h) rfl rfl ?_
                apply Exists.intro
                refine ⟨fun sv w' hw' hfa => ?_, ?_⟩
                · refine ⟨rfl, ?_⟩
                  simp only [putsL]
                  change quietTo _ _ _ _ (Sem.run _ (execOp (Act.eval _) _) _)
                  try simp only [Act.put, sIA, sCS, sCZ]
                  simp [go_sem, quietTo, Ext.refl]
                  all_goals first
                    | rfl
                refine fac_quiet 1 rfl rfl rfl (fun _ _ h _ => h) rfl rfl ?_
                apply Exists.intro
                refine ⟨fun sv w' hw' hfa => ?_, ?_⟩
                · refine ⟨rfl, ?_⟩
                  simp only [putsL]
                  change quietTo _ _ _ _ (Sem.run _ (execOp (Act.eval _) _) _)
                  try simp only [Act.put, sIA, sCS, sCZ]
                  simp [go_sem, quietTo, Ext.refl]
                  all_goals first
                    | rfl
                refine fac_quiet 2 rfl rfl rfl (fun _ _ h _ => h) rfl rfl ?_
                apply Exists.intro
                refine ⟨fun sv w' hw' hfa => ?_, ?_⟩
                · refine ⟨rfl, ?_⟩
                  simp only [putsL]
                  change quietTo _ _ _ _ (Sem.run _ (execOp (Act.eval _) _) _)
                  try simp only [Act.put, sIA, sCS, sCZ]
                  simp [go_sem, quietTo, Ext.refl]
                  all_goals first
                    | rfl
                refine fac_quiet 3 rfl rfl rfl (fun _ _ h _ => h) rfl rfl ?_
                apply Exists.intro
                refine ⟨fun sv w' hw' hfa => ?_, ?_⟩
                · refine ⟨rfl, ?_⟩
                  simp only [putsL]
                  change quietTo _ _ _ _ (Sem.run _ (execOp (Act.eval _) _) _)
                  try simp only [Act.put, sIA, sCS, sCZ]
                  simp [go_sem, quietTo, Ext.refl]
                  all_goals first
                    | rfl
                refine fac_quiet 4 rfl rfl rfl (fun _ _ h _ => h) rfl rfl ?_
                apply Exists.intro
                refine ⟨fun sv w' hw' hfa => ?_, ?_⟩
                · obtain ⟨f2, f3, -⟩ := hfa
                  replace f2 : sv 2 = _ := f2; (try dsimp only at f2); replace f3 : sv 3 = _ := f3; (try dsimp only at f3)
                  have hk9 := (Ext.refl wr).drew.trans hw'; have y5 := (hk9.walk.1 _ _ hgl4).trans c8; have y9 := (hk9.walk.1 _ _ hol4).trans cog
                  refine ⟨rfl, ?_⟩
                  simp only [putsL]
                  change quietTo _ _ _ _ (Sem.run _ (execOp (Act.eval (Act.put (Act.put _ (some 95) (sv 3)) (some 94) (sv 2))) _) _)
                  try simp only [Act.put, sIA, sCS, sCZ]
                  simp [go_sem, quietTo, Ext.refl, ↓IntWalk.iteOmega, f2, f3, hjI]
                  all_goals try simp (disch := omega) only [IntWalk.i64_in]
                  all_goals first
                    | rfl
                refine fac_quiet 5 rfl rfl rfl (fun _ _ h _ => h) rfl rfl ?_
                apply Exists.intro
                refine ⟨fun sv w' hw' hfa => ?_, ?_⟩
                · obtain ⟨_, _, f4, -⟩ := hfa
                  replace f4 : sv 4 = _ := f4; (try dsimp only at f4)
                  have hk9 := (Ext.refl wr).drew.trans hw'; have y5 := (hk9.walk.1 _ _ hgl4).trans c8; have y9 := (hk9.walk.1 _ _ hol4).trans cog
                  refine ⟨rfl, ?_⟩
                  simp only [putsL]
                  change quietTo _ _ _ _ (Sem.run _ (execOp (Act.eval (Act.put (Act.put (Act.put _ (some 96) (sv 4)) (some 95) (sv 3)) (some 94) (sv 2))) _) _)
                  try simp only [Act.put, sIA, sCS, sCZ]
                  simp [go_sem, quietTo, Ext.refl, ↓IntWalk.iteOmega, f4, y5]
                  all_goals try simp (disch := omega) only [IntWalk.i64_in]
                  all_goals first
                    | rfl
                refine fac_quiet 6 rfl rfl rfl (fun _ _ h _ => h) rfl rfl ?_
                apply Exists.intro
                refine ⟨fun sv w' hw' hfa => ?_, ?_⟩
                · refine ⟨rfl, ?_⟩
                  simp only [putsL]
                  change quietTo _ _ _ _ (Sem.run _ (execOp (Act.eval _) _) _)
                  try simp only [Act.put, sIA, sCS, sCZ]
                  simp [go_sem, quietTo, Ext.refl]
                  all_goals first
                    | rfl
                refine fac_quiet 7 rfl rfl rfl (fun _ _ h _ => h) rfl rfl ?_
                apply Exists.intro
                refine ⟨fun sv w' hw' hfa => ?_, ?_⟩
                · refine ⟨rfl, ?_⟩
                  simp only [putsL]
                  change quietTo _ _ _ _ (Sem.run _ (execOp (Act.eval _) _) _)
                  try simp only [Act.put, sIA, sCS, sCZ]
                  simp [go_sem, quietTo, Ext.refl]
                  all_goals first
                    | rfl
                refine fac_quiet 8 rfl rfl rfl (fun _ _ h _ => h) rfl rfl ?_
                apply Exists.intro
                refine ⟨fun sv w' hw' hfa => ?_, ?_⟩
                · obtain ⟨f6, f7, -⟩ := hfa
                  replace f6 : sv 6 = _ := f6; (try dsimp only at f6); replace f7 : sv 7 = _ := f7; (try dsimp only at f7)
                  have hk9 := (Ext.refl wr).drew.trans hw'; have y5 := (hk9.walk.1 _ _ hgl4).trans c8; have y9 := (hk9.walk.1 _ _ hol4).trans cog
                  refine ⟨rfl, ?_⟩
                  simp only [putsL]
                  change quietTo _ _ _ _ (Sem.run _ (execOp (Act.eval (Act.put (Act.put _ (some 99) (sv 7)) (some 98) (sv 6))) _) _)
                  try simp only [Act.put, sIA, sCS, sCZ]
                  simp [go_sem, quietTo, Ext.refl, ↓IntWalk.iteOmega, f6, f7, hjI]
                  all_goals try simp (disch := omega) only [IntWalk.i64_in]
                  all_goals first
                    | rfl
                refine fac_quiet 9 rfl rfl rfl (fun _ _ h _ => h) rfl rfl ?_
                apply Exists.intro
                refine ⟨fun sv w' hw' hfa => ?_, ?_⟩
                · obtain ⟨_, _, f8, -⟩ := hfa
                  replace f8 : sv 8 = _ := f8; (try dsimp only at f8)
                  have hk9 := (Ext.refl wr).drew.trans hw'; have y5 := (hk9.walk.1 _ _ hgl4).trans c8; have y9 := (hk9.walk.1 _ _ hol4).trans cog
                  refine ⟨rfl, ?_⟩
                  simp only [putsL]
                  change quietTo _ _ _ _ (Sem.run _ (execOp (Act.eval (Act.put (Act.put (Act.put _ (some 100) (sv 8)) (some 99) (sv 7)) (some 98) (sv 6))) _) _)
                  try simp only [Act.put, sIA, sCS, sCZ]
                  simp [go_sem, quietTo, Ext.refl, ↓IntWalk.iteOmega, f8, y9]
                  all_goals try simp (disch := omega) only [IntWalk.i64_in]
                  all_goals first
                    | rfl
                refine fac_quiet 10 rfl rfl rfl (fun _ _ h _ => h) rfl rfl ?_
                apply Exists.intro
                refine ⟨fun sv w' hw' hfa => ?_, ?_⟩
                · obtain ⟨_, _, _, f9, -⟩ := hfa
                  replace f9 : sv 9 = _ := f9; (try dsimp only at f9)
                  refine ⟨rfl, ?_⟩
                  simp only [putsL]
                  change quietTo _ _ _ _ (Sem.run _ (execOp (Act.eval (Act.put (Act.put (Act.put (Act.put _ (some 101) (sv 9)) (some 100) (sv 8)) (some 99) (sv 7)) (some 98) (sv 6))) _) _)
                  try simp only [Act.put, sIA, sCS, sCZ]
                  simp [go_sem, quietTo, Ext.refl, ↓IntWalk.iteOmega, f9]
                  all_goals try simp (disch := omega) only [IntWalk.i64_in]
                  all_goals first
                    | rfl
                refine fac_quiet 11 rfl rfl rfl (fun _ _ h _ => h) rfl rfl ?_
                apply Exists.intro
                refine ⟨fun sv w' hw' hfa => ?_, ?_⟩
                · obtain ⟨_, _, _, f5, _, _, _, _, f10, -⟩ := hfa
                  replace f5 : sv 5 = _ := f5; (try dsimp only at f5); replace f10 : sv 10 = _ := f10; (try dsimp only at f10)
                  have hk9 := (Ext.refl wr).drew.trans hw'; have y5 := (hk9.walk.1 _ _ hgl4).trans c8; have y9 := (hk9.walk.1 _ _ hol4).trans cog
                  refine ⟨rfl, ?_⟩
                  simp only [putsL]
                  change quietTo _ _ _ _ (Sem.run _ (execOp (Act.eval (Act.put (Act.put (Act.put (Act.put (Act.put (Act.put (Act.put (Act.put (Act.put _ (some 102) (sv 10)) (some 101) (sv 9)) (some 100) (sv 8)) (some 99) (sv 7)) (some 98) (sv 6)) (some 97) (sv 5)) (some 96) (sv 4)) (some 95) (sv 3)) (some 94) (sv 2))) _) _)
                  try simp only [Act.put, sIA, sCS, sCZ]
                  simp [go_sem, quietTo, Ext.refl, ↓IntWalk.iteOmega, f5, f10, hmv]
                  all_goals try simp (disch := omega) only [IntWalk.i64_in]
                  all_goals first
                    | rfl
                refine fac_quiet 12 rfl rfl rfl (fun _ _ h _ => h) rfl rfl ?_
                apply Exists.intro
                refine ⟨fun sv w' hw' hfa => ?_, ?_⟩
                · obtain ⟨f0, f1, -⟩ := hfa
                  replace f0 : sv 0 = _ := f0; (try dsimp only at f0); replace f1 : sv 1 = _ := f1; (try dsimp only at f1)
                  have hk9 := (Ext.refl wr).drew.trans hw'; have y5 := (hk9.walk.1 _ _ hgl4).trans c8; have y9 := (hk9.walk.1 _ _ hol4).trans cog
                  refine ⟨rfl, ?_⟩
                  simp only [putsL]
                  change quietTo _ _ _ _ (Sem.run _ (execOp (Act.eval (Act.put (Act.put _ (some 93) (sv 1)) (some 92) (sv 0))) _) _)
                  try simp only [Act.put, sIA, sCS, sCZ]
                  simp [go_sem, quietTo, Ext.refl, ↓IntWalk.iteOmega, f0, f1, hjI]
                  all_goals try simp (disch := omega) only [IntWalk.i64_in]
                  all_goals first
                    | rfl
                refine fac_nil fun xq wrq herq hfrq hcrq holdq hapq => ?_
                obtain ⟨f0, f1, f2, f3, f4, f5, f6, f7, f8, f9, f10, f11, f12, -⟩ := hfrq
                replace f0 : xq 0 = _ := f0
                (try dsimp only at f0)
                replace f1 : xq 1 = _ := f1
                (try dsimp only at f1)
                replace f2 : xq 2 = _ := f2
                (try dsimp only at f2)
                replace f3 : xq 3 = _ := f3
                (try dsimp only at f3)
                replace f4 : xq 4 = _ := f4
                (try dsimp only at f4)
                replace f5 : xq 5 = _ := f5
                (try dsimp only at f5)
                replace f6 : xq 6 = _ := f6
                (try dsimp only at f6)
                replace f7 : xq 7 = _ := f7
                (try dsimp only at f7)
                replace f8 : xq 8 = _ := f8
                (try dsimp only at f8)
                replace f9 : xq 9 = _ := f9
                (try dsimp only at f9)
                replace f10 : xq 10 = _ := f10
                (try dsimp only at f10)
                replace f11 : xq 11 = _ := f11
                (try dsimp only at f11)
                replace f12 : xq 12 = _ := f12
                (try dsimp only at f12)
                change wpList _ _ _ _ (Act.put (Act.put (Act.put (Act.put (Act.put (Act.put (Act.put (Act.put (Act.put (Act.put (Act.put (Act.put (Act.put _ (some 92) (xq 0)) (some 93) (xq 1)) (some 94) (xq 2)) (some 95) (xq 3)) (some 96) (xq 4)) (some 97) (xq 5)) (some 98) (xq 6)) (some 99) (xq 7)) (some 100) (xq 8)) (some 101) (xq 9)) (some 102) (xq 10)) (some 103) (xq 11)) (some 104) (xq 12)) _
                simp only [putsL, Nat.reduceAdd, List.drop_succ_cons, List.drop_zero, List.drop_nil, Act.put, sIA, sCS, sCZ]
                try simp only [f0, f1, f2, f3, f4, f5, f6, f7, f8, f9, f10, f11, f12]
                clear f0 f1 f2 f3 f4 f5 f6 f7 f8 f9 f10 f11 f12; clear holdq hapq
                have hkq := (Ext.refl wr).drew.trans herq
                have hB5 := hB4.ext hkq
                obtain ⟨-, f5⟩ := hB5.walk
                have l5 := hB5.lt
                have c5 := rowI_cell hB5 (mid_at (x := x) (by rw [hcpl.out, hPl.out]) hxH.out)
                have hX5 := (hX4.ext hkq).setCell (p := ⟨gt, j, none⟩) (.inl rfl) (.int .i64 mv)
                have hB6 : Blk (wrq.setCell ⟨gt, j, none⟩ (.int .i64 mv)) gt 3 (rowI ((capL (partsL tk A) (lensL G)).take (j + 1) ++ (partsL tk A).drop (j + 1))) := by
                  have := rowI_set hB5 j mv
                  rw [hsetH.out] at this
                  exact this
                clear hB4 hX4 herq hkq hB5 c8 hgl4 hob4 cog hol4
                go_upto_region 29 with fail
                obtain ⟨W6, hW6⟩ : ∃ W, W = wrq.setCell ⟨gt, j, none⟩ (.int .i64 mv) := ⟨_, rfl⟩
                change Code.wp _ _ _ _ (wrq.setCell ⟨gt, j, none⟩ (.int .i64 mv))
                rw [← hW6] at hX5 hB6
                rw [← hW6]
                clear hW6 f5 l5 c5
                have c6 := rowI_cell hB6 hat2.out
                have l6 := hB6.lt
                go_wp2
                go_roundw
                case rel => exact ⟨j + 1, by go_num, by omega, by rw [hsn.out]; congr 1; omega, hB6, hX5⟩
                case measure => simp [intOf]; omega
              · obtain rfl : j = O.length := by omega
                have e1 : (capL (partsL tk A) (lensL G)).take O.length = capL (partsL tk A) (lensL G) := List.take_of_length_le (by rw [hcpl.out]; exact Nat.le_refl _)
                have e2 : (partsL tk A).drop O.length = [] := List.drop_eq_nil_of_le (by rw [hPl.out]; exact Nat.le_refl _)
                rw [e1, e2, List.append_nil] at hB4
                rw [e1]
                clear e1 e2 t1 t2
                have hM10 := hM9.grown hX4.grownBy (fun q e => by cases e; exact ⟨hgt7, by omega⟩)
                have hown10 := hown9.out.kept hX4.grownBy (.inr hngt.out)
                have hB10 := hB9.extS (show w.heap.size ≠ gt by omega) hX4
                have hW10 := hW9.extS hX4 (fun a ha => by obtain ⟨b, off, rfl, hb⟩ := hW7.2.2.2 a ha; simp only; omega)
                have hE10 := ExtS.back hE9 (by omega) hX4
                have hsz10 := hX4.2.2.2.1
                have hgl10 := hB4.lt
                have hol10 := hM10.blk.lt
                have hsl : (shrL tk A (lensL G)).length = O.length := by rw [hsh.sh.1]; exact hAO.out
                have hse : shrL tk A (lensL G) = shL (lensL G) (capL (partsL tk A) (lensL G)) (tk - (capL (partsL tk A) (lensL G)).sum) := rfl
                have hng := nextG_len G (shrL tk A (lensL G))
                have hov := fun (q : Nat) (hq : q ≤ O.length) => ovT_ok (Lf := lensL G) (C := capL (partsL tk A) (lensL G)) cp2 cp1.out cp3.out q (by rw [hcpl.out]; exact hq)
                have hmt := fun (q : Nat) (c y : Int) (hc : (capL (partsL tk A) (lensL G))[q]? = some c) (hy : (lensL G)[q]? = some y) => mT_ok (Lf := lensL G) (C := capL (partsL tk A) (lensL G)) cp2 cp1.out cp3.out hc hy
                have hc3 := cp3.out
                have hhl : ∀ q, q ≤ O.length → (headG G (shrL tk A (lensL G)) q).length ≤ 19 := fun q hq => by
                  obtain ⟨s1, s2, s3⟩ := hsh.sh
                  have h1 := headG_len (G := G) (T := shrL tk A (lensL G)) (by rw [s1, hAO.out, hGr.out, hG0.out]) s3 q (by rw [hGr.out, hG0.out]; exact hq)
                  have h2 := (take_nonneg (L := shrL tk A (lensL G)) (fun y hy => by
                    obtain ⟨i, hi, e⟩ := List.getElem_of_mem hy
                    exact (s3 i y (by rw [List.getElem?_eq_getElem hi, e])).1) q).2
                  omega
                have hGl : G.length = O.length := by rw [hGr.out, hG0.out]
                generalize hSH : shrL tk A (lensL G) = SH at *
                generalize hCC : capL (partsL tk A) (lensL G) = CC at *
                have hco : (tk : Int) - CC.sum ≤ tk ∧ 0 ≤ (tk : Int) - CC.sum := by
                  have := sum_nonneg hcn.out
                  omega
                generalize hOV : (tk : Int) - CC.sum = OV at *
                have hov0 : ovT (lensL G) CC OV 0 = OV := rfl
                replace hSH := Lib.hid hSH; replace hCC := Lib.hid hCC; replace hOV := Lib.hid hOV; replace hov0 := Lib.hid hov0; replace hov := Lib.hid hov; replace hmt := Lib.hid hmt; replace hc3 := Lib.hid hc3; replace hGl := Lib.hid hGl; replace hsl := Lib.hid hsl; replace hse := Lib.hid hse; replace hng := Lib.hid hng; replace hhl := Lib.hid hhl
                have hno1 := own_no hown10 hM10.blk (by decide)
                have hno2 := own_no hown10 hB4 (by decide)
                replace hno1 := Lib.hid hno1; replace hno2 := Lib.hid hno2; replace hown10 := Lib.hid hown10; clear hX4 hM9 hown9 hB9 hW9 hE9 hcn cp1 cp2 cp3 hsh hngt hsk
                generalize wr = W10 at *
                go_wp2
                go_loopw [19, 21, 114] (fun v19 v21 v114 wr => ∃ (j : Nat) (vs : List Value) (v : Value), v21 = v ∧ v114 = .int .i64 j ∧ j ≤ O.length ∧ v19 = .int .i64 (ovT (lensL G) CC OV j) ∧ wr.ownsRow W10.heap.size 42 3 v (headG G SH j).length ((headG G SH j).flatMap perC) ∧ Blk wr gt 3 (rowI (SH.take j ++ CC.drop j)) ∧ SecM w7 wr og ((nextG G SH).take j ++ G.drop j) vs ∧ ExtQ og gt W10 wr) (fun _ _ v114 _ => O.length - (intOf v114).toNat)
                case atStart => exact ⟨0, vs, _, rfl, rfl, Nat.zero_le _, by rw [hov0.out], World.ownsRow_nil _ _ _ _, by simpa using hB4, by simpa using hM10, ExtQ.refl _ _ _⟩
                case round =>
                  clear hB4 hM10
                  obtain ⟨j, vs, v, rfl, rfl, hj, rfl, hrow, hB6, hM6, hX6⟩ := hrel
                  have hsz6 := hX6.2.2.2.1
                  by_cases hlt6 : j < O.length
                  · obtain ⟨g, hg⟩ := getD_some hGl.out hlt6
                    obtain ⟨cv, hcv⟩ := getD_some hcpl.out hlt6
                    obtain ⟨p, cc, hv, hSg, hgo⟩ := hM6.at_ j g (mid_at (by rw [hng.out]) hg)
                    obtain ⟨m0, m1, m2⟩ := hmt.out j cv _ hcv (lensL_at hg)
                    obtain ⟨o0, o1, -⟩ := hov.out j hj
                    obtain ⟨cv0, -, -, -⟩ := hc3.out j cv hcv
                    have hshj : SH[j]? = some (cv + mT (lensL G) CC OV j) := by rw [hse.out]; exact shL_at hcv
                    have hos := ovT_succ (lensL G) CC OV j
                    have hov1 := (hov.out (j + 1) (by omega)).1
                    rw [hos] at hov1
                    generalize ovT (lensL G) CC OV j = ovj at *
                    generalize mT (lensL G) CC OV j = mj at *
                    obtain ⟨tn, htn⟩ : ∃ tn : Nat, cv + mj = tn := ⟨(cv + mj).toNat, by omega⟩
                    rw [htn] at hshj
                    have hjI : (j : Int) < O.length := by omega
                    have hgll : g.length ≤ 1000000000 := hSg.1.2.1
                    have hgcc := hSg.2.1
                    have htg : tn ≤ g.length := by omega
                    have cog := hM6.cell hv
                    have c6 := rowI_cell hB6 (mid_at (x := cv) (by rw [hsl.out, hcpl.out]) hcv)
                    have hol6 := hM6.blk.lt
                    have hgl6 := hB6.lt
                    have hw10 : IntKind.i64.wrap ((g.length : Int) - cv) = (g.length : Int) - cv := IntWalk.i64_in _ (by omega)
                    have hmin : min ovj ((g.length : Int) - cv) = mj := m2.symm
                    have hset := set_take_drop (xs := CC) (by rw [hsl.out, hcpl.out]) hshj
                    have hhs := headG_succ hg hshj
                    have hnx := nextG_at hg hshj
                    rw [Int.toNat_natCast] at hhs hnx
                    have hset2 := set_take_drop (xs := G) (by rw [hng.out]) hnx
                    have hhj := hhl.out j hj
                    have htn19 : tn ≤ 19 := by
                      have h1 := hhl.out (j + 1) (by omega)
                      rw [hhs, List.length_append, List.length_take] at h1
                      omega
                    have htcI : (tn : Int) ≤ cc := by omega
                    replace hw10 := Lib.hid hw10; replace hmin := Lib.hid hmin; replace hset := Lib.hid hset; replace hset2 := Lib.hid hset2; replace hhs := Lib.hid hhs; replace hnx := Lib.hid hnx; replace hos := Lib.hid hos; replace htn := Lib.hid htn
                    have hcvH := Lib.hid hcv
                    have hshjH := Lib.hid hshj
                    have hgH := Lib.hid (mid_at (ys := nextG G SH) (by rw [hng.out]) hg)
                    have hvH := Lib.hid hv
                    replace hrow := Lib.hid hrow; clear hg hcv hv hshj m2
                    go_upto_region 35 with fail
                    refine wp_region_facts [] [([], false, false), ([], false, false), ([], false, false), ([1, 2], false, false), ([1, 2, 3], false, false), ([1, 2, 3, 4], false, false), ([], false, false), ([], false, false), ([6, 7], false, false), ([6, 7, 8], false, false), ([1, 2, 3, 4, 5, 6, 7, 8, 9], false, false), ([0, 1, 2, 3, 4, 5, 6, 7, 8, 9, 10], false, false)] (Ext) Ext (fun _ => True) (by kernel_rfl) (by kernel_rfl) Ext.refl (fun _ _ _ => Ext.trans) (fun _ _ h => h) (fun _ _ h => h.size) (fun _ _ h _ => h) trivial ?_
                    dsimp only [List.length_cons, List.length_nil, List.drop_succ_cons, List.drop_zero, List.drop_nil]
                    refine fac_quiet 0 rfl rfl rfl (fun _ _ h _ => h) rfl rfl ?_
                    apply Exists.intro
                    refine ⟨fun sv w' hw' hfa => ?_, ?_⟩
                    · refine ⟨rfl, ?_⟩
                      simp only [putsL]
                      change quietTo _ _ _ _ (Sem.run _ (execOp (Act.eval _) _) _)
                      try simp only [Act.put, sIA, sCS, sCZ]
                      simp [go_sem, quietTo, Ext.refl]
                      all_goals first
                        | rfl
                    refine fac_quiet 1 rfl rfl rfl (fun _ _ h _ => h) rfl rfl ?_
                    apply Exists.intro
                    refine ⟨fun sv w' hw' hfa => ?_, ?_⟩
                    · refine ⟨rfl, ?_⟩
                      simp only [putsL]
                      change quietTo _ _ _ _ (Sem.run _ (execOp (Act.eval _) _) _)
                      try simp only [Act.put, sIA, sCS, sCZ]
                      simp [go_sem, quietTo, Ext.refl]
                      all_goals first
                        | rfl
                    refine fac_quiet 2 rfl rfl rfl (fun _ _ h _ => h) rfl rfl ?_
                    apply Exists.intro
                    refine ⟨fun sv w' hw' hfa => ?_, ?_⟩
                    · refine ⟨rfl, ?_⟩
                      simp only [putsL]
                      change quietTo _ _ _ _ (Sem.run _ (execOp (Act.eval _) _) _)
                      try simp only [Act.put, sIA, sCS, sCZ]
                      simp [go_sem, quietTo, Ext.refl]
                      all_goals first
                        | rfl
                    refine fac_quiet 3 rfl rfl rfl (fun _ _ h _ => h) rfl rfl ?_
                    apply Exists.intro
                    refine ⟨fun sv w' hw' hfa => ?_, ?_⟩
                    · obtain ⟨f1, f2, -⟩ := hfa
                      replace f1 : sv 1 = _ := f1; (try dsimp only at f1); replace f2 : sv 2 = _ := f2; (try dsimp only at f2)
                      have hk9 := (Ext.refl wr).drew.trans hw'; have y9 := (hk9.walk.1 _ _ hgl6).trans c6; have y4 := (hk9.walk.1 _ _ hol6).trans cog
                      refine ⟨rfl, ?_⟩
                      simp only [putsL]
                      change quietTo _ _ _ _ (Sem.run _ (execOp (Act.eval (Act.put (Act.put _ (some 119) (sv 2)) (some 118) (sv 1))) _) _)
                      try simp only [Act.put, sIA, sCS, sCZ]
                      simp [go_sem, quietTo, Ext.refl, ↓IntWalk.iteOmega, f1, f2, hjI]
                      all_goals try simp (disch := omega) only [IntWalk.i64_in]
                      all_goals first
                        | rfl
                    refine fac_quiet 4 rfl rfl rfl (fun _ _ h _ => h) rfl rfl ?_
                    apply Exists.intro
                    refine ⟨fun sv w' hw' hfa => ?_, ?_⟩
                    · obtain ⟨_, _, f3, -⟩ := hfa
                      replace f3 : sv 3 = _ := f3; (try dsimp only at f3)
                      have hk9 := (Ext.refl wr).drew.trans hw'; have y9 := (hk9.walk.1 _ _ hgl6).trans c6; have y4 := (hk9.walk.1 _ _ hol6).trans cog
                      refine ⟨rfl, ?_⟩
                      simp only [putsL]
                      change quietTo _ _ _ _ (Sem.run _ (execOp (Act.eval (Act.put (Act.put (Act.put _ (some 120) (sv 3)) (some 119) (sv 2)) (some 118) (sv 1))) _) _)
                      try simp only [Act.put, sIA, sCS, sCZ]
                      simp [go_sem, quietTo, Ext.refl, ↓IntWalk.iteOmega, f3, y4]
                      all_goals try simp (disch := omega) only [IntWalk.i64_in]
                      all_goals first
                        | rfl
                    refine fac_quiet 5 rfl rfl rfl (fun _ _ h _ => h) rfl rfl ?_
                    apply Exists.intro
                    refine ⟨fun sv w' hw' hfa => ?_, ?_⟩
                    · obtain ⟨_, _, _, f4, -⟩ := hfa
                      replace f4 : sv 4 = _ := f4; (try dsimp only at f4)
                      refine ⟨rfl, ?_⟩
                      simp only [putsL]
                      change quietTo _ _ _ _ (Sem.run _ (execOp (Act.eval (Act.put (Act.put (Act.put (Act.put _ (some 121) (sv 4)) (some 120) (sv 3)) (some 119) (sv 2)) (some 118) (sv 1))) _) _)
                      try simp only [Act.put, sIA, sCS, sCZ]
                      simp [go_sem, quietTo, Ext.refl, ↓IntWalk.iteOmega, f4]
                      all_goals try simp (disch := omega) only [IntWalk.i64_in]
                      all_goals first
                        | rfl
                    refine fac_quiet 6 rfl rfl rfl (fun _ _ h _ => h) rfl rfl ?_
                    apply Exists.intro
                    refine ⟨fun sv w' hw' hfa => ?_, ?_⟩
                    · refine ⟨rfl, ?_⟩
                      simp only [putsL]
                      change quietTo _ _ _ _ (Sem.run _ (execOp (Act.eval _) _) _)
                      try simp only [Act.put, sIA, sCS, sCZ]
                      simp [go_sem, quietTo, Ext.refl]
                      all_goals first
                        | rfl
                    refine fac_quiet 7 rfl rfl rfl (fun _ _ h _ => h) rfl rfl ?_
                    apply Exists.intro
                    refine ⟨fun sv w' hw' hfa => ?_, ?_⟩
                    · refine ⟨rfl, ?_⟩
                      simp only [putsL]
                      change quietTo _ _ _ _ (Sem.run _ (execOp (Act.eval _) _) _)
                      try simp only [Act.put, sIA, sCS, sCZ]
                      simp [go_sem, quietTo, Ext.refl]
                      all_goals first
                        | rfl
                    refine fac_quiet 8 rfl rfl rfl (fun _ _ h _ => h) rfl rfl ?_
                    apply Exists.intro
                    refine ⟨fun sv w' hw' hfa => ?_, ?_⟩
                    · obtain ⟨f6, f7, -⟩ := hfa
                      replace f6 : sv 6 = _ := f6; (try dsimp only at f6); replace f7 : sv 7 = _ := f7; (try dsimp only at f7)
                      have hk9 := (Ext.refl wr).drew.trans hw'; have y9 := (hk9.walk.1 _ _ hgl6).trans c6; have y4 := (hk9.walk.1 _ _ hol6).trans cog
                      refine ⟨rfl, ?_⟩
                      simp only [putsL]
                      change quietTo _ _ _ _ (Sem.run _ (execOp (Act.eval (Act.put (Act.put _ (some 124) (sv 7)) (some 123) (sv 6))) _) _)
                      try simp only [Act.put, sIA, sCS, sCZ]
                      simp [go_sem, quietTo, Ext.refl, ↓IntWalk.iteOmega, f6, f7, hjI]
                      all_goals try simp (disch := omega) only [IntWalk.i64_in]
                      all_goals first
                        | rfl
                    refine fac_quiet 9 rfl rfl rfl (fun _ _ h _ => h) rfl rfl ?_
                    apply Exists.intro
                    refine ⟨fun sv w' hw' hfa => ?_, ?_⟩
                    · obtain ⟨_, _, f8, -⟩ := hfa
                      replace f8 : sv 8 = _ := f8; (try dsimp only at f8)
                      have hk9 := (Ext.refl wr).drew.trans hw'; have y9 := (hk9.walk.1 _ _ hgl6).trans c6; have y4 := (hk9.walk.1 _ _ hol6).trans cog
                      refine ⟨rfl, ?_⟩
                      simp only [putsL]
                      change quietTo _ _ _ _ (Sem.run _ (execOp (Act.eval (Act.put (Act.put (Act.put _ (some 125) (sv 8)) (some 124) (sv 7)) (some 123) (sv 6))) _) _)
                      try simp only [Act.put, sIA, sCS, sCZ]
                      simp [go_sem, quietTo, Ext.refl, ↓IntWalk.iteOmega, f8, y9]
                      all_goals try simp (disch := omega) only [IntWalk.i64_in]
                      all_goals first
                        | rfl
                    refine fac_quiet 10 rfl rfl rfl (fun _ _ h _ => h) rfl rfl ?_
                    apply Exists.intro
                    refine ⟨fun sv w' hw' hfa => ?_, ?_⟩
                    · obtain ⟨_, _, _, _, f5, _, _, _, f9, -⟩ := hfa
                      replace f5 : sv 5 = _ := f5; (try dsimp only at f5); replace f9 : sv 9 = _ := f9; (try dsimp only at f9)
                      have hk9 := (Ext.refl wr).drew.trans hw'; have y9 := (hk9.walk.1 _ _ hgl6).trans c6; have y4 := (hk9.walk.1 _ _ hol6).trans cog
                      refine ⟨rfl, ?_⟩
                      simp only [putsL]
                      change quietTo _ _ _ _ (Sem.run _ (execOp (Act.eval (Act.put (Act.put (Act.put (Act.put (Act.put (Act.put (Act.put (Act.put (Act.put _ (some 126) (sv 9)) (some 125) (sv 8)) (some 124) (sv 7)) (some 123) (sv 6)) (some 122) (sv 5)) (some 121) (sv 4)) (some 120) (sv 3)) (some 119) (sv 2)) (some 118) (sv 1))) _) _)
                      try simp only [Act.put, sIA, sCS, sCZ]
                      simp [go_sem, quietTo, Ext.refl, ↓IntWalk.iteOmega, f5, f9, hw10.out]
                      all_goals try simp (disch := omega) only [IntWalk.i64_in]
                      all_goals first
                        | rfl
                    refine fac_quiet 11 rfl rfl rfl (fun _ _ h _ => h) rfl rfl ?_
                    apply Exists.intro
                    refine ⟨fun sv w' hw' hfa => ?_, ?_⟩
                    · obtain ⟨f0, _, _, _, _, _, _, _, _, _, f10, -⟩ := hfa
                      replace f0 : sv 0 = _ := f0; (try dsimp only at f0); replace f10 : sv 10 = _ := f10; (try dsimp only at f10)
                      have hk9 := (Ext.refl wr).drew.trans hw'; have y9 := (hk9.walk.1 _ _ hgl6).trans c6; have y4 := (hk9.walk.1 _ _ hol6).trans cog
                      refine ⟨rfl, ?_⟩
                      simp only [putsL]
                      change quietTo _ _ _ _ (Sem.run _ (execOp (Act.eval (Act.put (Act.put (Act.put (Act.put (Act.put (Act.put (Act.put (Act.put (Act.put (Act.put (Act.put _ (some 127) (sv 10)) (some 126) (sv 9)) (some 125) (sv 8)) (some 124) (sv 7)) (some 123) (sv 6)) (some 122) (sv 5)) (some 121) (sv 4)) (some 120) (sv 3)) (some 119) (sv 2)) (some 118) (sv 1)) (some 117) (sv 0))) _) _)
                      try simp only [Act.put, sIA, sCS, sCZ]
                      simp [go_sem, quietTo, Ext.refl, ↓IntWalk.iteOmega, f0, f10, hmin.out]
                      all_goals try simp (disch := omega) only [IntWalk.i64_in]
                      all_goals first
                        | rfl
                    refine fac_nil fun xq wrq herq hfrq hcrq holdq hapq => ?_
                    obtain ⟨f0, f1, f2, f3, f4, f5, f6, f7, f8, f9, f10, f11, -⟩ := hfrq
                    replace f0 : xq 0 = _ := f0
                    (try dsimp only at f0)
                    replace f1 : xq 1 = _ := f1
                    (try dsimp only at f1)
                    replace f2 : xq 2 = _ := f2
                    (try dsimp only at f2)
                    replace f3 : xq 3 = _ := f3
                    (try dsimp only at f3)
                    replace f4 : xq 4 = _ := f4
                    (try dsimp only at f4)
                    replace f5 : xq 5 = _ := f5
                    (try dsimp only at f5)
                    replace f6 : xq 6 = _ := f6
                    (try dsimp only at f6)
                    replace f7 : xq 7 = _ := f7
                    (try dsimp only at f7)
                    replace f8 : xq 8 = _ := f8
                    (try dsimp only at f8)
                    replace f9 : xq 9 = _ := f9
                    (try dsimp only at f9)
                    replace f10 : xq 10 = _ := f10
                    (try dsimp only at f10)
                    replace f11 : xq 11 = _ := f11
                    (try dsimp only at f11)
                    change wpList _ _ _ _ (Act.put (Act.put (Act.put (Act.put (Act.put (Act.put (Act.put (Act.put (Act.put (Act.put (Act.put (Act.put _ (some 117) (xq 0)) (some 118) (xq 1)) (some 119) (xq 2)) (some 120) (xq 3)) (some 121) (xq 4)) (some 122) (xq 5)) (some 123) (xq 6)) (some 124) (xq 7)) (some 125) (xq 8)) (some 126) (xq 9)) (some 127) (xq 10)) (some 128) (xq 11)) _
                    simp only [putsL, Nat.reduceAdd, List.drop_succ_cons, List.drop_zero, List.drop_nil, Act.put, sIA, sCS, sCZ]
                    try simp only [f0, f1, f2, f3, f4, f5, f6, f7, f8, f9, f10, f11]
                    clear f0 f1 f2 f3 f4 f5 f6 f7 f8 f9 f10 f11; clear holdq hapq
                    have hkq := (Ext.refl wr).drew.trans herq
                    have hB7 := hB6.ext hkq
                    have hM7 := hM6.more hkq
                    have hrow7 := own_ext hkq hrow.out
                    have hX7 := hX6.ext hkq
                    have hnt := own_no hrow7 hB7 (by decide)
                    obtain ⟨-, f7⟩ := hB7.walk
                    have l7 := hB7.lt
                    have c7 := rowI_cell hB7 (mid_at (x := cv) (by rw [hsl.out, hcpl.out]) hcvH.out)
                    have hB8 := rowI_set hB7 j (tn : Int)
                    rw [hset.out] at hB8
                    have hM8 := hM7.far (p := ⟨gt, j, none⟩) hgt7 (by simp only; omega) (.int .i64 tn)
                    have hrow8 := hrow7.kept (grown_set wrq ⟨gt, j, none⟩ (.int .i64 tn)) (.inr hnt)
                    have hX8 := hX7.set (p := ⟨gt, j, none⟩) (.inr rfl) (.int .i64 tn)
                    have htn2 := htn.out
                    clear hB6 hM6 hrow hX6 herq hkq hB7 hM7 hrow7 hX7 hnt cog c6 hol6 hgl6
                    go_upto_region 37 with fail
                    obtain ⟨W8, hW8⟩ : ∃ W, W = wrq.setCell ⟨gt, j, none⟩ (.int .i64 tn) := ⟨_, rfl⟩
                    change Code.wp _ _ _ _ (wrq.setCell ⟨gt, j, none⟩ (.int .i64 tn))
                    rw [← hW8] at hB8 hM8 hrow8 hX8
                    rw [← hW8]
                    clear hW8 f7 l7 c7 htn2
                    have hat8 : (SH.take (j + 1) ++ CC.drop (j + 1))[j]? = some (tn : Int) := by
                      rw [List.getElem?_append_left (by rw [List.length_take, hsl.out]; omega), List.getElem?_take_of_lt (by omega)]
                      exact hshjH.out
                    have c8 := rowI_cell hB8 hat8
                    have l8 := hB8.lt
                    have cog8 := hM8.cell hvH.out
                    have lo8 := hM8.blk.lt
                    have hsz8 := hX8.2.2.2.1
                    replace hat8 := Lib.hid hat8; replace hrow8 := Lib.hid hrow8
                    go_upto_region 38 with fail
                    refine wp_region_facts [] [([], false, false), ([], false, false), ([], false, false), ([1, 2], false, false), ([1, 2, 3], false, false), ([], false, false), ([], false, false), ([5, 6], false, false), ([5, 6, 7], false, false), ([1, 2, 3, 4, 5, 6, 7, 8], false, false)] (Ext) Ext (fun _ => True) (by kernel_rfl) (by kernel_rfl) Ext.refl (fun _ _ _ => Ext.trans) (fun _ _ h => h) (fun _ _ h => h.size) (fun _ _ h _ => h) trivial ?_
                    dsimp only [List.length_cons, List.length_nil, List.drop_succ_cons, List.drop_zero, List.drop_nil]
                    refine fac_quiet 0 rfl rfl rfl (fun _ _ h _ => h) rfl rfl ?_
                    apply Exists.intro
                    refine ⟨fun sv w' hw' hfa => ?_, ?_⟩
                    · refine ⟨rfl, ?_⟩
                      simp only [putsL]
                      change quietTo _ _ _ _ (Sem.run _ (execOp (Act.eval _) _) _)
                      try simp only [Act.put, sIA, sCS, sCZ]
                      simp [go_sem, quietTo, Ext.refl]
                      all_goals first
                        | rfl
                    refine fac_quiet 1 rfl rfl rfl (fun _ _ h _ => h) rfl rfl ?_
                    apply Exists.intro
                    refine ⟨fun sv w' hw' hfa => ?_, ?_⟩
                    · refine ⟨rfl, ?_⟩
                      simp only [putsL]
                      change quietTo _ _ _ _ (Sem.run _ (execOp (Act.eval _) _) _)
                      try simp only [Act.put, sIA, sCS, sCZ]
                      simp [go_sem, quietTo, Ext.refl]
                      all_goals first
                        | rfl
                    refine fac_quiet 2 rfl rfl rfl (fun _ _ h _ => h) rfl rfl ?_
                    apply Exists.intro
                    refine ⟨fun sv w' hw' hfa => ?_, ?_⟩
                    · refine ⟨rfl, ?_⟩
                      simp only [putsL]
                      change quietTo _ _ _ _ (Sem.run _ (execOp (Act.eval _) _) _)
                      try simp only [Act.put, sIA, sCS, sCZ]
                      simp [go_sem, quietTo, Ext.refl]
                      all_goals first
                        | rfl
                    refine fac_quiet 3 rfl rfl rfl (fun _ _ h _ => h) rfl rfl ?_
                    apply Exists.intro
                    refine ⟨fun sv w' hw' hfa => ?_, ?_⟩
                    · obtain ⟨f1, f2, -⟩ := hfa
                      replace f1 : sv 1 = _ := f1; (try dsimp only at f1); replace f2 : sv 2 = _ := f2; (try dsimp only at f2)
                      have hk9 := (Ext.refl W8).drew.trans hw'; have y8 := (hk9.walk.1 _ _ l8).trans c8; have y4 := (hk9.walk.1 _ _ lo8).trans cog8
                      refine ⟨rfl, ?_⟩
                      simp only [putsL]
                      change quietTo _ _ _ _ (Sem.run _ (execOp (Act.eval (Act.put (Act.put _ (some 141) (sv 2)) (some 140) (sv 1))) _) _)
                      try simp only [Act.put, sIA, sCS, sCZ]
                      simp [go_sem, quietTo, Ext.refl, ↓IntWalk.iteOmega, f1, f2, hjI]
                      all_goals try simp (disch := omega) only [IntWalk.i64_in]
                      all_goals first
                        | rfl
                    refine fac_quiet 4 rfl rfl rfl (fun _ _ h _ => h) rfl rfl ?_
                    apply Exists.intro
                    refine ⟨fun sv w' hw' hfa => ?_, ?_⟩
                    · obtain ⟨_, _, f3, -⟩ := hfa
                      replace f3 : sv 3 = _ := f3; (try dsimp only at f3)
                      have hk9 := (Ext.refl W8).drew.trans hw'; have y8 := (hk9.walk.1 _ _ l8).trans c8; have y4 := (hk9.walk.1 _ _ lo8).trans cog8
                      refine ⟨rfl, ?_⟩
                      simp only [putsL]
                      change quietTo _ _ _ _ (Sem.run _ (execOp (Act.eval (Act.put (Act.put (Act.put _ (some 142) (sv 3)) (some 141) (sv 2)) (some 140) (sv 1))) _) _)
                      try simp only [Act.put, sIA, sCS, sCZ]
                      simp [go_sem, quietTo, Ext.refl, ↓IntWalk.iteOmega, f3, y4]
                      all_goals try simp (disch := omega) only [IntWalk.i64_in]
                      all_goals first
                        | rfl
                    refine fac_quiet 5 rfl rfl rfl (fun _ _ h _ => h) rfl rfl ?_
                    apply Exists.intro
                    refine ⟨fun sv w' hw' hfa => ?_, ?_⟩
                    · refine ⟨rfl, ?_⟩
                      simp only [putsL]
                      change quietTo _ _ _ _ (Sem.run _ (execOp (Act.eval _) _) _)
                      try simp only [Act.put, sIA, sCS, sCZ]
                      simp [go_sem, quietTo, Ext.refl]
                      all_goals first
                        | rfl
                    refine fac_quiet 6 rfl rfl rfl (fun _ _ h _ => h) rfl rfl ?_
                    apply Exists.intro
                    refine ⟨fun sv w' hw' hfa => ?_, ?_⟩
                    · refine ⟨rfl, ?_⟩
                      simp only [putsL]
                      change quietTo _ _ _ _ (Sem.run _ (execOp (Act.eval _) _) _)
                      try simp only [Act.put, sIA, sCS, sCZ]
                      simp [go_sem, quietTo, Ext.refl]
                      all_goals first
                        | rfl
                    refine fac_quiet 7 rfl rfl rfl (fun _ _ h _ => h) rfl rfl ?_
                    apply Exists.intro
                    refine ⟨fun sv w' hw' hfa => ?_, ?_⟩
                    · obtain ⟨f5, f6, -⟩ := hfa
                      replace f5 : sv 5 = _ := f5; (try dsimp only at f5); replace f6 : sv 6 = _ := f6; (try dsimp only at f6)
                      have hk9 := (Ext.refl W8).drew.trans hw'; have y8 := (hk9.walk.1 _ _ l8).trans c8; have y4 := (hk9.walk.1 _ _ lo8).trans cog8
                      refine ⟨rfl, ?_⟩
                      simp only [putsL]
                      change quietTo _ _ _ _ (Sem.run _ (execOp (Act.eval (Act.put (Act.put _ (some 145) (sv 6)) (some 144) (sv 5))) _) _)
                      try simp only [Act.put, sIA, sCS, sCZ]
                      simp [go_sem, quietTo, Ext.refl, ↓IntWalk.iteOmega, f5, f6, hjI]
                      all_goals try simp (disch := omega) only [IntWalk.i64_in]
                      all_goals first
                        | rfl
                    refine fac_quiet 8 rfl rfl rfl (fun _ _ h _ => h) rfl rfl ?_
                    apply Exists.intro
                    refine ⟨fun sv w' hw' hfa => ?_, ?_⟩
                    · obtain ⟨_, _, f7, -⟩ := hfa
                      replace f7 : sv 7 = _ := f7; (try dsimp only at f7)
                      have hk9 := (Ext.refl W8).drew.trans hw'; have y8 := (hk9.walk.1 _ _ l8).trans c8; have y4 := (hk9.walk.1 _ _ lo8).trans cog8
                      refine ⟨rfl, ?_⟩
                      simp only [putsL]
                      change quietTo _ _ _ _ (Sem.run _ (execOp (Act.eval (Act.put (Act.put (Act.put _ (some 146) (sv 7)) (some 145) (sv 6)) (some 144) (sv 5))) _) _)
                      try simp only [Act.put, sIA, sCS, sCZ]
                      simp [go_sem, quietTo, Ext.refl, ↓IntWalk.iteOmega, f7, y8]
                      all_goals try simp (disch := omega) only [IntWalk.i64_in]
                      all_goals first
                        | rfl
                    refine fac_quiet 9 rfl rfl rfl (fun _ _ h _ => h) rfl rfl ?_
                    apply Exists.intro
                    refine ⟨fun sv w' hw' hfa => ?_, ?_⟩
                    · obtain ⟨_, _, _, f4, _, _, _, f8, -⟩ := hfa
                      replace f4 : sv 4 = _ := f4; (try dsimp only at f4); replace f8 : sv 8 = _ := f8; (try dsimp only at f8)
                      have hk9 := (Ext.refl W8).drew.trans hw'; have y8 := (hk9.walk.1 _ _ l8).trans c8; have y4 := (hk9.walk.1 _ _ lo8).trans cog8
                      refine ⟨rfl, ?_⟩
                      simp only [putsL]
                      change quietTo _ _ _ _ (Sem.run _ (execOp (Act.eval (Act.put (Act.put (Act.put (Act.put (Act.put (Act.put (Act.put (Act.put _ (some 147) (sv 8)) (some 146) (sv 7)) (some 145) (sv 6)) (some 144) (sv 5)) (some 143) (sv 4)) (some 142) (sv 3)) (some 141) (sv 2)) (some 140) (sv 1))) _) _)
                      try simp only [Act.put, sIA, sCS, sCZ]
                      simp [go_sem, quietTo, Ext.refl, ↓IntWalk.iteOmega, f4, f8, htcI]
                      all_goals try simp (disch := omega) only [IntWalk.i64_in]
                      all_goals first
                        | rfl
                    refine fac_nil fun xr wrr herr hfrr hcrr holdr hapr => ?_
                    obtain ⟨f0, f1, f2, f3, f4, f5, f6, f7, f8, f9, -⟩ := hfrr
                    replace f0 : xr 0 = _ := f0
                    (try dsimp only at f0)
                    replace f1 : xr 1 = _ := f1
                    (try dsimp only at f1)
                    replace f2 : xr 2 = _ := f2
                    (try dsimp only at f2)
                    replace f3 : xr 3 = _ := f3
                    (try dsimp only at f3)
                    replace f4 : xr 4 = _ := f4
                    (try dsimp only at f4)
                    replace f5 : xr 5 = _ := f5
                    (try dsimp only at f5)
                    replace f6 : xr 6 = _ := f6
                    (try dsimp only at f6)
                    replace f7 : xr 7 = _ := f7
                    (try dsimp only at f7)
                    replace f8 : xr 8 = _ := f8
                    (try dsimp only at f8)
                    replace f9 : xr 9 = _ := f9
                    (try dsimp only at f9)
                    change wpList _ _ _ _ (Act.put (Act.put (Act.put (Act.put (Act.put (Act.put (Act.put (Act.put (Act.put (Act.put _ (some 139) (xr 0)) (some 140) (xr 1)) (some 141) (xr 2)) (some 142) (xr 3)) (some 143) (xr 4)) (some 144) (xr 5)) (some 145) (xr 6)) (some 146) (xr 7)) (some 147) (xr 8)) (some 148) (xr 9)) _
                    simp only [putsL, Nat.reduceAdd, List.drop_succ_cons, List.drop_zero, List.drop_nil, Act.put, sIA, sCS, sCZ]
                    try simp only [f0, f1, f2, f3, f4, f5, f6, f7, f8, f9]
                    clear f0 f1 f2 f3 f4 f5 f6 f7 f8 f9; clear holdr hapr
                    have hkr := (Ext.refl W8).drew.trans herr
                    have hSt : Slc 3 perC wrr p tn cc (g.take tn) := ((hSg.extS hM8.ext hgo).ext hkr).takeZ htg
                    obtain ⟨p', hSd, hpo, hcut⟩ := hSg.cut htg
                    have hrow9 := own_ext hkr hrow8.out
                    have hM9 := hM8.more hkr
                    have hB9 := hB8.ext hkr
                    have hX9 := hX8.ext hkr
                    have hsz9 := hkr.size
                    replace hSd := Lib.hid hSd; replace hpo := Lib.hid hpo; clear hrow8 hM8 hB8 hX8 herr hkr hSg c8 l8 cog8 lo8
                    go_upto_region 39 with (at_builtin; go_loud (refine wp_appS _ (.tmp 139) (.tmp 148) 36 42 3 40 _ rfl rfl Tryz.underlying36 perInfo rfl (by decide) (by decide) perC perC_len per_one W10.heap.size _ _ _ rfl hrow9 p tn cc (g.take tn) rfl hSt (by omega) (by omega) ?_; intro v' wa hrowa hgrowa))
                    have hMa := hM9.grown hgrowa (fun q e => by have := (hrow9.lt q e).1; omega)
                    have hBa : Blk wa gt 3 _ := (hgrowa.block gt hB9.lt fun e => own_no hrow9 hB9 (by decide) e.symm).trans hB9
                    have hXa := hX9.grown hgrowa (fun q e => (hrow9.lt q e).1)
                    have ca := rowI_cell hBa hat8.out
                    have la := hBa.lt
                    have cogA := hMa.cell hvH.out
                    have loA := hMa.blk.lt
                    have hdl : (g.drop tn).length = g.length - tn := List.length_drop
                    have hlt9 : (g.take tn).length = tn := by rw [List.length_take]; omega
                    have hhl9 : (headG G SH (j + 1)).length = (headG G SH j).length + tn := by rw [hhs.out, List.length_append, hlt9]
                    have hrowb : wa.ownsRow W10.heap.size 42 3 v' (headG G SH (j + 1)).length ((headG G SH (j + 1)).flatMap perC) := by
                      rw [hhl9, hhs.out, List.flatMap_append]
                      exact hrowa
                    replace hdl := Lib.hid hdl; replace hrowb := Lib.hid hrowb; clear hM9 hB9 hX9 hrow9 hrowa hgrowa hSt hlt9 hhl9
                    have hcut2 : (p = none ∧ p' = none) ∨ ∃ b off, p = some ⟨b, off, none⟩ ∧ (cc ≤ tn ∧ p' = p ∨ tn < cc ∧ p' = some ⟨b, off + tn * 3, none⟩) := hcut.imp (fun h => ⟨h.1, h.2.1⟩) fun ⟨b, off, h1, h2⟩ => ⟨b, off, h1, h2.imp (fun h => ⟨Nat.le_of_eq h.1.symm, h.2⟩) fun h => h⟩
                    clear hcut
                    rcases hcut2 with ⟨rfl, e9⟩ | ⟨b, off, rfl, ⟨hc9, e9⟩ | ⟨hc9, e9⟩⟩
                    · subst e9
                      refine wp_region_facts [] [([], false, false), ([], false, false), ([], false, false), ([], false, false), ([2, 3], false, false), ([2, 3, 4], false, false), ([], false, false), ([], false, false), ([6, 7], false, false), ([6, 7, 8], false, false), ([2, 3, 4, 5, 6, 7, 8, 9], false, false), ([0, 1], false, false)] (Ext) Ext (fun _ => True) (by kernel_rfl) (by kernel_rfl) Ext.refl (fun _ _ _ => Ext.trans) (fun _ _ h => h) (fun _ _ h => h.size) (fun _ _ h _ => h) trivial ?_
                      dsimp only [List.length_cons, List.length_nil, List.drop_succ_cons, List.drop_zero, List.drop_nil]
                      refine fac_quiet 0 rfl rfl rfl (fun _ _ h _ => h) rfl rfl ?_
                      apply Exists.intro
                      refine ⟨fun sv w' hw' hfa => ?_, ?_⟩
                      · refine ⟨rfl, ?_⟩
                        simp only [putsL]
                        change quietTo _ _ _ _ (Sem.run _ (execOp (Act.eval _) _) _)
                        try simp only [Act.put, sIA, sCS, sCZ]
                        simp [go_sem, quietTo, Ext.refl]
                        all_goals first
                          | rfl
                      refine fac_quiet 1 rfl rfl rfl (fun _ _ h _ => h) rfl rfl ?_
                      apply Exists.intro
                      refine ⟨fun sv w' hw' hfa => ?_, ?_⟩
                      · refine ⟨rfl, ?_⟩
                        simp only [putsL]
                        change quietTo _ _ _ _ (Sem.run _ (execOp (Act.eval _) _) _)
                        try simp only [Act.put, sIA, sCS, sCZ]
                        simp [go_sem, quietTo, Ext.refl]
                        all_goals first
                          | rfl
                      refine fac_quiet 2 rfl rfl rfl (fun _ _ h _ => h) rfl rfl ?_
                      apply Exists.intro
                      refine ⟨fun sv w' hw' hfa => ?_, ?_⟩
                      · refine ⟨rfl, ?_⟩
                        simp only [putsL]
                        change quietTo _ _ _ _ (Sem.run _ (execOp (Act.eval _) _) _)
                        try simp only [Act.put, sIA, sCS, sCZ]
                        simp [go_sem, quietTo, Ext.refl]
                        all_goals first
                          | rfl
                      refine fac_quiet 3 rfl rfl rfl (fun _ _ h _ => h) rfl rfl ?_
                      apply Exists.intro
                      refine ⟨fun sv w' hw' hfa => ?_, ?_⟩
                      · refine ⟨rfl, ?_⟩
                        simp only [putsL]
                        change quietTo _ _ _ _ (Sem.run _ (execOp (Act.eval _) _) _)
                        try simp only [Act.put, sIA, sCS, sCZ]
                        simp [go_sem, quietTo, Ext.refl]
                        all_goals first
                          | rfl
                      refine fac_quiet 4 rfl rfl rfl (fun _ _ h _ => h) rfl rfl ?_
                      apply Exists.intro
                      refine ⟨fun sv w' hw' hfa => ?_, ?_⟩
                      · obtain ⟨f2, f3, -⟩ := hfa
                        replace f2 : sv 2 = _ := f2; (try dsimp only at f2); replace f3 : sv 3 = _ := f3; (try dsimp only at f3)
                        have hk9 := (Ext.refl wa).drew.trans hw'; have y9 := (hk9.walk.1 _ _ la).trans ca; have y5 := (hk9.walk.1 _ _ loA).trans cogA
                        refine ⟨rfl, ?_⟩
                        simp only [putsL]
                        change quietTo _ _ _ _ (Sem.run _ (execOp (Act.eval (Act.put (Act.put _ (some 153) (sv 3)) (some 152) (sv 2))) _) _)
                        try simp only [Act.put, sIA, sCS, sCZ]
                        simp [go_sem, quietTo, Ext.refl, ↓IntWalk.iteOmega, f2, f3, hjI]
                        all_goals try simp (disch := omega) only [IntWalk.i64_in]
                        all_goals first
                          | rfl
                      refine fac_quiet 5 rfl rfl rfl (fun _ _ h _ => h) rfl rfl ?_
                      apply Exists.intro
                      refine ⟨fun sv w' hw' hfa => ?_, ?_⟩
                      · obtain ⟨_, _, f4, -⟩ := hfa
                        replace f4 : sv 4 = _ := f4; (try dsimp only at f4)
                        have hk9 := (Ext.refl wa).drew.trans hw'; have y9 := (hk9.walk.1 _ _ la).trans ca; have y5 := (hk9.walk.1 _ _ loA).trans cogA
                        refine ⟨rfl, ?_⟩
                        simp only [putsL]
                        change quietTo _ _ _ _ (Sem.run _ (execOp (Act.eval (Act.put (Act.put (Act.put _ (some 154) (sv 4)) (some 153) (sv 3)) (some 152) (sv 2))) _) _)
                        try simp only [Act.put, sIA, sCS, sCZ]
                        simp [go_sem, quietTo, Ext.refl, ↓IntWalk.iteOmega, f4, y5]
                        all_goals try simp (disch := omega) only [IntWalk.i64_in]
                        all_goals first
                          | rfl
                      refine fac_quiet 6 rfl rfl rfl (fun _ _ h _ => h) rfl rfl ?_
                      apply Exists.intro
                      refine ⟨fun sv w' hw' hfa => ?_, ?_⟩
                      · refine ⟨rfl, ?_⟩
                        simp only [putsL]
                        change quietTo _ _ _ _ (Sem.run _ (execOp (Act.eval _) _) _)
                        try simp only [Act.put, sIA, sCS, sCZ]
                        simp [go_sem, quietTo, Ext.refl]
                        all_goals first
                          | rfl
                      refine fac_quiet 7 rfl rfl rfl (fun _ _ h _ => h) rfl rfl ?_
                      apply Exists.intro
                      refine ⟨fun sv w' hw' hfa => ?_, ?_⟩
                      · refine ⟨rfl, ?_⟩
                        simp only [putsL]
                        change quietTo _ _ _ _ (Sem.run _ (execOp (Act.eval _) _) _)
                        try simp only [Act.put, sIA, sCS, sCZ]
                        simp [go_sem, quietTo, Ext.refl]
                        all_goals first
                          | rfl
                      refine fac_quiet 8 rfl rfl rfl (fun _ _ h _ => h) rfl rfl ?_
                      apply Exists.intro
                      refine ⟨fun sv w' hw' hfa => ?_, ?_⟩
                      · obtain ⟨f6, f7, -⟩ := hfa
                        replace f6 : sv 6 = _ := f6; (try dsimp only at f6); replace f7 : sv 7 = _ := f7; (try dsimp only at f7)
                        have hk9 := (Ext.refl wa).drew.trans hw'; have y9 := (hk9.walk.1 _ _ la).trans ca; have y5 := (hk9.walk.1 _ _ loA).trans cogA
                        refine ⟨rfl, ?_⟩
                        simp only [putsL]
                        change quietTo _ _ _ _ (Sem.run _ (execOp (Act.eval (Act.put (Act.put _ (some 157) (sv 7)) (some 156) (sv 6))) _) _)
                        try simp only [Act.put, sIA, sCS, sCZ]
                        simp [go_sem, quietTo, Ext.refl, ↓IntWalk.iteOmega, f6, f7, hjI]
                        all_goals try simp (disch := omega) only [IntWalk.i64_in]
                        all_goals first
                          | rfl
                      refine fac_quiet 9 rfl rfl rfl (fun _ _ h _ => h) rfl rfl ?_
                      apply Exists.intro
                      refine ⟨fun sv w' hw' hfa => ?_, ?_⟩
                      · obtain ⟨_, _, f8, -⟩ := hfa
                        replace f8 : sv 8 = _ := f8; (try dsimp only at f8)
                        have hk9 := (Ext.refl wa).drew.trans hw'; have y9 := (hk9.walk.1 _ _ la).trans ca; have y5 := (hk9.walk.1 _ _ loA).trans cogA
                        refine ⟨rfl, ?_⟩
                        simp only [putsL]
                        change quietTo _ _ _ _ (Sem.run _ (execOp (Act.eval (Act.put (Act.put (Act.put _ (some 158) (sv 8)) (some 157) (sv 7)) (some 156) (sv 6))) _) _)
                        try simp only [Act.put, sIA, sCS, sCZ]
                        simp [go_sem, quietTo, Ext.refl, ↓IntWalk.iteOmega, f8, y9]
                        all_goals try simp (disch := omega) only [IntWalk.i64_in]
                        all_goals first
                          | rfl
                      refine fac_quiet 10 rfl rfl rfl (fun _ _ h _ => h) rfl rfl ?_
                      apply Exists.intro
                      refine ⟨fun sv w' hw' hfa => ?_, ?_⟩
                      · obtain ⟨_, _, _, f5, _, _, _, f9, -⟩ := hfa
                        replace f5 : sv 5 = _ := f5; (try dsimp only at f5); replace f9 : sv 9 = _ := f9; (try dsimp only at f9)
                        have hk9 := (Ext.refl wa).drew.trans hw'; have y9 := (hk9.walk.1 _ _ la).trans ca; have y5 := (hk9.walk.1 _ _ loA).trans cogA
                        refine ⟨rfl, ?_⟩
                        simp only [putsL]
                        change quietTo _ _ _ _ (Sem.run _ (execOp (Act.eval (Act.put (Act.put (Act.put (Act.put (Act.put (Act.put (Act.put (Act.put _ (some 159) (sv 9)) (some 158) (sv 8)) (some 157) (sv 7)) (some 156) (sv 6)) (some 155) (sv 5)) (some 154) (sv 4)) (some 153) (sv 3)) (some 152) (sv 2))) _) _)
                        try simp only [Act.put, sIA, sCS, sCZ]
                        simp [go_sem, quietTo, Ext.refl, ↓IntWalk.iteOmega, f5, f9, htcI]
                        all_goals try simp (disch := omega) only [IntWalk.i64_in]
                        all_goals first
                          | rfl
                      refine fac_quiet 11 rfl rfl rfl (fun _ _ h _ => h) rfl rfl ?_
                      apply Exists.intro
                      refine ⟨fun sv w' hw' hfa => ?_, ?_⟩
                      · obtain ⟨f0, f1, -⟩ := hfa
                        replace f0 : sv 0 = _ := f0; (try dsimp only at f0); replace f1 : sv 1 = _ := f1; (try dsimp only at f1)
                        have hk9 := (Ext.refl wa).drew.trans hw'; have y9 := (hk9.walk.1 _ _ la).trans ca; have y5 := (hk9.walk.1 _ _ loA).trans cogA
                        refine ⟨rfl, ?_⟩
                        simp only [putsL]
                        change quietTo _ _ _ _ (Sem.run _ (execOp (Act.eval (Act.put (Act.put _ (some 151) (sv 1)) (some 150) (sv 0))) _) _)
                        try simp only [Act.put, sIA, sCS, sCZ]
                        simp [go_sem, quietTo, Ext.refl, ↓IntWalk.iteOmega, f0, f1, hjI]
                        all_goals try simp (disch := omega) only [IntWalk.i64_in]
                        all_goals first
                          | rfl
                      refine fac_nil fun xs wrs hers hfrs hcrs holds haps => ?_
                      obtain ⟨f0, f1, f2, f3, f4, f5, f6, f7, f8, f9, f10, f11, -⟩ := hfrs
                      replace f0 : xs 0 = _ := f0
                      (try dsimp only at f0)
                      replace f1 : xs 1 = _ := f1
                      (try dsimp only at f1)
                      replace f2 : xs 2 = _ := f2
                      (try dsimp only at f2)
                      replace f3 : xs 3 = _ := f3
                      (try dsimp only at f3)
                      replace f4 : xs 4 = _ := f4
                      (try dsimp only at f4)
                      replace f5 : xs 5 = _ := f5
                      (try dsimp only at f5)
                      replace f6 : xs 6 = _ := f6
                      (try dsimp only at f6)
                      replace f7 : xs 7 = _ := f7
                      (try dsimp only at f7)
                      replace f8 : xs 8 = _ := f8
                      (try dsimp only at f8)
                      replace f9 : xs 9 = _ := f9
                      (try dsimp only at f9)
                      replace f10 : xs 10 = _ := f10
                      (try dsimp only at f10)
                      replace f11 : xs 11 = _ := f11
                      (try dsimp only at f11)
                      change wpList _ _ _ _ (Act.put (Act.put (Act.put (Act.put (Act.put (Act.put (Act.put (Act.put (Act.put (Act.put (Act.put (Act.put _ (some 150) (xs 0)) (some 151) (xs 1)) (some 152) (xs 2)) (some 153) (xs 3)) (some 154) (xs 4)) (some 155) (xs 5)) (some 156) (xs 6)) (some 157) (xs 7)) (some 158) (xs 8)) (some 159) (xs 9)) (some 160) (xs 10)) (some 161) (xs 11)) _
                      simp only [putsL, Nat.reduceAdd, List.drop_succ_cons, List.drop_zero, List.drop_nil, Act.put, sIA, sCS, sCZ]
                      try simp only [f0, f1, f2, f3, f4, f5, f6, f7, f8, f9, f10, f11]
                      clear f0 f1 f2 f3 f4 f5 f6 f7 f8 f9 f10 f11; clear holds haps
                      have hks := (Ext.refl wa).drew.trans hers
                      have hMs := hMa.more hks
                      have hBs := hBa.ext hks
                      have hXs := hXa.ext hks
                      have hrs := own_ext hks hrowb.out
                      have hput := hMs.put (p' := none) (c' := (cc - tn)) (g' := g.drop tn) hgH.out (by rw [hdl.out]; exact hSd.out) (fun a ha e => by obtain ⟨a0, h1, h2⟩ := hpo.out a ha; exact hgo a0 h1 (h2.symm.trans e))
                      rw [hset2.out, hdl.out] at hput
                      have hnp := own_no hrs hMs.blk (by decide)
                      have hrt := hrs.kept (grown_set wrs ⟨og, j, none⟩ (.slice none (g.length - tn) (cc - tn))) (.inr hnp)
                      have hBt := hBs.far (p := ⟨og, j, none⟩) (by simp only; omega) (.slice none (g.length - tn) (cc - tn))
                      have hXt := hXs.set (p := ⟨og, j, none⟩) (.inl rfl) (.slice none (g.length - tn) (cc - tn))
                      obtain ⟨-, fo⟩ := hMs.blk.walk
                      have lo := hMs.blk.lt
                      have co := hMs.cell hvH.out
                      clear hMa hBa hXa hMs hBs hXs hrs hks hers hnp ca la cogA loA; replace hrt := Lib.hid hrt; replace hgo := Lib.hid hgo
                      go_wp2
                      go_roundw
                      case rel =>
                        exact ⟨j + 1, vs.set j (.slice none (g.length - tn) (cc - tn)), v', rfl, by go_num, by omega, by rw [hos.out], hrt.out, hBt, hput, hXt⟩
                      case measure => simp [intOf]; omega
                    · subst e9
                      have hc0 : cc - tn = 0 := by omega
                      rw [hc0] at hSd
                      clear hc0
                      refine wp_region_facts [] [([], false, false), ([], false, false), ([], false, false), ([], false, false), ([2, 3], false, false), ([2, 3, 4], false, false), ([], false, false), ([], false, false), ([6, 7], false, false), ([6, 7, 8], false, false), ([2, 3, 4, 5, 6, 7, 8, 9], false, false), ([0, 1], false, false)] (Ext) Ext (fun _ => True) (by kernel_rfl) (by kernel_rfl) Ext.refl (fun _ _ _ => Ext.trans) (fun _ _ h => h) (fun _ _ h => h.size) (fun _ _ h _ => h) trivial ?_
                      dsimp only [List.length_cons, List.length_nil, List.drop_succ_cons, List.drop_zero, List.drop_nil]
                      refine fac_quiet 0 rfl rfl rfl (fun _ _ h _ => h) rfl rfl ?_
                      apply Exists.intro
                      refine ⟨fun sv w' hw' hfa => ?_, ?_⟩
                      · refine ⟨rfl, ?_⟩
                        simp only [putsL]
                        change quietTo _ _ _ _ (Sem.run _ (execOp (Act.eval _) _) _)
                        try simp only [Act.put, sIA, sCS, sCZ]
                        simp [go_sem, quietTo, Ext.refl]
                        all_goals first
                          | rfl
                      refine fac_quiet 1 rfl rfl rfl (fun _ _ h _ => h) rfl rfl ?_
                      apply Exists.intro
                      refine ⟨fun sv w' hw' hfa => ?_, ?_⟩
                      · refine ⟨rfl, ?_⟩
                        simp only [putsL]
                        change quietTo _ _ _ _ (Sem.run _ (execOp (Act.eval _) _) _)
                        try simp only [Act.put, sIA, sCS, sCZ]
                        simp [go_sem, quietTo, Ext.refl]
                        all_goals first
                          | rfl
                      refine fac_quiet 2 rfl rfl rfl (fun _ _ h _ => h) rfl rfl ?_
                      apply Exists.intro
                      refine ⟨fun sv w' hw' hfa => ?_, ?_⟩
                      · refine ⟨rfl, ?_⟩
                        simp only [putsL]
                        change quietTo _ _ _ _ (Sem.run _ (execOp (Act.eval _) _) _)
                        try simp only [Act.put, sIA, sCS, sCZ]
                        simp [go_sem, quietTo, Ext.refl]
                        all_goals first
                          | rfl
                      refine fac_quiet 3 rfl rfl rfl (fun _ _ h _ => h) rfl rfl ?_
                      apply Exists.intro
                      refine ⟨fun sv w' hw' hfa => ?_, ?_⟩
                      · refine ⟨rfl, ?_⟩
                        simp only [putsL]
                        change quietTo _ _ _ _ (Sem.run _ (execOp (Act.eval _) _) _)
                        try simp only [Act.put, sIA, sCS, sCZ]
                        simp [go_sem, quietTo, Ext.refl]
                        all_goals first
                          | rfl
                      refine fac_quiet 4 rfl rfl rfl (fun _ _ h _ => h) rfl rfl ?_
                      apply Exists.intro
                      refine ⟨fun sv w' hw' hfa => ?_, ?_⟩
                      · obtain ⟨f2, f3, -⟩ := hfa
                        replace f2 : sv 2 = _ := f2; (try dsimp only at f2); replace f3 : sv 3 = _ := f3; (try dsimp only at f3)
                        have hk9 := (Ext.refl wa).drew.trans hw'; have y9 := (hk9.walk.1 _ _ la).trans ca; have y5 := (hk9.walk.1 _ _ loA).trans cogA
                        refine ⟨rfl, ?_⟩
                        simp only [putsL]
                        change quietTo _ _ _ _ (Sem.run _ (execOp (Act.eval (Act.put (Act.put _ (some 153) (sv 3)) (some 152) (sv 2))) _) _)
                        try simp only [Act.put, sIA, sCS, sCZ]
                        simp [go_sem, quietTo, Ext.refl, ↓IntWalk.iteOmega, f2, f3, hjI]
                        all_goals try simp (disch := omega) only [IntWalk.i64_in]
                        all_goals first
                          | rfl
                      refine fac_quiet 5 rfl rfl rfl (fun _ _ h _ => h) rfl rfl ?_
                      apply Exists.intro
                      refine ⟨fun sv w' hw' hfa => ?_, ?_⟩
                      · obtain ⟨_, _, f4, -⟩ := hfa
                        replace f4 : sv 4 = _ := f4; (try dsimp only at f4)
                        have hk9 := (Ext.refl wa).drew.trans hw'; have y9 := (hk9.walk.1 _ _ la).trans ca; have y5 := (hk9.walk.1 _ _ loA).trans cogA
                        refine ⟨rfl, ?_⟩
                        simp only [putsL]
                        change quietTo _ _ _ _ (Sem.run _ (execOp (Act.eval (Act.put (Act.put (Act.put _ (some 154) (sv 4)) (some 153) (sv 3)) (some 152) (sv 2))) _) _)
                        try simp only [Act.put, sIA, sCS, sCZ]
                        simp [go_sem, quietTo, Ext.refl, ↓IntWalk.iteOmega, f4, y5]
                        all_goals try simp (disch := omega) only [IntWalk.i64_in]
                        all_goals first
                          | rfl
                      refine fac_quiet 6 rfl rfl rfl (fun _ _ h _ => h) rfl rfl ?_
                      apply Exists.intro
                      refine ⟨fun sv w' hw' hfa => ?_, ?_⟩
                      · refine ⟨rfl, ?_⟩
                        simp only [putsL]
                        change quietTo _ _ _ _ (Sem.run _ (execOp (Act.eval _) _) _)
                        try simp only [Act.put, sIA, sCS, sCZ]
                        simp [go_sem, quietTo, Ext.refl]
                        all_goals first
                          | rfl
                      refine fac_quiet 7 rfl rfl rfl (fun _ _ h _ => h) rfl rfl ?_
                      apply Exists.intro
                      refine ⟨fun sv w' hw' hfa => ?_, ?_⟩
                      · refine ⟨rfl, ?_⟩
                        simp only [putsL]
                        change quietTo _ _ _ _ (Sem.run _ (execOp (Act.eval _) _) _)
                        try simp only [Act.put, sIA, sCS, sCZ]
                        simp [go_sem, quietTo, Ext.refl]
                        all_goals first
                          | rfl
                      refine fac_quiet 8 rfl rfl rfl (fun _ _ h _ => h) rfl rfl ?_
                      apply Exists.intro
                      refine ⟨fun sv w' hw' hfa => ?_, ?_⟩
                      · obtain ⟨f6, f7, -⟩ := hfa
                        replace f6 : sv 6 = _ := f6; (try dsimp only at f6); replace f7 : sv 7 = _ := f7; (try dsimp only at f7)
                        have hk9 := (Ext.refl wa).drew.trans hw'; have y9 := (hk9.walk.1 _ _ la).trans ca; have y5 := (hk9.walk.1 _ _ loA).trans cogA
                        refine ⟨rfl, ?_⟩
                        simp only [putsL]
                        change quietTo _ _ _ _ (Sem.run _ (execOp (Act.eval (Act.put (Act.put _ (some 157) (sv 7)) (some 156) (sv 6))) _) _)
                        try simp only [Act.put, sIA, sCS, sCZ]
                        simp [go_sem, quietTo, Ext.refl, ↓IntWalk.iteOmega, f6, f7, hjI]
                        all_goals try simp (disch := omega) only [IntWalk.i64_in]
                        all_goals first
                          | rfl
                      refine fac_quiet 9 rfl rfl rfl (fun _ _ h _ => h) rfl rfl ?_
                      apply Exists.intro
                      refine ⟨fun sv w' hw' hfa => ?_, ?_⟩
                      · obtain ⟨_, _, f8, -⟩ := hfa
                        replace f8 : sv 8 = _ := f8; (try dsimp only at f8)
                        have hk9 := (Ext.refl wa).drew.trans hw'; have y9 := (hk9.walk.1 _ _ la).trans ca; have y5 := (hk9.walk.1 _ _ loA).trans cogA
                        refine ⟨rfl, ?_⟩
                        simp only [putsL]
                        change quietTo _ _ _ _ (Sem.run _ (execOp (Act.eval (Act.put (Act.put (Act.put _ (some 158) (sv 8)) (some 157) (sv 7)) (some 156) (sv 6))) _) _)
                        try simp only [Act.put, sIA, sCS, sCZ]
                        simp [go_sem, quietTo, Ext.refl, ↓IntWalk.iteOmega, f8, y9]
                        all_goals try simp (disch := omega) only [IntWalk.i64_in]
                        all_goals first
                          | rfl
                      refine fac_quiet 10 rfl rfl rfl (fun _ _ h _ => h) rfl rfl ?_
                      apply Exists.intro
                      refine ⟨fun sv w' hw' hfa => ?_, ?_⟩
                      · obtain ⟨_, _, _, f5, _, _, _, f9, -⟩ := hfa
                        replace f5 : sv 5 = _ := f5; (try dsimp only at f5); replace f9 : sv 9 = _ := f9; (try dsimp only at f9)
                        have hk9 := (Ext.refl wa).drew.trans hw'; have y9 := (hk9.walk.1 _ _ la).trans ca; have y5 := (hk9.walk.1 _ _ loA).trans cogA
                        refine ⟨rfl, ?_⟩
                        simp only [putsL]
                        change quietTo _ _ _ _ (Sem.run _ (execOp (Act.eval (Act.put (Act.put (Act.put (Act.put (Act.put (Act.put (Act.put (Act.put _ (some 159) (sv 9)) (some 158) (sv 8)) (some 157) (sv 7)) (some 156) (sv 6)) (some 155) (sv 5)) (some 154) (sv 4)) (some 153) (sv 3)) (some 152) (sv 2))) _) _)
                        try simp only [Act.put, sIA, sCS, sCZ]
                        simp [go_sem, quietTo, Ext.refl, ↓IntWalk.iteOmega, f5, f9, htcI]
                        all_goals try simp (disch := omega) only [IntWalk.i64_in]
                        all_goals first
                          | rfl
                      refine fac_quiet 11 rfl rfl rfl (fun _ _ h _ => h) rfl rfl ?_
                      apply Exists.intro
                      refine ⟨fun sv w' hw' hfa => ?_, ?_⟩
                      · obtain ⟨f0, f1, -⟩ := hfa
                        replace f0 : sv 0 = _ := f0; (try dsimp only at f0); replace f1 : sv 1 = _ := f1; (try dsimp only at f1)
                        have hk9 := (Ext.refl wa).drew.trans hw'; have y9 := (hk9.walk.1 _ _ la).trans ca; have y5 := (hk9.walk.1 _ _ loA).trans cogA
                        refine ⟨rfl, ?_⟩
                        simp only [putsL]
                        change quietTo _ _ _ _ (Sem.run _ (execOp (Act.eval (Act.put (Act.put _ (some 151) (sv 1)) (some 150) (sv 0))) _) _)
                        try simp only [Act.put, sIA, sCS, sCZ]
                        simp [go_sem, quietTo, Ext.refl, ↓IntWalk.iteOmega, f0, f1, hjI]
                        all_goals try simp (disch := omega) only [IntWalk.i64_in]
                        all_goals first
                          | rfl
                      refine fac_nil fun xs wrs hers hfrs hcrs holds haps => ?_
                      obtain ⟨f0, f1, f2, f3, f4, f5, f6, f7, f8, f9, f10, f11, -⟩ := hfrs
                      replace f0 : xs 0 = _ := f0
                      (try dsimp only at f0)
                      replace f1 : xs 1 = _ := f1
                      (try dsimp only at f1)
                      replace f2 : xs 2 = _ := f2
                      (try dsimp only at f2)
                      replace f3 : xs 3 = _ := f3
                      (try dsimp only at f3)
                      replace f4 : xs 4 = _ := f4
                      (try dsimp only at f4)
                      replace f5 : xs 5 = _ := f5
                      (try dsimp only at f5)
                      replace f6 : xs 6 = _ := f6
                      (try dsimp only at f6)
                      replace f7 : xs 7 = _ := f7
                      (try dsimp only at f7)
                      replace f8 : xs 8 = _ := f8
                      (try dsimp only at f8)
                      replace f9 : xs 9 = _ := f9
                      (try dsimp only at f9)
                      replace f10 : xs 10 = _ := f10
                      (try dsimp only at f10)
                      replace f11 : xs 11 = _ := f11
                      (try dsimp only at f11)
                      change wpList _ _ _ _ (Act.put (Act.put (Act.put (Act.put (Act.put (Act.put (Act.put (Act.put (Act.put (Act.put (Act.put (Act.put _ (some 150) (xs 0)) (some 151) (xs 1)) (some 152) (xs 2)) (some 153) (xs 3)) (some 154) (xs 4)) (some 155) (xs 5)) (some 156) (xs 6)) (some 157) (xs 7)) (some 158) (xs 8)) (some 159) (xs 9)) (some 160) (xs 10)) (some 161) (xs 11)) _
                      simp only [putsL, Nat.reduceAdd, List.drop_succ_cons, List.drop_zero, List.drop_nil, Act.put, sIA, sCS, sCZ]
                      try simp only [f0, f1, f2, f3, f4, f5, f6, f7, f8, f9, f10, f11]
                      clear f0 f1 f2 f3 f4 f5 f6 f7 f8 f9 f10 f11; clear holds haps
                      have hks := (Ext.refl wa).drew.trans hers
                      have hMs := hMa.more hks
                      have hBs := hBa.ext hks
                      have hXs := hXa.ext hks
                      have hrs := own_ext hks hrowb.out
                      have hput := hMs.put (p' := (some ⟨b, off, none⟩)) (c' := 0) (g' := g.drop tn) hgH.out (by rw [hdl.out]; exact hSd.out) (fun a ha e => by obtain ⟨a0, h1, h2⟩ := hpo.out a ha; exact hgo a0 h1 (h2.symm.trans e))
                      rw [hset2.out, hdl.out] at hput
                      have hnp := own_no hrs hMs.blk (by decide)
                      have hrt := hrs.kept (grown_set wrs ⟨og, j, none⟩ (.slice (some ⟨b, off, none⟩) (g.length - tn) 0)) (.inr hnp)
                      have hBt := hBs.far (p := ⟨og, j, none⟩) (by simp only; omega) (.slice (some ⟨b, off, none⟩) (g.length - tn) 0)
                      have hXt := hXs.set (p := ⟨og, j, none⟩) (.inl rfl) (.slice (some ⟨b, off, none⟩) (g.length - tn) 0)
                      obtain ⟨-, fo⟩ := hMs.blk.walk
                      have lo := hMs.blk.lt
                      have co := hMs.cell hvH.out
                      clear hMa hBa hXa hMs hBs hXs hrs hks hers hnp ca la cogA loA; replace hrt := Lib.hid hrt; replace hgo := Lib.hid hgo
                      go_wp2
                      go_roundw
                      case rel =>
                        exact ⟨j + 1, vs.set j (.slice (some ⟨b, off, none⟩) (g.length - tn) 0), v', rfl, by go_num, by omega, by rw [hos.out], hrt.out, hBt, hput, hXt⟩
                      case measure => simp [intOf]; omega
                    · subst e9
                      refine wp_region_facts [] [([], false, false), ([], false, false), ([], false, false), ([], false, false), ([2, 3], false, false), ([2, 3, 4], false, false), ([], false, false), ([], false, false), ([6, 7], false, false), ([6, 7, 8], false, false), ([2, 3, 4, 5, 6, 7, 8, 9], false, false), ([0, 1], false, false)] (Ext) Ext (fun _ => True) (by kernel_rfl) (by kernel_rfl) Ext.refl (fun _ _ _ => Ext.trans) (fun _ _ h => h) (fun _ _ h => h.size) (fun _ _ h _ => h) trivial ?_
                      dsimp only [List.length_cons, List.length_nil, List.drop_succ_cons, List.drop_zero, List.drop_nil]
                      refine fac_quiet 0 rfl rfl rfl (fun _ _ h _ => h) rfl rfl ?_
                      apply Exists.intro
                      refine ⟨fun sv w' hw' hfa => ?_, ?_⟩
                      · refine ⟨rfl, ?_⟩
                        simp only [putsL]
                        change quietTo _ _ _ _ (Sem.run _ (execOp (Act.eval _) _) _)
                        try simp only [Act.put, sIA, sCS, sCZ]
                        simp [go_sem, quietTo, Ext.refl]
                        all_goals first
                          | rfl
                      refine fac_quiet 1 rfl rfl rfl (fun _ _ h _ => h) rfl rfl ?_
                      apply Exists.intro
                      refine ⟨fun sv w' hw' hfa => ?_, ?_⟩
                      · refine ⟨rfl, ?_⟩
                        simp only [putsL]
                        change quietTo _ _ _ _ (Sem.run _ (execOp (Act.eval _) _) _)
                        try simp only [Act.put, sIA, sCS, sCZ]
                        simp [go_sem, quietTo, Ext.refl]
                        all_goals first
                          | rfl
                      refine fac_quiet 2 rfl rfl rfl (fun _ _ h _ => h) rfl rfl ?_
                      apply Exists.intro
                      refine ⟨fun sv w' hw' hfa => ?_, ?_⟩
                      · refine ⟨rfl, ?_⟩
                        simp only [putsL]
                        change quietTo _ _ _ _ (Sem.run _ (execOp (Act.eval _) _) _)
                        try simp only [Act.put, sIA, sCS, sCZ]
                        simp [go_sem, quietTo, Ext.refl]
                        all_goals first
                          | rfl
                      refine fac_quiet 3 rfl rfl rfl (fun _ _ h _ => h) rfl rfl ?_
                      apply Exists.intro
                      refine ⟨fun sv w' hw' hfa => ?_, ?_⟩
                      · refine ⟨rfl, ?_⟩
                        simp only [putsL]
                        change quietTo _ _ _ _ (Sem.run _ (execOp (Act.eval _) _) _)
                        try simp only [Act.put, sIA, sCS, sCZ]
                        simp [go_sem, quietTo, Ext.refl]
                        all_goals first
                          | rfl
                      refine fac_quiet 4 rfl rfl rfl (fun _ _ h _ => h) rfl rfl ?_
                      apply Exists.intro
                      refine ⟨fun sv w' hw' hfa => ?_, ?_⟩
                      · obtain ⟨f2, f3, -⟩ := hfa
                        replace f2 : sv 2 = _ := f2; (try dsimp only at f2); replace f3 : sv 3 = _ := f3; (try dsimp only at f3)
                        have hk9 := (Ext.refl wa).drew.trans hw'; have y9 := (hk9.walk.1 _ _ la).trans ca; have y5 := (hk9.walk.1 _ _ loA).trans cogA
                        refine ⟨rfl, ?_⟩
                        simp only [putsL]
                        change quietTo _ _ _ _ (Sem.run _ (execOp (Act.eval (Act.put (Act.put _ (some 153) (sv 3)) (some 152) (sv 2))) _) _)
                        try simp only [Act.put, sIA, sCS, sCZ]
                        simp [go_sem, quietTo, Ext.refl, ↓IntWalk.iteOmega, f2, f3, hjI]
                        all_goals try simp (disch := omega) only [IntWalk.i64_in]
                        all_goals first
                          | rfl
                      refine fac_quiet 5 rfl rfl rfl (fun _ _ h _ => h) rfl rfl ?_
                      apply Exists.intro
                      refine ⟨fun sv w' hw' hfa => ?_, ?_⟩
                      · obtain ⟨_, _, f4, -⟩ := hfa
                        replace f4 : sv 4 = _ := f4; (try dsimp only at f4)
                        have hk9 := (Ext.refl wa).drew.trans hw'; have y9 := (hk9.walk.1 _ _ la).trans ca; have y5 := (hk9.walk.1 _ _ loA).trans cogA
                        refine ⟨rfl, ?_⟩
                        simp only [putsL]
                        change quietTo _ _ _ _ (Sem.run _ (execOp (Act.eval (Act.put (Act.put (Act.put _ (some 154) (sv 4)) (some 153) (sv 3)) (some 152) (sv 2))) _) _)
                        try simp only [Act.put, sIA, sCS, sCZ]
                        simp [go_sem, quietTo, Ext.refl, ↓IntWalk.iteOmega, f4, y5]
                        all_goals try simp (disch := omega) only [IntWalk.i64_in]
                        all_goals first
                          | rfl
                      refine fac_quiet 6 rfl rfl rfl (fun _ _ h _ => h) rfl rfl ?_
                      apply Exists.intro
                      refine ⟨fun sv w' hw' hfa => ?_, ?_⟩
                      · refine ⟨rfl, ?_⟩
                        simp only [putsL]
                        change quietTo _ _ _ _ (Sem.run _ (execOp (Act.eval _) _) _)
                        try simp only [Act.put, sIA, sCS, sCZ]
                        simp [go_sem, quietTo, Ext.refl]
                        all_goals first
                          | rfl
                      refine fac_quiet 7 rfl rfl rfl (fun _ _ h _ => h) rfl rfl ?_
                      apply Exists.intro
                      refine ⟨fun sv w' hw' hfa => ?_, ?_⟩
                      · refine ⟨rfl, ?_⟩
                        simp only [putsL]
                        change quietTo _ _ _ _ (Sem.run _ (execOp (Act.eval _) _) _)
                        try simp only [Act.put, sIA, sCS, sCZ]
                        simp [go_sem, quietTo, Ext.refl]
                        all_goals first
                          | rfl
                      refine fac_quiet 8 rfl rfl rfl (fun _ _ h _ => h) rfl rfl ?_
                      apply Exists.intro
                      refine ⟨fun sv w' hw' hfa => ?_, ?_⟩
                      · obtain ⟨f6, f7, -⟩ := hfa
                        replace f6 : sv 6 = _ := f6; (try dsimp only at f6); replace f7 : sv 7 = _ := f7; (try dsimp only at f7)
                        have hk9 := (Ext.refl wa).drew.trans hw'; have y9 := (hk9.walk.1 _ _ la).trans ca; have y5 := (hk9.walk.1 _ _ loA).trans cogA
                        refine ⟨rfl, ?_⟩
                        simp only [putsL]
                        change quietTo _ _ _ _ (Sem.run _ (execOp (Act.eval (Act.put (Act.put _ (some 157) (sv 7)) (some 156) (sv 6))) _) _)
                        try simp only [Act.put, sIA, sCS, sCZ]
                        simp [go_sem, quietTo, Ext.refl, ↓IntWalk.iteOmega, f6, f7, hjI]
                        all_goals try simp (disch := omega) only [IntWalk.i64_in]
                        all_goals first
                          | rfl
                      refine fac_quiet 9 rfl rfl rfl (fun _ _ h _ => h) rfl rfl ?_
                      apply Exists.intro
                      refine ⟨fun sv w' hw' hfa => ?_, ?_⟩
                      · obtain ⟨_, _, f8, -⟩ := hfa
                        replace f8 : sv 8 = _ := f8; (try dsimp only at f8)
                        have hk9 := (Ext.refl wa).drew.trans hw'; have y9 := (hk9.walk.1 _ _ la).trans ca; have y5 := (hk9.walk.1 _ _ loA).trans cogA
                        refine ⟨rfl, ?_⟩
                        simp only [putsL]
                        change quietTo _ _ _ _ (Sem.run _ (execOp (Act.eval (Act.put (Act.put (Act.put _ (some 158) (sv 8)) (some 157) (sv 7)) (some 156) (sv 6))) _) _)
                        try simp only [Act.put, sIA, sCS, sCZ]
                        simp [go_sem, quietTo, Ext.refl, ↓IntWalk.iteOmega, f8, y9]
                        all_goals try simp (disch := omega) only [IntWalk.i64_in]
                        all_goals first
                          | rfl
                      refine fac_quiet 10 rfl rfl rfl (fun _ _ h _ => h) rfl rfl ?_
                      apply Exists.intro
                      refine ⟨fun sv w' hw' hfa => ?_, ?_⟩
                      · obtain ⟨_, _, _, f5, _, _, _, f9, -⟩ := hfa
                        replace f5 : sv 5 = _ := f5; (try dsimp only at f5); replace f9 : sv 9 = _ := f9; (try dsimp only at f9)
                        have hk9 := (Ext.refl wa).drew.trans hw'; have y9 := (hk9.walk.1 _ _ la).trans ca; have y5 := (hk9.walk.1 _ _ loA).trans cogA
                        refine ⟨rfl, ?_⟩
                        simp only [putsL]
                        change quietTo _ _ _ _ (Sem.run _ (execOp (Act.eval (Act.put (Act.put (Act.put (Act.put (Act.put (Act.put (Act.put (Act.put _ (some 159) (sv 9)) (some 158) (sv 8)) (some 157) (sv 7)) (some 156) (sv 6)) (some 155) (sv 5)) (some 154) (sv 4)) (some 153) (sv 3)) (some 152) (sv 2))) _) _)
                        try simp only [Act.put, sIA, sCS, sCZ]
                        simp [go_sem, quietTo, Ext.refl, ↓IntWalk.iteOmega, f5, f9, htcI]
                        all_goals try simp (disch := omega) only [IntWalk.i64_in]
                        all_goals first
                          | rfl
                      refine fac_quiet 11 rfl rfl rfl (fun _ _ h _ => h) rfl rfl ?_
                      apply Exists.intro
                      refine ⟨fun sv w' hw' hfa => ?_, ?_⟩
                      · obtain ⟨f0, f1, -⟩ := hfa
                        replace f0 : sv 0 = _ := f0; (try dsimp only at f0); replace f1 : sv 1 = _ := f1; (try dsimp only at f1)
                        have hk9 := (Ext.refl wa).drew.trans hw'; have y9 := (hk9.walk.1 _ _ la).trans ca; have y5 := (hk9.walk.1 _ _ loA).trans cogA
                        refine ⟨rfl, ?_⟩
                        simp only [putsL]
                        change quietTo _ _ _ _ (Sem.run _ (execOp (Act.eval (Act.put (Act.put _ (some 151) (sv 1)) (some 150) (sv 0))) _) _)
                        try simp only [Act.put, sIA, sCS, sCZ]
                        simp [go_sem, quietTo, Ext.refl, ↓IntWalk.iteOmega, f0, f1, hjI]
                        all_goals try simp (disch := omega) only [IntWalk.i64_in]
                        all_goals first
                          | rfl
                      refine fac_nil fun xs wrs hers hfrs hcrs holds haps => ?_
                      obtain ⟨f0, f1, f2, f3, f4, f5, f6, f7, f8, f9, f10, f11, -⟩ := hfrs
                      replace f0 : xs 0 = _ := f0
                      (try dsimp only at f0)
                      replace f1 : xs 1 = _ := f1
                      (try dsimp only at f1)
                      replace f2 : xs 2 = _ := f2
                      (try dsimp only at f2)
                      replace f3 : xs 3 = _ := f3
                      (try dsimp only at f3)
                      replace f4 : xs 4 = _ := f4
                      (try dsimp only at f4)
                      replace f5 : xs 5 = _ := f5
                      (try dsimp only at f5)
                      replace f6 : xs 6 = _ := f6
                      (try dsimp only at f6)
                      replace f7 : xs 7 = _ := f7
                      (try dsimp only at f7)
                      replace f8 : xs 8 = _ := f8
                      (try dsimp only at f8)
                      replace f9 : xs 9 = _ := f9
                      (try dsimp only at f9)
                      replace f10 : xs 10 = _ := f10
                      (try dsimp only at f10)
                      replace f11 : xs 11 = _ := f11
                      (try dsimp only at f11)
                      change wpList _ _ _ _ (Act.put (Act.put (Act.put (Act.put (Act.put (Act.put (Act.put (Act.put (Act.put (Act.put (Act.put (Act.put _ (some 150) (xs 0)) (some 151) (xs 1)) (some 152) (xs 2)) (some 153) (xs 3)) (some 154) (xs 4)) (some 155) (xs 5)) (some 156) (xs 6)) (some 157) (xs 7)) (some 158) (xs 8)) (some 159) (xs 9)) (some 160) (xs 10)) (some 161) (xs 11)) _
                      simp only [putsL, Nat.reduceAdd, List.drop_succ_cons, List.drop_zero, List.drop_nil, Act.put, sIA, sCS, sCZ]
                      try simp only [f0, f1, f2, f3, f4, f5, f6, f7, f8, f9, f10, f11]
                      clear f0 f1 f2 f3 f4 f5 f6 f7 f8 f9 f10 f11; clear holds haps
                      have hks := (Ext.refl wa).drew.trans hers
                      have hMs := hMa.more hks
                      have hBs := hBa.ext hks
                      have hXs := hXa.ext hks
                      have hrs := own_ext hks hrowb.out
                      have hput := hMs.put (p' := (some ⟨b, off + tn * 3, none⟩)) (c' := (cc - tn)) (g' := g.drop tn) hgH.out (by rw [hdl.out]; exact hSd.out) (fun a ha e => by obtain ⟨a0, h1, h2⟩ := hpo.out a ha; exact hgo a0 h1 (h2.symm.trans e))
                      rw [hset2.out, hdl.out] at hput
                      have hnp := own_no hrs hMs.blk (by decide)
                      have hrt := hrs.kept (grown_set wrs ⟨og, j, none⟩ (.slice (some ⟨b, off + tn * 3, none⟩) (g.length - tn) (cc - tn))) (.inr hnp)
                      have hBt := hBs.far (p := ⟨og, j, none⟩) (by simp only; omega) (.slice (some ⟨b, off + tn * 3, none⟩) (g.length - tn) (cc - tn))
                      have hXt := hXs.set (p := ⟨og, j, none⟩) (.inl rfl) (.slice (some ⟨b, off + tn * 3, none⟩) (g.length - tn) (cc - tn))
                      obtain ⟨-, fo⟩ := hMs.blk.walk
                      have lo := hMs.blk.lt
                      have co := hMs.cell hvH.out
                      clear hMa hBa hXa hMs hBs hXs hrs hks hers hnp ca la cogA loA; replace hrt := Lib.hid hrt; replace hgo := Lib.hid hgo
                      go_wp2
                      go_roundw
                      case rel =>
                        exact ⟨j + 1, vs.set j (.slice (some ⟨b, off + tn * 3, none⟩) (g.length - tn) (cc - tn)), v', rfl, by go_num, by omega, by rw [hos.out], hrt.out, hBt, hput, hXt⟩
                      case measure => simp [intOf]; omega
                  · obtain rfl : j = O.length := by omega
                    have e3 : (nextG G SH).take O.length ++ G.drop O.length = nextG G SH := by
                      rw [List.take_of_length_le (by rw [hng.out, hGl.out]; exact Nat.le_refl _), List.drop_eq_nil_of_le (by rw [hGl.out]; exact Nat.le_refl _), List.append_nil]
                    rw [e3, ← hgs.out] at hM6
                    have hQ2 : secQ wide M.length A G0 r = headG G SH O.length := by rw [hQe.out, hG0.out]
                    rw [← hQ2] at hrow
                    obtain ⟨pq, cq, rfl, hSq⟩ := slc_of_own perC_len hrow (by decide) (by omega)
                    have hBw := hB10.extQ (show w.heap.size ≠ og by omega) (show w.heap.size ≠ gt by omega) hX6
                    have hWw := hW10.extQ hX6 (fun a ha => ⟨hwg.out a ha, by obtain ⟨b, off, rfl, hb⟩ := hW7.2.2.2 a ha; simp only; omega⟩)
                    have hownw := own_extQ hX6 hown10.out hno1.out hno2.out
                    have hEw := ExtQ.back hE10 (by omega) (by omega) hX6
                    have hin := inRow_any (r := r) (hl := high.length) (hp := hp) (hc := hc) hWw hlt hwo.out hSq (by omega)
                    have hbr := hbd.out r
                    have hrl := rowP_len wide r (secQ wide M.length A G0 r)
                    generalize secQ wide M.length A G0 r = Q at *
                    generalize rowP wide r Q = RP at *
                    obtain ⟨s0, -⟩ := hBw.walk
                    have sl := hBw.lt
                    have hszw := hM6.ext.2.2.2.1
                    replace hin := Lib.hid hin; replace hownw := Lib.hid hownw; replace hrl := Lib.hid hrl; clear hrow hB6 hX6 hSq hWw hB10 hW10 hE10 e3 hBw hown10 hQ2
                    go_wp2_with (first
                      | (go_at_call 39; (with_reducible refine Calls.mono hin.out ?_); rintro e wi ⟨pi, ci, rfl, hSi, hbi⟩; have owi := own_ext hbi hownw.out; have hszi := hbi.size)
                      | (at_builtin; go_loud (refine wp_appS _ (.tmp 163) (.tmp 167) 49 54 3 32 _ rfl rfl Tryz.underlying49 staInfo rfl (by decide) (by decide) staC staC_len sta_one w7.heap.size _ _ _ rfl owi pi Q.length ci RP rfl hSi (by omega) (by omega) ?_; intro v' wf hownf hgrowf)))
                    go_roundw
                    case rel => exact ⟨r + 1, vs, by go_num, by omega, by rw [hGe.out]; exact (hM6.more hbi).grown hgrowf (fun q e => ⟨(owi.lt q e).1, by have := (owi.lt q e).1; omega⟩), by rw [hbs.out, List.length_append, hrl.out, List.flatMap_append]; exact hownf⟩
                    case measure => simp [intOf]; omega
        · obtain rfl : r = wide.length := by omega
          have hb9 := hbd.out wide.length
          obtain ⟨p, c, rfl, hSo⟩ := slc_of_own staC_len hown (by decide) (by omega)
          replace hSo := Lib.hid hSo; clear hown
          go_wp2
          go_ret2
          exact ⟨p, c, M, (by rw [hfin.out]; rfl), hM.out, by rw [hfin.out]; exact hSo.out, hEr⟩
end
end Go.Proofs.YtdehmioobkneiaaGreatDoor
