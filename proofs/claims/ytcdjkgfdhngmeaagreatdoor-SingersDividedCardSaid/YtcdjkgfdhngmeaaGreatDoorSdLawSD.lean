/- The law SingersDivided. Conditions: as the theorem says. -/
import Derived.Test.YtcdjkgfdhngmeaaGreatDoorSdDvY
import Derived.Test.YtcdjkgfdhngmeaaGreatDoorSdJ32
set_option linter.unusedSimpArgs false
set_option linter.unusedVariables false
namespace Go.Proofs.YtcdjkgfdhngmeaaGreatDoor
open Go Go.RowKit

theorem Elems.nmp {w : World} {b off : Nat} {xs : List (ByteArray × ByteArray)} (h : Elems 2 nmpC w b off xs) {i : Nat} {x : ByteArray × ByteArray} (hx : xs[i]? = some x) :
    w.cell? ⟨b, off + i * 2, none⟩ = some (.string x.1) ∧ w.cell? ⟨b, off + i * 2 + 1, none⟩ = some (.string x.2) :=
  ⟨h i x hx 0 _ rfl, h i x hx 1 _ rfl⟩
set_option maxRecDepth 100000 in
set_option maxHeartbeats 1600000 in
theorem eqPairV_any (p q : Option Addr) (n c d : Nat) (xs : List (ByteArray × ByteArray)) (w : World) (h1 : Slc 2 nmpC w p n c xs) (h2 : Slc 2 nmpC w q n d xs) (hn : n ≤ 100000) :
    Calls Tryz.prog 16 #[.slice p n c, .slice q n d] w fun e w' => e = .returned (.bool true) ∧ Ext w w' := by
  obtain ⟨hl, hp⟩ := slcC h1
  obtain ⟨-, hq⟩ := slcC h2
  subst hl
  replace hp := Lib.hid hp
  replace hq := Lib.hid hq
  clear h1 h2
  go_enter Tryz.func16, Tryz.ntmps16
  go_wp2
  go_loopw [13] (fun i wr => ∃ k : Nat, k ≤ xs.length ∧ i = .int .i64 k ∧ Ext w wr) (fun i _ => xs.length - (intOf i).toNat)
  case atStart => exact ⟨0, Nat.zero_le _, rfl, Ext.refl _⟩
  case round =>
    obtain ⟨k, hk, rfl, hE⟩ := hrel
    by_cases hlt : k < xs.length
    · obtain ⟨x, hx⟩ := getD_some (rfl : xs.length = xs.length) hlt
      rcases hp.out with ⟨-, e⟩ | ⟨b1, o1, rfl, hb1, hE1⟩
      · rw [e] at hx; cases hx
      rcases hq.out with ⟨-, e⟩ | ⟨b2, o2, rfl, hb2, hE2⟩
      · rw [e] at hx; cases hx
      obtain ⟨c1, c3⟩ := (hE1.ext hE hb1).nmp hx
      obtain ⟨c2, c4⟩ := (hE2.ext hE hb2).nmp hx
      have l1 := Nat.lt_of_lt_of_le hb1 hE.size
      have l2 := Nat.lt_of_lt_of_le hb2 hE.size
      have hkI : (k : Int) < xs.length := by omega
      clear hx hE1 hE2
      go_upto_region 6 with fail
      refine wp_region_facts [] [([], false, false), ([], false, false), ([0, 1], false, false), ([0, 1, 2], false, false), ([], false, false), ([], false, false), ([4, 5], false, false), ([4, 5, 6], false, false), ([0, 1, 2, 3, 4, 5, 6, 7], false, false)] (Ext) Ext (fun _ => True) (by kernel_rfl) (by kernel_rfl) Ext.refl (fun _ _ _ => Ext.trans) (fun _ _ h => h) (fun _ _ h => h.size) (fun _ _ h _ => h) trivial ?_
      dsimp only [List.length_cons, List.length_nil, List.drop_succ_cons, List.drop_zero, List.drop_nil]
      refine fac_quiet 0 rfl rfl rfl (fun _ _ h _ => h) rfl rfl ?_
      apply Exists.intro
      refine ⟨fun sv w' hw' hfa => ?_, ?_⟩
      · refine ⟨rfl, ?_⟩
        simp only [putsL]
        change quietTo _ _ _ _ (Sem.run _ (execOp (Act.eval _) _) _)
        try simp only [Act.put, List.setIfInBounds_toArray, List.set_cons_succ, List.set_cons_zero]
        simp [go_sem, quietTo, Ext.refl]
        all_goals first
          | rfl
      refine fac_quiet 1 rfl rfl rfl (fun _ _ h _ => h) rfl rfl ?_
      apply Exists.intro
      refine ⟨fun sv w' hw' hfa => ?_, ?_⟩
      · refine ⟨rfl, ?_⟩
        simp only [putsL]
        change quietTo _ _ _ _ (Sem.run _ (execOp (Act.eval _) _) _)
        try simp only [Act.put, List.setIfInBounds_toArray, List.set_cons_succ, List.set_cons_zero]
        simp [go_sem, quietTo, Ext.refl]
        all_goals first
          | rfl
      refine fac_quiet 2 rfl rfl rfl (fun _ _ h _ => h) rfl rfl ?_
      apply Exists.intro
      refine ⟨fun sv w' hw' hfa => ?_, ?_⟩
      · obtain ⟨f0, f1, -⟩ := hfa
        replace f0 : sv 0 = _ := f0
        try dsimp only at f0
        replace f1 : sv 1 = _ := f1
        try dsimp only at f1
        have hk9 := (Ext.refl wr).drew.trans hw'; obtain ⟨hc, hff, hz9⟩ := hk9.walk; have y1 := (hc _ _ l1).trans c1; have y2 := (hc _ _ l2).trans c2; have y3 := (hc _ _ l1).trans c3; have y4 := (hc _ _ l2).trans c4
        refine ⟨rfl, ?_⟩
        simp only [putsL]
        change quietTo _ _ _ _ (Sem.run _ (execOp (Act.eval (Act.put (Act.put _ (some 17) (sv 1)) (some 16) (sv 0))) _) _)
        try simp only [Act.put, List.setIfInBounds_toArray, List.set_cons_succ, List.set_cons_zero]
        simp [go_sem, quietTo, Ext.refl, ↓IntWalk.iteOmega, f0, f1, hkI]
        all_goals try simp (disch := omega) only [IntWalk.i64_in]
        all_goals first
          | rfl
      refine fac_quiet 3 rfl rfl rfl (fun _ _ h _ => h) rfl rfl ?_
      apply Exists.intro
      refine ⟨fun sv w' hw' hfa => ?_, ?_⟩
      · obtain ⟨_, _, f2, -⟩ := hfa
        replace f2 : sv 2 = _ := f2
        try dsimp only at f2
        have hk9 := (Ext.refl wr).drew.trans hw'; obtain ⟨hc, hff, hz9⟩ := hk9.walk; have y1 := (hc _ _ l1).trans c1; have y2 := (hc _ _ l2).trans c2; have y3 := (hc _ _ l1).trans c3; have y4 := (hc _ _ l2).trans c4
        refine ⟨rfl, ?_⟩
        simp only [putsL]
        change quietTo _ _ _ _ (Sem.run _ (execOp (Act.eval (Act.put (Act.put (Act.put _ (some 18) (sv 2)) (some 17) (sv 1)) (some 16) (sv 0))) _) _)
        try simp only [Act.put, List.setIfInBounds_toArray, List.set_cons_succ, List.set_cons_zero]
        simp [go_sem, quietTo, Ext.refl, ↓IntWalk.iteOmega, f2, y1, y3]
        all_goals try simp (disch := omega) only [IntWalk.i64_in]
        all_goals first
          | rfl
      refine fac_quiet 4 rfl rfl rfl (fun _ _ h _ => h) rfl rfl ?_
      apply Exists.intro
      refine ⟨fun sv w' hw' hfa => ?_, ?_⟩
      · refine ⟨rfl, ?_⟩
        simp only [putsL]
        change quietTo _ _ _ _ (Sem.run _ (execOp (Act.eval _) _) _)
        try simp only [Act.put, List.setIfInBounds_toArray, List.set_cons_succ, List.set_cons_zero]
        simp [go_sem, quietTo, Ext.refl]
        all_goals first
          | rfl
      refine fac_quiet 5 rfl rfl rfl (fun _ _ h _ => h) rfl rfl ?_
      apply Exists.intro
      refine ⟨fun sv w' hw' hfa => ?_, ?_⟩
      · refine ⟨rfl, ?_⟩
        simp only [putsL]
        change quietTo _ _ _ _ (Sem.run _ (execOp (Act.eval _) _) _)
        try simp only [Act.put, List.setIfInBounds_toArray, List.set_cons_succ, List.set_cons_zero]
        simp [go_sem, quietTo, Ext.refl]
        all_goals first
          | rfl
      refine fac_quiet 6 rfl rfl rfl (fun _ _ h _ => h) rfl rfl ?_
      apply Exists.intro
      refine ⟨fun sv w' hw' hfa => ?_, ?_⟩
      · obtain ⟨f4, f5, -⟩ := hfa
        replace f4 : sv 4 = _ := f4
        try dsimp only at f4
        replace f5 : sv 5 = _ := f5
        try dsimp only at f5
        have hk9 := (Ext.refl wr).drew.trans hw'; obtain ⟨hc, hff, hz9⟩ := hk9.walk; have y1 := (hc _ _ l1).trans c1; have y2 := (hc _ _ l2).trans c2; have y3 := (hc _ _ l1).trans c3; have y4 := (hc _ _ l2).trans c4
        refine ⟨rfl, ?_⟩
        simp only [putsL]
        change quietTo _ _ _ _ (Sem.run _ (execOp (Act.eval (Act.put (Act.put _ (some 21) (sv 5)) (some 20) (sv 4))) _) _)
        try simp only [Act.put, List.setIfInBounds_toArray, List.set_cons_succ, List.set_cons_zero]
        simp [go_sem, quietTo, Ext.refl, ↓IntWalk.iteOmega, f4, f5, hkI]
        all_goals try simp (disch := omega) only [IntWalk.i64_in]
        all_goals first
          | rfl
      refine fac_quiet 7 rfl rfl rfl (fun _ _ h _ => h) rfl rfl ?_
      apply Exists.intro
      refine ⟨fun sv w' hw' hfa => ?_, ?_⟩
      · obtain ⟨_, _, f6, -⟩ := hfa
        replace f6 : sv 6 = _ := f6
        try dsimp only at f6
        have hk9 := (Ext.refl wr).drew.trans hw'; obtain ⟨hc, hff, hz9⟩ := hk9.walk; have y1 := (hc _ _ l1).trans c1; have y2 := (hc _ _ l2).trans c2; have y3 := (hc _ _ l1).trans c3; have y4 := (hc _ _ l2).trans c4
        refine ⟨rfl, ?_⟩
        simp only [putsL]
        change quietTo _ _ _ _ (Sem.run _ (execOp (Act.eval (Act.put (Act.put (Act.put _ (some 22) (sv 6)) (some 21) (sv 5)) (some 20) (sv 4))) _) _)
        try simp only [Act.put, List.setIfInBounds_toArray, List.set_cons_succ, List.set_cons_zero]
        simp [go_sem, quietTo, Ext.refl, ↓IntWalk.iteOmega, f6, y2, y4]
        all_goals try simp (disch := omega) only [IntWalk.i64_in]
        all_goals first
          | rfl
      refine fac_quiet 8 rfl rfl rfl (fun _ _ h _ => h) rfl rfl ?_
      apply Exists.intro
      refine ⟨fun sv w' hw' hfa => ?_, ?_⟩
      · obtain ⟨_, _, _, f3, _, _, _, f7, -⟩ := hfa
        replace f3 : sv 3 = _ := f3
        try dsimp only at f3
        replace f7 : sv 7 = _ := f7
        try dsimp only at f7
        refine ⟨rfl, ?_⟩
        simp only [putsL]
        change quietTo _ _ _ _ (Sem.run _ (execOp (Act.eval (Act.put (Act.put (Act.put (Act.put (Act.put (Act.put (Act.put (Act.put _ (some 23) (sv 7)) (some 22) (sv 6)) (some 21) (sv 5)) (some 20) (sv 4)) (some 19) (sv 3)) (some 18) (sv 2)) (some 17) (sv 1)) (some 16) (sv 0))) _) _)
        try simp only [Act.put, List.setIfInBounds_toArray, List.set_cons_succ, List.set_cons_zero]
        simp [go_sem, quietTo, Ext.refl, ↓IntWalk.iteOmega, f3, f7]
        all_goals try simp (disch := omega) only [IntWalk.i64_in]
        all_goals first
          | rfl
      refine fac_nil fun xq wrq herq hfrq hcrq holdq hapq => ?_
      obtain ⟨f0, f1, f2, f3, f4, f5, f6, f7, f8, -⟩ := hfrq
      replace f0 : xq 0 = _ := f0
      try dsimp only at f0
      replace f1 : xq 1 = _ := f1
      try dsimp only at f1
      replace f2 : xq 2 = _ := f2
      try dsimp only at f2
      replace f3 : xq 3 = _ := f3
      try dsimp only at f3
      replace f4 : xq 4 = _ := f4
      try dsimp only at f4
      replace f5 : xq 5 = _ := f5
      try dsimp only at f5
      replace f6 : xq 6 = _ := f6
      try dsimp only at f6
      replace f7 : xq 7 = _ := f7
      try dsimp only at f7
      replace f8 : xq 8 = _ := f8
      try dsimp only at f8
      change wpList _ _ _ _ (Act.put (Act.put (Act.put (Act.put (Act.put (Act.put (Act.put (Act.put (Act.put _ (some 16) (xq 0)) (some 17) (xq 1)) (some 18) (xq 2)) (some 19) (xq 3)) (some 20) (xq 4)) (some 21) (xq 5)) (some 22) (xq 6)) (some 23) (xq 7)) (some 24) (xq 8)) _
      simp only [putsL, Nat.reduceAdd, List.drop_succ_cons, List.drop_zero, List.drop_nil, Act.put, List.setIfInBounds_toArray, List.set_cons_succ, List.set_cons_zero]
      try simp only [f0, f1, f2, f3, f4, f5, f6, f7, f8]
      clear f0 f1 f2 f3 f4 f5 f6 f7 f8
      clear holdq hapq
      go_wp2
      go_roundw
      case rel => exact ⟨k + 1, by omega, by go_num, hE.trans ((Ext.refl _).drew.trans herq)⟩
      case measure => simp [intOf]; omega
    · obtain rfl : k = xs.length := by omega
      go_wp2
      go_ret
      exact ⟨rfl, hE⟩

theorem parts_most {P : List PartV} (h : partsF P = 0) : ∀ x ∈ P, 0 ≤ x.most := fun x hx => by
  obtain ⟨h1, h2⟩ := partsF_right h
  have h3 := (h2 x hx).2
  unfold rightP at h3
  simp only [Bool.and_eq_true] at h3
  have h4 := inB_iff.1 h3.1.2
  omega
set_option maxRecDepth 100000 in
set_option maxHeartbeats 12800000 in
theorem lawSD_any (w : World) (p : Option Addr) (n c : Nat) (h : Lst w w.heap.size p n) :
    Calls Tryz.prog 3 #[.slice p n c] w fun e w' => e = .returned (.bool true) ∧ Ext w w' := by
  obtain ⟨xs, rfl, hL⟩ := lst_list h
  obtain ⟨L, hLd⟩ : ∃ L : Src, L = ⟨xs, w.heap.size⟩ := ⟨_, rfl⟩
  have hE0 : Ext w (w.alloc (.cells #[.slice p xs.length c, .int .i64 0] 25)) := (Ext.refl w).alloc _
  have hS0 : StrL (w.alloc (.cells #[.slice p xs.length c, .int .i64 0] 25)) w.heap.size L 0 := by
    subst hLd
    exact ⟨Nat.le_refl _, p, c, Blk.new' rfl, hL.low fun j hj => hE0.block j hj⟩
  have hvo := voiceRows_det w.heap.size 0 5 L _ (by omega) (by omega) hS0
  replace hvo := Lib.hid hvo
  clear h hL hLd hS0
  go_enter Tryz.func3, Tryz.ntmps3
  go_upto_region 3 with (first
    | (go_at_call 4; (with_reducible refine Calls.mono hvo.out ?_); rintro e w1 ⟨vp, n1, vc, V, k1, rfl, hV10, hoV, hVl, hVs, hF1, hk1, hS1, hE1⟩)
    | (go_at_call 5; (with_reducible refine Calls.mono (partList_det w.heap.size k1 L _ (by omega) hS1) ?_); rintro e w2 ⟨pp, n2, pc, P, k2, rfl, hP3, hoP, hPl, hPs, hF2, hk2, hS2, hE2⟩)
    | (go_at_call 6; (with_reducible refine Calls.mono (sometime_det w.heap.size k2 L _ (by omega) hS2) ?_); rintro e w7 ⟨rfl, hS7, hE7⟩))
  subst hVl
  subst hPl
  have hz0 : w.heap.size + 1 ≤ (w.alloc (.cells #[.slice p xs.length c, .int .i64 0] 25)).heap.size := by simp
  have hoV4 := own_extS hE7 (by omega) (own_extS hE2 (by omega) hoV)
  have hl1 := hS1.lt
  have hoP4 := own_extS hE7 (by omega) hoP
  have hX4 := ExtS.back (ExtS.back (ExtS.back hE0 (Nat.le_refl _) hE1) (Nat.le_refl _) hE2) (Nat.le_refl _) hE7
  clear hvo hoV hoP hE1 hE2 hE7 hE0 hF1 hF2 hS1 hS2 hS7 hz0 hl1
  obtain ⟨vp', vc', e9, hV4⟩ := slc_of_own voiC_len hoV4 (by decide) (by omega)
  cases e9
  obtain ⟨pp', pc', e9, hP4⟩ := slc_of_own partC_len hoP4 (by decide) (by omega)
  cases e9
  have hM : VpM w7 vp vc V pp pc P := ⟨hV4, hP4, hVs, fun x hx => (hPs x hx).1, by omega, by omega⟩
  clear hV4 hP4 hVs hPs hoV4 hoP4
  generalize smtF L k2 = t at *
  have c1 := fun u (hu : Ext w7 u) => voicesFault_any vp V.length vc V u (hM.more hu).voi.1 hM.sV hM.nV
  have c2 := fun u (hu : Ext w7 u) => faultParts_any pp P.length pc P u (hM.more hu).par.1 hM.sP hM.nP hM.par.2.1
  have c7 : ∀ u, Calls Tryz.prog 13 #[] u fun e w' => e = .returned (.bool true) ∧ Ext u w' := voiced_any
  have hbo : orF [voicesF V, partsF P] = bothF V P := by
    unfold bothF
    by_cases h1 : voicesF V = 0
    · by_cases h2 : partsF P = 0
      · simp [orF, h1, h2]
      · simp [orF, h1, h2]
    · simp [orF, h1]
  have hS12 : (singersL V t).length ≤ 12 := Nat.le_trans (singers_len V t) (by omega)
  by_cases hz : errV V P t = 0
  · have hz0 := hz
    have hbz : bothF V P = 0 := by
      have := (errV_zero hz).1
      unfold errL at this
      by_cases hb : bothF V P = 0
      · exact hb
      · rw [if_neg hb] at this; exact absurd this hb
    have hv0 : voicesF V = 0 := by
      unfold bothF at hbz
      by_cases hb : voicesF V = 0
      · exact hb
      · rw [if_neg hb] at hbz; exact absurd hbz hb
    have hp0 : partsF P = 0 := by
      unfold bothF at hbz
      rw [if_pos hv0] at hbz; exact hbz
    have hP4 : P.length ≤ 4 := by omega
    have hmo := parts_most hp0
    have hdz : divF V P t = 0 := by rw [← errV_div V P t hv0 hp0]; exact hz
    have c3 := fun u (hu : Ext w7 u) => divideFault_any (hM.more hu) t
    rw [hdz] at c3
    rw [hbz] at hbo
    by_cases hf : fromF P (comL V t P) [0, 0, 0, 0] = -1
    · have c4 := fun u (hu : Ext w7 u) => divide_none (hM.more hu) t hz hf
      have c5 := fun u (hu : Ext w7 u) => unsure_none (hM.more hu) t hz hf
      have d4 := fun u (hu : Ext w7 u) => divided_none (hM.more hu) t hP4 hS12 hmo hf
      have d5 := fun u (hu : Ext w7 u) => unsureOf_none (hM.more hu) t hP4 hS12 hmo hf
      replace hbo := Lib.hid hbo
      replace c1 := Lib.hid c1
      replace c2 := Lib.hid c2
      replace c3 := Lib.hid c3
      replace c4 := Lib.hid c4
      replace c5 := Lib.hid c5
      replace c7 := Lib.hid c7
      replace d4 := Lib.hid d4
      replace d5 := Lib.hid d5
      clear hM hz hz0 hbz hv0 hp0 hdz hmo hS12
      go_wp2_with (first
        | (go_at_call 8; (with_reducible refine Calls.mono (c1.out _ (by exact Ext.refl _)) ?_); rintro e u1 ⟨rfl, hu1⟩)
        | (go_at_call 9; (with_reducible refine Calls.mono (c2.out _ (by exact hu1)) ?_); rintro e u2 ⟨rfl, hu2⟩)
        | (go_at_call 7; (refine (orErr_blk _ _ _ [voicesF V, partsF P] _ (by simp) (by exact Blk.new' rfl)).mono ?_; rintro e x4 ⟨rfl, rfl⟩; rw [hbo.out]; have E4 := (hu1.trans hu2).alloc (.cells #[.int .i64 (voicesF V), .int .i64 (partsF P)] 31)))
        | (go_at_call 10; (with_reducible refine Calls.mono (c3.out _ E4) ?_); rintro e u3 ⟨rfl, hu3⟩; have E3 := E4.trans hu3)
        | (go_at_call 11; (with_reducible refine Calls.mono (c4.out _ E3) ?_); rintro e u5 ⟨rfl, hu5⟩; have E5 := E3.trans hu5)
        | (go_at_call 12; (with_reducible refine Calls.mono (c5.out _ E5) ?_); rintro e u6 ⟨rfl, hu6⟩; have E6 := E5.trans hu6)
        | (go_at_call 14; (with_reducible refine Calls.mono (d4.out _ E6) ?_); rintro e u7 ⟨rfl, hu7⟩; have E7 := E6.trans hu7)
        | (go_at_call 15; (with_reducible refine Calls.mono (d5.out _ E7) ?_); rintro e u8 ⟨rfl, hu8⟩; have E8 := E7.trans hu8)
        | (go_at_call 16; (with_reducible refine Calls.mono (eqPairV_any none none 0 0 0 [] _ (Slc.nil _ _ _) (Slc.nil _ _ _) (by omega)) ?_); rintro e u10 ⟨rfl, hu10⟩; have E10 := E8.trans hu10)
        | (go_at_call 17; (with_reducible refine Calls.mono (eqStrV_any none none 0 0 0 [] _ (Slc.nil _ _ _) (Slc.nil _ _ _) (by omega)) ?_); rintro e u11 ⟨rfl, hu11⟩; have E11 := E10.trans hu11)
        | (go_at_call 13; (with_reducible refine Calls.mono (c7.out _) ?_); rintro e u13 ⟨rfl, hu13⟩))
      go_ret
      exact ⟨rfl, hX4.trans (E11.trans hu13)⟩
    · have c4 := fun u (hu : Ext w7 u) => divide_some (hM.more hu) t hz hf
      have c5 := fun u (hu : Ext w7 u) => unsure_some (hM.more hu) t hz hf
      have hCS := comL_len V t P
      have hbig := best_few (P := P) (C := comL V t P) hP4 (by omega) (fun p hp => by
        obtain ⟨x, hx⟩ := getD_some (rfl : P.length = P.length) hp
        unfold mostP
        rw [List.getD_eq_getElem?_getD, hx]
        exact hmo x (List.mem_of_getElem? hx))
      have d4 := fun u (hu : Ext w7 u) => divided_some (hM.more hu) t hP4 hS12 hmo hf
      have d5 := fun u (hu : Ext w7 u) => unsureOf_some (hM.more hu) t hP4 hS12 hmo hf hbig
      have hl1 : (divN P (singersL V t) (comL V t P) [0, 0, 0, 0]).length ≤ 100000 := by rw [divN_len hf hCS]; omega
      have hl2 : (unsT P (singersL V t) (comL V t P) (comL V t P).length).length ≤ 1000 := Nat.le_trans (unsT_len _ _) (by omega)
      generalize divN P (singersL V t) (comL V t P) [0, 0, 0, 0] = T at *
      generalize unsT P (singersL V t) (comL V t P) (comL V t P).length = U at *
      generalize fromF P (comL V t P) [0, 0, 0, 0] = best at *
      replace hbo := Lib.hid hbo
      replace c1 := Lib.hid c1
      replace c2 := Lib.hid c2
      replace c3 := Lib.hid c3
      replace c4 := Lib.hid c4
      replace c5 := Lib.hid c5
      replace c7 := Lib.hid c7
      replace d4 := Lib.hid d4
      replace d5 := Lib.hid d5
      clear hM hz hz0 hbz hv0 hp0 hdz hmo hS12 hCS hbig hf
      go_wp2_with (first
        | (go_at_call 8; (with_reducible refine Calls.mono (c1.out _ (by exact Ext.refl _)) ?_); rintro e u1 ⟨rfl, hu1⟩)
        | (go_at_call 9; (with_reducible refine Calls.mono (c2.out _ (by exact hu1)) ?_); rintro e u2 ⟨rfl, hu2⟩)
        | (go_at_call 7; (refine (orErr_blk _ _ _ [voicesF V, partsF P] _ (by simp) (by exact Blk.new' rfl)).mono ?_; rintro e x4 ⟨rfl, rfl⟩; rw [hbo.out]; have E4 := (hu1.trans hu2).alloc (.cells #[.int .i64 (voicesF V), .int .i64 (partsF P)] 31)))
        | (go_at_call 10; (with_reducible refine Calls.mono (c3.out _ E4) ?_); rintro e u3 ⟨rfl, hu3⟩; have E3 := E4.trans hu3)
        | (go_at_call 11; (with_reducible refine Calls.mono (c4.out _ E3) ?_); rintro e u5 ⟨q5, d5x, rfl, hS5, hu5⟩; have E5 := E3.trans hu5)
        | (go_at_call 12; (with_reducible refine Calls.mono (c5.out _ E5) ?_); rintro e u6 ⟨q6, d6x, rfl, hS6, hu6⟩; have E6 := E5.trans hu6)
        | (go_at_call 14; (with_reducible refine Calls.mono (d4.out _ E6) ?_); rintro e u7 ⟨q7, d7x, rfl, hS7, hu7⟩; have E7 := E6.trans hu7)
        | (go_at_call 15; (with_reducible refine Calls.mono (d5.out _ E7) ?_); rintro e u8 ⟨q8, d8x, rfl, hS8, hu8⟩; have E8 := E7.trans hu8; have hS58 := hS5.ext ((hu6.trans hu7).trans hu8); have hS78 := hS7.ext hu8; have hS68 := hS6.ext (hu7.trans hu8))
        | (go_at_call 16; (with_reducible refine Calls.mono (eqPairV_any _ _ _ _ _ _ _ hS58 hS78 hl1) ?_); rintro e u10 ⟨rfl, hu10⟩; have E10 := E8.trans hu10; have hS610 := hS68.ext hu10; have hS810 := hS8.ext hu10)
        | (go_at_call 17; (with_reducible refine Calls.mono (eqStrV_any _ _ _ _ _ _ _ hS610 hS810 hl2) ?_); rintro e u11 ⟨rfl, hu11⟩; have E11 := E10.trans hu11)
        | (go_at_call 13; (with_reducible refine Calls.mono (c7.out _) ?_); rintro e u13 ⟨rfl, hu13⟩))
      go_ret
      exact ⟨rfl, hX4.trans (E11.trans hu13)⟩
  · have c4 := fun u (hu : Ext w7 u) => divide_bad (hM.more hu) t hz
    have c5 := fun u (hu : Ext w7 u) => unsure_bad (hM.more hu) t hz
    by_cases hb : bothF V P = 0
    · have hv0 : voicesF V = 0 := by
        unfold bothF at hb
        by_cases hb1 : voicesF V = 0
        · exact hb1
        · rw [if_neg hb1] at hb; exact absurd hb hb1
      have hp0 : partsF P = 0 := by
        unfold bothF at hb
        rw [if_pos hv0] at hb; exact hb
      have c3 := fun u (hu : Ext w7 u) => divideFault_any (hM.more hu) t
      rw [← errV_div V P t hv0 hp0] at c3
      rw [hb] at hbo
      generalize errV V P t = er at *
      have hne : (er == 0) = false := beq_false_of_ne hz
      replace hbo := Lib.hid hbo
      replace c1 := Lib.hid c1
      replace c2 := Lib.hid c2
      replace c3 := Lib.hid c3
      replace c4 := Lib.hid c4
      replace c5 := Lib.hid c5
      replace c7 := Lib.hid c7
      clear hM hb hv0 hp0 hS12
      go_wp2_with (first
        | (go_at_call 8; (with_reducible refine Calls.mono (c1.out _ (by exact Ext.refl _)) ?_); rintro e u1 ⟨rfl, hu1⟩)
        | (go_at_call 9; (with_reducible refine Calls.mono (c2.out _ (by exact hu1)) ?_); rintro e u2 ⟨rfl, hu2⟩)
        | (go_at_call 7; (refine (orErr_blk _ _ _ [voicesF V, partsF P] _ (by simp) (by exact Blk.new' rfl)).mono ?_; rintro e x4 ⟨rfl, rfl⟩; rw [hbo.out]; have E4 := (hu1.trans hu2).alloc (.cells #[.int .i64 (voicesF V), .int .i64 (partsF P)] 31)))
        | (go_at_call 10; (with_reducible refine Calls.mono (c3.out _ E4) ?_); rintro e u3 ⟨rfl, hu3⟩; have E3 := E4.trans hu3)
        | (go_at_call 11; (with_reducible refine Calls.mono (c4.out _ E3) ?_); rintro e u5 ⟨rfl, hu5⟩; have E5 := E3.trans hu5)
        | (go_at_call 12; (with_reducible refine Calls.mono (c5.out _ E5) ?_); rintro e u6 ⟨rfl, hu6⟩; have E6 := E5.trans hu6)
        | (go_at_call 13; (with_reducible refine Calls.mono (c7.out _) ?_); rintro e u13 ⟨rfl, hu13⟩))
      go_ret
      exact ⟨rfl, hX4.trans (E6.trans hu13)⟩
    · have her : errV V P t = bothF V P := by
        unfold errV errL
        rw [if_neg hb, if_neg hb]
      rw [her] at c4 c5 hz
      generalize bothF V P = er at *
      have hne : (er == 0) = false := beq_false_of_ne hz
      replace hbo := Lib.hid hbo
      replace c1 := Lib.hid c1
      replace c2 := Lib.hid c2
      replace c4 := Lib.hid c4
      replace c5 := Lib.hid c5
      replace c7 := Lib.hid c7
      clear hM hb her hS12
      go_wp2_with (first
        | (go_at_call 8; (with_reducible refine Calls.mono (c1.out _ (by exact Ext.refl _)) ?_); rintro e u1 ⟨rfl, hu1⟩)
        | (go_at_call 9; (with_reducible refine Calls.mono (c2.out _ (by exact hu1)) ?_); rintro e u2 ⟨rfl, hu2⟩)
        | (go_at_call 7; (refine (orErr_blk _ _ _ [voicesF V, partsF P] _ (by simp) (by exact Blk.new' rfl)).mono ?_; rintro e x4 ⟨rfl, rfl⟩; rw [hbo.out]; have E4 := (hu1.trans hu2).alloc (.cells #[.int .i64 (voicesF V), .int .i64 (partsF P)] 31)))
        | (go_at_call 11; (with_reducible refine Calls.mono (c4.out _ E4) ?_); rintro e u5 ⟨rfl, hu5⟩; have E5 := E4.trans hu5)
        | (go_at_call 12; (with_reducible refine Calls.mono (c5.out _ E5) ?_); rintro e u6 ⟨rfl, hu6⟩; have E6 := E5.trans hu6)
        | (go_at_call 13; (with_reducible refine Calls.mono (c7.out _) ?_); rintro e u13 ⟨rfl, hu13⟩))
      go_ret
      exact ⟨rfl, hX4.trans (E6.trans hu13)⟩
end Go.Proofs.YtcdjkgfdhngmeaaGreatDoor
