/- UnsureOf's loop, walked. Conditions: right voices and parts; sizes. -/
import Derived.Test.YtcdjkgfdhngmeaaGreatDoorSdJ46
set_option linter.unusedSimpArgs false
set_option linter.unusedVariables false
namespace Go.Proofs.YtcdjkgfdhngmeaaGreatDoor
open Go Go.RowKit

theorem best_lens {P : List PartV} {C : List (List Int)} (h : fromF P C [0, 0, 0, 0] ≠ -1) : ∀ g ∈ bestL P C [0, 0, 0, 0], g.length = C.length := fun g hg => by
  unfold bestL at hg
  exact compl_len C _ g (List.mem_filter.1 hg).1
set_option maxRecDepth 100000 in
set_option maxHeartbeats 3200000 in
theorem unsureOf_none {w : World} {vp pp : Option Addr} {vc pc : Nat} {V : List VoiceV} {P : List PartV} (h : VpM w vp vc V pp pc P) (t : Int) (hP4 : P.length ≤ 4) (hC12 : (singersL V t).length ≤ 12) (hmo : ∀ x ∈ P, 0 ≤ x.most) (hf : fromF P (comL V t P) [0, 0, 0, 0] = -1) :
    Calls Tryz.prog 15 #[.slice vp V.length vc, .slice pp P.length pc, .int .i64 t] w fun e w' => e = .returned (.tuple #[.slice none 0 0, .bool false]) ∧ Ext w w' := by
  have hd := divisions_any h t hP4 hC12 hmo
  have hso := fun u (hu : Ext w u) => singersOf_any vp V.length vc V t u (h.voi.ext hu).1 h.sV h.nV
  have hmf : ∀ (fn : Fn) (first cap : Array Value) (w : World), (Instr.makeFunc fn first cap).run Tryz.prog w = .ok (.func fn first cap) w := fun _ _ _ _ => rfl
  rw [best_none hf] at hd
  generalize fromF P (comL V t P) [0, 0, 0, 0] = best at *
  generalize singersL V t = S at *
  generalize comL V t P = C at *
  simp only [List.length_nil] at hd
  replace hd := Lib.hid hd
  replace hf := Lib.hid hf
  replace hso := Lib.hid hso
  clear h hmo
  go_enter Tryz.func15, Tryz.ntmps15
  go_upto_region 2 with (go_at_call 38; go_loud ((with_reducible refine Calls.mono hd.out ?_); rintro e w1 ⟨q, d, rfl, hR, hb1⟩))
  have hB1 : Blk (w1.alloc (.cells #[.slice q 0 d] 81)) w1.heap.size 81 #[.slice q 0 d] := Blk.new' rfl
  have hE1 : Ext w (w1.alloc (.cells #[.slice q 0 d] 81)) := hb1.alloc _
  generalize w1.alloc (.cells #[.slice q 0 d] 81) = W2 at *
  generalize w1.heap.size = ga at *
  clear hR hb1 hd
  have hem : ∀ (c : Nat) (fv : Value) (u : World), Calls Tryz.prog 39 #[.slice q 0 c, fv] u fun e w' => e = .returned (.bool false) ∧ w' = u := fun c fv u => AnyE.slices_ContainsFunc_empty Tryz.lqcRows q c fv u
  replace hem := Lib.hid hem
  go_wp2_with (go_at_call 33; go_loud ((with_reducible refine Calls.mono (hso.out _ hE1) ?_); rintro e w2 ⟨qs, ds, rfl, hoS, hb2⟩))
  obtain ⟨qs', ds', e9, hSn⟩ := slc_of_own (enc := strC) (fun _ => rfl) hoS (by decide) (by omega)
  cases e9
  have hB2 := hB1.ext hb2
  have hE2 := hE1.trans hb2
  clear hb2 hoS hB1 hE1
  go_loopw [10, 24] (fun v10 v24 wr => ∃ k : Nat, v24 = .int .i64 k ∧ v10 = .slice none 0 0 ∧ k ≤ S.length ∧ Ext w2 wr) (fun _ v24 _ => S.length - (intOf v24).toNat)
  case atStart => exact ⟨0, rfl, rfl, Nat.zero_le _, Ext.refl _⟩
  case round =>
    obtain ⟨k, rfl, rfl, hk, he⟩ := hrel
    have hBr := hB2.ext he
    obtain ⟨y1, y2⟩ := hBr.walk
    have y3 := hBr.lt
    by_cases hlt : k < S.length
    · obtain ⟨s, hs⟩ := getD_some (rfl : S.length = S.length) hlt
      have hkI : (k : Int) < S.length := by omega
      obtain ⟨-, ⟨_, e9⟩ | ⟨sb, soff, rfl, hsb, hsE⟩⟩ := slcC (hSn.ext he)
      · rw [e9] at hs; cases hs
      have c1 := hsE.str hs
      replace hs := Lib.hid hs
      clear hsE
      go_wp2_with (go_at_call 39; go_loud ((with_reducible refine Calls.mono (hem.out _ _ _) ?_); rintro e w3 ⟨rfl, rfl⟩))
      go_roundw
      case rel => exact ⟨k + 1, by go_num, rfl, by omega, he.alloc _⟩
      case measure => simp [intOf]; omega
    · obtain rfl : k = S.length := by omega
      have hEf := hE2.trans he
      replace hE2 := Lib.hid hE2
      go_upto_region 9 with fail
      refine wp_region_facts [] [([], false, false), ([], false, false), ([1], false, false), ([1, 2], false, false), ([0], false, false), ([1, 2, 3], false, false)] (Ext) Ext (fun _ => True) (by kernel_rfl) (by kernel_rfl) Ext.refl (fun _ _ _ => Ext.trans) (fun _ _ h => h) (fun _ _ h => h.size) (fun _ _ h _ => h) trivial ?_
      dsimp only [List.length_cons, List.length_nil, List.drop_succ_cons, List.drop_zero, List.drop_nil]
      refine fac_quiet 0 rfl rfl rfl (fun _ _ h _ => h) rfl rfl ?_
      apply Exists.intro
      refine ⟨fun sv w' hw' hfa => ?_, ?_⟩
      · refine ⟨rfl, ?_⟩
        simp only [putsL]
        change quietTo _ _ _ _ (Sem.run _ (execOp (Act.eval _) _) _)
        try simp only [Act.put, List.setIfInBounds_toArray, List.set_cons_succ, List.set_cons_zero]
        simp [go_sem, quietTo, Ext.refl]
        all_goals first
          | rfl
      refine fac_quiet 1 rfl rfl rfl (fun _ _ h _ => h) rfl rfl ?_
      apply Exists.intro
      refine ⟨fun sv w' hw' hfa => ?_, ?_⟩
      · have hk9 := (Ext.refl wr).drew.trans hw'; obtain ⟨y4, -⟩ := (hBr.ext hk9).walk
        refine ⟨rfl, ?_⟩
        simp only [putsL]
        change quietTo _ _ _ _ (Sem.run _ (execOp (Act.eval _) _) _)
        try simp only [Act.put, List.setIfInBounds_toArray, List.set_cons_succ, List.set_cons_zero]
        simp [go_sem, quietTo, Ext.refl, ↓IntWalk.iteOmega, y4]
        all_goals try simp (disch := omega) only [IntWalk.i64_in]
        all_goals first
          | rfl
      refine fac_quiet 2 rfl rfl rfl (fun _ _ h _ => h) rfl rfl ?_
      apply Exists.intro
      refine ⟨fun sv w' hw' hfa => ?_, ?_⟩
      · obtain ⟨f1, -⟩ := hfa
        replace f1 : sv 1 = _ := f1
        try dsimp only at f1
        refine ⟨rfl, ?_⟩
        simp only [putsL]
        change quietTo _ _ _ _ (Sem.run _ (execOp (Act.eval (Act.put _ (some 38) (sv 1))) _) _)
        try simp only [Act.put, List.setIfInBounds_toArray, List.set_cons_succ, List.set_cons_zero]
        simp [go_sem, quietTo, Ext.refl, ↓IntWalk.iteOmega, f1]
        all_goals try simp (disch := omega) only [IntWalk.i64_in]
        all_goals first
          | rfl
      refine fac_quiet 3 rfl rfl rfl (fun _ _ h _ => h) rfl rfl ?_
      apply Exists.intro
      refine ⟨fun sv w' hw' hfa => ?_, ?_⟩
      · obtain ⟨_, f2, -⟩ := hfa
        replace f2 : sv 2 = _ := f2
        try dsimp only at f2
        refine ⟨rfl, ?_⟩
        simp only [putsL]
        change quietTo _ _ _ _ (Sem.run _ (execOp (Act.eval (Act.put (Act.put _ (some 39) (sv 2)) (some 38) (sv 1))) _) _)
        try simp only [Act.put, List.setIfInBounds_toArray, List.set_cons_succ, List.set_cons_zero]
        simp [go_sem, quietTo, Ext.refl, ↓IntWalk.iteOmega, f2]
        all_goals try simp (disch := omega) only [IntWalk.i64_in]
        all_goals first
          | rfl
      refine fac_quiet 4 rfl rfl rfl (fun _ _ h _ => h) rfl rfl ?_
      apply Exists.intro
      refine ⟨fun sv w' hw' hfa => ?_, ?_⟩
      · obtain ⟨f0, -⟩ := hfa
        replace f0 : sv 0 = _ := f0
        try dsimp only at f0
        refine ⟨rfl, ?_⟩
        simp only [putsL]
        change quietTo _ _ _ _ (Sem.run _ (execOp (Act.eval (Act.put _ (some 37) (sv 0))) _) _)
        try simp only [Act.put, List.setIfInBounds_toArray, List.set_cons_succ, List.set_cons_zero]
        simp [go_sem, quietTo, Ext.refl, f0]
        all_goals first
          | rfl
      refine fac_quiet 5 rfl rfl rfl (fun _ _ h _ => h) rfl rfl ?_
      apply Exists.intro
      refine ⟨fun sv w' hw' hfa => ?_, ?_⟩
      · obtain ⟨_, _, f3, -⟩ := hfa
        replace f3 : sv 3 = _ := f3
        try dsimp only at f3
        refine ⟨rfl, ?_⟩
        simp only [putsL]
        change quietTo _ _ _ _ (Sem.run _ (execOp (Act.eval (Act.put (Act.put (Act.put _ (some 40) (sv 3)) (some 39) (sv 2)) (some 38) (sv 1))) _) _)
        try simp only [Act.put, List.setIfInBounds_toArray, List.set_cons_succ, List.set_cons_zero]
        simp [go_sem, quietTo, Ext.refl, f3]
        all_goals first
          | rfl
      refine fac_nil fun xq wrq herq hfrq hcrq holdq hapq => ?_
      obtain ⟨f0, f1, f2, f3, f4, f5, -⟩ := hfrq
      replace f0 : xq 0 = _ := f0
      try dsimp only at f0
      replace f1 : xq 1 = _ := f1
      try dsimp only at f1
      replace f2 : xq 2 = _ := f2
      try dsimp only at f2
      replace f3 : xq 3 = _ := f3
      try dsimp only at f3
      replace f4 : xq 4 = _ := f4
      try dsimp only at f4
      replace f5 : xq 5 = _ := f5
      try dsimp only at f5
      change wpList _ _ _ _ (Act.put (Act.put (Act.put (Act.put (Act.put (Act.put _ (some 37) (xq 0)) (some 38) (xq 1)) (some 39) (xq 2)) (some 40) (xq 3)) (some 6) (xq 4)) (some 7) (xq 5)) _
      simp only [putsL, Nat.reduceAdd, List.drop_succ_cons, List.drop_zero, List.drop_nil, Act.put, List.setIfInBounds_toArray, List.set_cons_succ, List.set_cons_zero]
      try simp only [f0, f1, f2, f3, f4, f5]
      clear f0 f1 f2 f3 f4 f5
      clear holdq hapq
      go_wp2
      go_ret2
      exact ⟨rfl, hEf.trans ((Ext.refl _).drew.trans herq)⟩
set_option maxRecDepth 100000 in
set_option maxHeartbeats 6400000 in
theorem unsureOf_some {w : World} {vp pp : Option Addr} {vc pc : Nat} {V : List VoiceV} {P : List PartV} (h : VpM w vp vc V pp pc P) (t : Int) (hP4 : P.length ≤ 4) (hC12 : (singersL V t).length ≤ 12) (hmo : ∀ x ∈ P, 0 ≤ x.most) (hf : fromF P (comL V t P) [0, 0, 0, 0] ≠ -1) (hbig : (bestL P (comL V t P) [0, 0, 0, 0]).length ≤ 1000000000) :
    Calls Tryz.prog 15 #[.slice vp V.length vc, .slice pp P.length pc, .int .i64 t] w fun e w' =>
      ∃ (q : Option Addr) (d : Nat), e = .returned (.tuple #[.slice q (unsT P (singersL V t) (comL V t P) (comL V t P).length).length d, .bool true]) ∧ Slc 1 strC w' q (unsT P (singersL V t) (comL V t P) (comL V t P).length).length d (unsT P (singersL V t) (comL V t P) (comL V t P).length) ∧ Ext w w' := by
  have hd := divisions_any h t hP4 hC12 hmo
  have hso := fun u (hu : Ext w u) => singersOf_any vp V.length vc V t u (h.voi.ext hu).1 h.sV h.nV
  have hmf : ∀ (fn : Fn) (first cap : Array Value) (w : World), (Instr.makeFunc fn first cap).run Tryz.prog w = .ok (.func fn first cap) w := fun _ _ _ _ => rfl
  have hCS := comL_len V t P
  obtain ⟨l, hl⟩ := best_head _ _ hf
  have hlens := best_lens hf
  have hoth := fun i (hi : i < (comL V t P).length) => oth_any hf hi hlens
  have hpos : 0 < (bestL P (comL V t P) [0, 0, 0, 0]).length := by rw [hl]; simp
  obtain ⟨T, hT⟩ : ∃ T, unsT P (singersL V t) (comL V t P) = T := ⟨_, rfl⟩
  have hTs := fun i => unsT.eq_2 P (singersL V t) (comL V t P) i
  have hTl := fun i => unsT_len (P := P) (C := comL V t P) (singersL V t) i
  have hT0 : unsT P (singersL V t) (comL V t P) 0 = [] := rfl
  simp only [hT] at hTs hTl hT0 ⊢
  clear hT
  generalize hLe : bestL P (comL V t P) [0, 0, 0, 0] = L at *
  generalize divG P (comL V t P) [0, 0, 0, 0] = G at *
  generalize fromF P (comL V t P) [0, 0, 0, 0] = best at *
  obtain ⟨U, hU⟩ : ∃ U, unsB P (comL V t P) = U := ⟨_, rfl⟩
  simp only [hU] at hTs hoth
  clear hU hLe
  generalize singersL V t = S at *
  generalize comL V t P = C at *
  replace hd := Lib.hid hd
  replace hf := Lib.hid hf
  replace hso := Lib.hid hso
  replace hCS := Lib.hid hCS
  replace hTs := Lib.hid hTs
  replace hTl := Lib.hid hTl
  replace hT0 := Lib.hid hT0
  replace hoth := Lib.hid hoth
  replace hl := Lib.hid hl
  replace hlens := Lib.hid hlens
  have hn0 : (0 : Int) < L.length := by omega
  clear h hmo
  go_enter Tryz.func15, Tryz.ntmps15
  go_upto_region 2 with (go_at_call 38; go_loud ((with_reducible refine Calls.mono hd.out ?_); rintro e w1 ⟨q, d, rfl, hR, hb1⟩))
  have hB1 : Blk (w1.alloc (.cells #[.slice q L.length d] 81)) w1.heap.size 81 #[.slice q L.length d] := Blk.new' rfl
  have hE0 : Ext w1 (w1.alloc (.cells #[.slice q L.length d] 81)) := (Ext.refl _).alloc _
  have hE1 := hb1.trans hE0
  have hR1 := hR.ext hE0
  generalize w1.alloc (.cells #[.slice q L.length d] 81) = W2 at *
  generalize w1.heap.size = ga at *
  clear hR hb1 hd hE0
  replace hR1 := Lib.hid hR1
  go_wp2_with (go_at_call 33; go_loud ((with_reducible refine Calls.mono (hso.out _ hE1) ?_); rintro e w2 ⟨qs, ds, rfl, hoS, hb2⟩))
  obtain ⟨qs', ds', e9, hSn⟩ := slc_of_own (enc := strC) (fun _ => rfl) hoS (by decide) (by omega)
  cases e9
  have hB2 := hB1.ext hb2
  have hE2 := hE1.trans hb2
  have hR2 := hR1.out.ext hb2
  replace hR2 := Lib.hid hR2
  clear hb2 hoS hB1 hE1 hso
  obtain ⟨B, hBe⟩ : ∃ B, w2.heap.size = B := ⟨_, rfl⟩
  have hgaB := hB2.lt
  rw [hBe] at hgaB
  go_loopw [10, 24] (fun v10 v24 wr => ∃ (k : Nat) (v : Value), v24 = .int .i64 k ∧ v10 = v ∧ k ≤ S.length ∧ wr.ownsRow B 9 1 v (T k).length ((T k).flatMap strC) ∧ Ext w2 wr) (fun _ v24 _ => S.length - (intOf v24).toNat)
  case atStart => exact ⟨0, _, rfl, rfl, Nat.zero_le _, by rw [hT0.out]; exact World.ownsRow_nil _ _ _ _, Ext.refl _⟩
  case round =>
    obtain ⟨k, v, rfl, rfl, hk, hown, he⟩ := hrel
    have hBr := hB2.ext he
    obtain ⟨y1, y2⟩ := hBr.walk
    have y3 := hBr.lt
    by_cases hlt : k < S.length
    · obtain ⟨s, hs⟩ := getD_some (rfl : S.length = S.length) hlt
      have hkI : (k : Int) < S.length := by omega
      obtain ⟨-, ⟨_, e9⟩ | ⟨sb, soff, rfl, hsb, hsE⟩⟩ := slcC (hSn.ext he)
      · rw [e9] at hs; cases hs
      have c1 := hsE.str hs
      have hkC : k < C.length := by rw [hCS.out]; exact hlt
      have hok := hoth.out k hkC
      have hTk : T (k + 1) = _ := hTs.out k
      have hSk : S.getD k ⟨#[]⟩ = s := by rw [List.getD_eq_getElem?_getD, hs]; rfl
      rw [hSk] at hTk
      have hTlk := hTl.out k
      have hEa : Ext wr (wr.alloc (.cells #[.int .i64 k] 3)) := (Ext.refl _).alloc _
      have hBk : Blk (wr.alloc (.cells #[.int .i64 k] 3)) wr.heap.size 3 #[.int .i64 k] := Blk.new' rfl
      have hcall := unsHas hl.out hBk (hBr.ext hEa) ((hR2.out.ext he).ext hEa) (fun g hg => by rw [hlens.out g hg]; exact hkC) hbig
      rw [hok] at hcall
      have hszr := he.size
      rw [hBe] at hszr
      replace hcall := Lib.hid hcall
      replace hs := Lib.hid hs
      clear hsE hok hBk hSk
      cases hu : U k
      · simp only [hu, Bool.false_eq_true, if_false, List.append_nil] at hTk hcall
        replace hTk := Lib.hid hTk
        go_wp2_with (go_at_call 39; go_loud ((with_reducible refine Calls.mono hcall.out ?_); rintro e w3 ⟨rfl, hb3⟩))
        have he3 := (he.trans hEa).trans hb3
        have hown3 := own_ext (hEa.trans hb3) hown
        go_roundw
        case rel => exact ⟨k + 1, _, by go_num, rfl, by omega, by rw [hTk.out]; exact hown3, he3⟩
        case measure => simp [intOf]; omega
      · simp only [hu, if_true] at hTk hcall
        replace hTk := Lib.hid hTk
        go_wp2_with (first
          | (go_at_call 39; go_loud ((with_reducible refine Calls.mono hcall.out ?_); rintro e w3 ⟨rfl, hb3⟩; have he3 := (he.trans hEa).trans hb3; have hown3 := own_ext (hEa.trans hb3) hown; have hsz3 := he3.size; rw [hBe] at hsz3))
          | (at_builtin; go_loud (refine wp_app1 _ (.tmp 32) (.tmp 34) 39 9 1 16 _ rfl rfl Tryz.underlying39 strInfo rfl (by decide) (by decide) B _ (T k).length _ rfl (hown3.alloc _) w3.heap.size (strC s) rfl rfl (Blk.new' rfl) (by simp [strC, Value.oneCell']) (by omega) (by simp; omega) ?_; intro v' w6 hown6 hgrow6 _)))
        have hbl : ∀ q, u10.ownBlock = some q → B ≤ q := fun q e => (hown.lt q e).1
        go_roundw
        case rel => exact ⟨k + 1, v', by go_num, rfl, by omega, by rw [hTk.out, flat_snoc, List.length_append]; exact hown6, (he3.alloc _).grown hgrow6 (fun q e => by have := hbl q e; omega)⟩
        case measure => simp [intOf]; omega
    · obtain rfl : k = S.length := by omega
      rw [← hCS.out] at hown
      have hTlk := hTl.out C.length
      obtain ⟨q9, d9, rfl, hs9⟩ := slc_of_own (enc := strC) (fun _ => rfl) hown (by decide) (by have := hCS.out; omega)
      have hEf := hE2.trans he
      replace hs9 := Lib.hid hs9
      clear hown hTlk
      go_upto_region 9 with fail
      refine wp_region_facts [] [([], false, false), ([], false, false), ([1], false, false), ([1, 2], false, false), ([0], false, false), ([1, 2, 3], false, false)] (Ext) Ext (fun _ => True) (by kernel_rfl) (by kernel_rfl) Ext.refl (fun _ _ _ => Ext.trans) (fun _ _ h => h) (fun _ _ h => h.size) (fun _ _ h _ => h) trivial ?_
      dsimp only [List.length_cons, List.length_nil, List.drop_succ_cons, List.drop_zero, List.drop_nil]
      refine fac_quiet 0 rfl rfl rfl (fun _ _ h _ => h) rfl rfl ?_
      apply Exists.intro
      refine ⟨fun sv w' hw' hfa => ?_, ?_⟩
      · refine ⟨rfl, ?_⟩
        simp only [putsL]
        change quietTo _ _ _ _ (Sem.run _ (execOp (Act.eval _) _) _)
        try simp only [Act.put, List.setIfInBounds_toArray, List.set_cons_succ, List.set_cons_zero]
        simp [go_sem, quietTo, Ext.refl]
        all_goals first
          | rfl
      refine fac_quiet 1 rfl rfl rfl (fun _ _ h _ => h) rfl rfl ?_
      apply Exists.intro
      refine ⟨fun sv w' hw' hfa => ?_, ?_⟩
      · have hk9 := (Ext.refl wr).drew.trans hw'; obtain ⟨y4, -⟩ := (hBr.ext hk9).walk
        refine ⟨rfl, ?_⟩
        simp only [putsL]
        change quietTo _ _ _ _ (Sem.run _ (execOp (Act.eval _) _) _)
        try simp only [Act.put, List.setIfInBounds_toArray, List.set_cons_succ, List.set_cons_zero]
        simp [go_sem, quietTo, Ext.refl, ↓IntWalk.iteOmega, y4]
        all_goals try simp (disch := omega) only [IntWalk.i64_in]
        all_goals first
          | rfl
      refine fac_quiet 2 rfl rfl rfl (fun _ _ h _ => h) rfl rfl ?_
      apply Exists.intro
      refine ⟨fun sv w' hw' hfa => ?_, ?_⟩
      · obtain ⟨f1, -⟩ := hfa
        replace f1 : sv 1 = _ := f1
        try dsimp only at f1
        refine ⟨rfl, ?_⟩
        simp only [putsL]
        change quietTo _ _ _ _ (Sem.run _ (execOp (Act.eval (Act.put _ (some 38) (sv 1))) _) _)
        try simp only [Act.put, List.setIfInBounds_toArray, List.set_cons_succ, List.set_cons_zero]
        simp [go_sem, quietTo, Ext.refl, ↓IntWalk.iteOmega, f1]
        all_goals try simp (disch := omega) only [IntWalk.i64_in]
        all_goals first
          | rfl
      refine fac_quiet 3 rfl rfl rfl (fun _ _ h _ => h) rfl rfl ?_
      apply Exists.intro
      refine ⟨fun sv w' hw' hfa => ?_, ?_⟩
      · obtain ⟨_, f2, -⟩ := hfa
        replace f2 : sv 2 = _ := f2
        try dsimp only at f2
        have hk9 := (Ext.refl wr).drew.trans hw'; obtain ⟨y4, -⟩ := (hBr.ext hk9).walk
        refine ⟨rfl, ?_⟩
        simp only [putsL]
        change quietTo _ _ _ _ (Sem.run _ (execOp (Act.eval (Act.put (Act.put _ (some 39) (sv 2)) (some 38) (sv 1))) _) _)
        try simp only [Act.put, List.setIfInBounds_toArray, List.set_cons_succ, List.set_cons_zero]
        simp [go_sem, quietTo, Ext.refl, ↓IntWalk.iteOmega, f2, hn0]
        all_goals try simp (disch := omega) only [IntWalk.i64_in]
        all_goals first
          | rfl
      refine fac_quiet 4 rfl rfl rfl (fun _ _ h _ => h) rfl rfl ?_
      apply Exists.intro
      refine ⟨fun sv w' hw' hfa => ?_, ?_⟩
      · obtain ⟨f0, -⟩ := hfa
        replace f0 : sv 0 = _ := f0
        try dsimp only at f0
        refine ⟨rfl, ?_⟩
        simp only [putsL]
        change quietTo _ _ _ _ (Sem.run _ (execOp (Act.eval (Act.put _ (some 37) (sv 0))) _) _)
        try simp only [Act.put, List.setIfInBounds_toArray, List.set_cons_succ, List.set_cons_zero]
        simp [go_sem, quietTo, Ext.refl, f0]
        all_goals first
          | rfl
      refine fac_quiet 5 rfl rfl rfl (fun _ _ h _ => h) rfl rfl ?_
      apply Exists.intro
      refine ⟨fun sv w' hw' hfa => ?_, ?_⟩
      · obtain ⟨_, _, f3, -⟩ := hfa
        replace f3 : sv 3 = _ := f3
        try dsimp only at f3
        refine ⟨rfl, ?_⟩
        simp only [putsL]
        change quietTo _ _ _ _ (Sem.run _ (execOp (Act.eval (Act.put (Act.put (Act.put _ (some 40) (sv 3)) (some 39) (sv 2)) (some 38) (sv 1))) _) _)
        try simp only [Act.put, List.setIfInBounds_toArray, List.set_cons_succ, List.set_cons_zero]
        simp [go_sem, quietTo, Ext.refl, f3]
        all_goals first
          | rfl
      refine fac_nil fun xq wrq herq hfrq hcrq holdq hapq => ?_
      obtain ⟨f0, f1, f2, f3, f4, f5, -⟩ := hfrq
      replace f0 : xq 0 = _ := f0
      try dsimp only at f0
      replace f1 : xq 1 = _ := f1
      try dsimp only at f1
      replace f2 : xq 2 = _ := f2
      try dsimp only at f2
      replace f3 : xq 3 = _ := f3
      try dsimp only at f3
      replace f4 : xq 4 = _ := f4
      try dsimp only at f4
      replace f5 : xq 5 = _ := f5
      try dsimp only at f5
      change wpList _ _ _ _ (Act.put (Act.put (Act.put (Act.put (Act.put (Act.put _ (some 37) (xq 0)) (some 38) (xq 1)) (some 39) (xq 2)) (some 40) (xq 3)) (some 6) (xq 4)) (some 7) (xq 5)) _
      simp only [putsL, Nat.reduceAdd, List.drop_succ_cons, List.drop_zero, List.drop_nil, Act.put, List.setIfInBounds_toArray, List.set_cons_succ, List.set_cons_zero]
      try simp only [f0, f1, f2, f3, f4, f5]
      clear f0 f1 f2 f3 f4 f5
      clear holdq hapq
      go_wp2
      go_ret2
      exact ⟨_, _, rfl, hs9.out.ext ((Ext.refl _).drew.trans herq), hEf.trans ((Ext.refl _).drew.trans herq)⟩
end Go.Proofs.YtcdjkgfdhngmeaaGreatDoor
