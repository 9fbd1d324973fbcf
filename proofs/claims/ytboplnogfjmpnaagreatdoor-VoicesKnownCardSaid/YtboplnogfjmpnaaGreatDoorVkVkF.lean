/- How a singer has grown, by the program. Conditions: sizes. -/
import Derived.Test.YtboplnogfjmpnaaGreatDoorVkVkE
set_option linter.unusedSimpArgs false
set_option linter.unusedVariables false
namespace Go.Proofs.YtboplnogfjmpnaaGreatDoor
open Go Go.RowKit

/-- What Grown answers, behind what is wrong. -/
def grownV (V : List VoiceV) (p : ByteArray) (t u : Int) : Int × Int × Bool :=
  if errG V p t u = 0 then (if (isW V p t && isW V p u) = true then ((rgW V p t).1 - (rgW V p u).1, (rgW V p u).2 - (rgW V p t).2, true) else (0, 0, false)) else (0, 0, false)
section
variable {w : World} {vp : Option Addr} {vc : Nat} {V : List VoiceV}
set_option maxRecDepth 100000 in
set_option maxHeartbeats 6400000 in
theorem grownK_any (h : Slc 4 voiC w vp V.length vc V) (hs : ∀ x ∈ V, x.Small) (hn : V.length ≤ 200) (p : ByteArray) (t u : Int) (hp : p.size ≤ 1000) :
    Calls Tryz.prog 18 #[.slice vp V.length vc, .string p, .int .i64 t, .int .i64 u] w fun e w' => e = .returned (.tuple #[.int .i64 (grownV V p t u).1, .int .i64 (grownV V p t u).2.1, .bool (grownV V p t u).2.2, .int .i64 (errG V p t u)]) ∧ Ext w w' := by
  have h1 := checkVoices_any vp V.length vc V w h.1 hs hn
  have hsi : ∀ v g ty cap, Blk v g ty #[.int .i64 t, .int .i64 u] → Calls Tryz.prog 52 #[.string p, .slice (some ⟨g, 0, none⟩) 2 cap] v fun e w' => e = .returned (.int .i64 (singK2 p t u)) ∧ Ext v w' := fun v g ty cap hB => singerFault2_any p t u g ty cap v hp hB
  by_cases hz : voicesF V = 0
  rotate_left
  · have hF : errG V p t u = voicesF V := by unfold errG; rw [if_neg hz]
    have hG : grownV V p t u = (0, 0, false) := by unfold grownV; rw [hF, if_neg hz]
    rw [hF, hG]
    dsimp only
    clear hF hG hsi
    generalize voicesF V = f at *
    replace h1 := Lib.hid h1
    clear h hs
    go_enter Tryz.func18, Tryz.ntmps18
    go_wp2_with (go_at_call 15; (with_reducible refine Calls.mono h1.out ?_); rintro e w1 ⟨rfl, hb1⟩)
    try simp only [Exit.inBlock, Exit.then]
    exact grown_fin rfl rfl rfl rfl rfl ⟨rfl, hb1⟩
  rw [hz] at h1
  by_cases hk : singK2 p t u = 0
  rotate_left
  · have hF : errG V p t u = singK2 p t u := by unfold errG; rw [if_pos hz, if_neg hk]
    have hG : grownV V p t u = (0, 0, false) := by unfold grownV; rw [hF, if_neg hk]
    rw [hF, hG]
    dsimp only
    clear hF hG
    generalize singK2 p t u = f at *
    replace h1 := Lib.hid h1
    replace hsi := Lib.hid hsi
    clear h hs hz
    go_enter Tryz.func18, Tryz.ntmps18
    go_wp2_with (first
      | (go_at_call 15; (with_reducible refine Calls.mono h1.out ?_); rintro e w1 ⟨rfl, hb1⟩)
      | (go_at_call 52; (with_reducible refine Calls.mono (hsi.out _ _ _ _ (by exact Blk.new' rfl)) ?_); rintro e w2 ⟨rfl, hb2⟩; have hE2 := (hb1.alloc _).trans hb2))
    try simp only [Exit.inBlock, Exit.then]
    exact grown_fin rfl rfl rfl rfl rfl ⟨rfl, hE2⟩
  rw [hk] at hsi
  by_cases hut : u < t
  · have hF : errG V p t u = 1 := by unfold errG; rw [if_pos hz, if_pos hk, if_pos hut]
    have hG : grownV V p t u = (0, 0, false) := by unfold grownV; rw [hF, if_neg (by decide)]
    rw [hF, hG]
    dsimp only
    clear hF hG hk
    replace h1 := Lib.hid h1
    replace hsi := Lib.hid hsi
    clear h hs hz
    go_enter Tryz.func18, Tryz.ntmps18
    go_wp2_with (first
      | (go_at_call 15; (with_reducible refine Calls.mono h1.out ?_); rintro e w1 ⟨rfl, hb1⟩)
      | (go_at_call 52; (with_reducible refine Calls.mono (hsi.out _ _ _ _ (by exact Blk.new' rfl)) ?_); rintro e w2 ⟨rfl, hb2⟩; have hE2 := (hb1.alloc _).trans hb2))
    try simp only [Exit.inBlock, Exit.then]
    exact grown_fin rfl rfl rfl rfl rfl ⟨rfl, hE2⟩
  have hF : errG V p t u = 0 := by unfold errG; rw [if_pos hz, if_pos hk, if_neg hut]
  have hG : grownV V p t u = if (isW V p t && isW V p u) = true then ((rgW V p t).1 - (rgW V p u).1, (rgW V p u).2 - (rgW V p t).2, true) else (0, 0, false) := by unfold grownV; rw [hF, if_pos rfl]
  rw [hF]
  have hra := fun x (hu : Ext w x) => rangesAt_any vp V.length vc V t x (h.ext hu).1 hs hn
  have hrb := fun x (hu : Ext w x) => rangesAt_any vp V.length vc V u x (h.ext hu).1 hs hn
  obtain ⟨⟨e1, e2⟩, e3, e4⟩ := rg_bounds hs t p
  obtain ⟨⟨e5, e6⟩, e7, e8⟩ := rg_bounds hs u p
  unfold rgW isW at hG
  generalize hrr : (rgS V t V.length p).getD (0, 0) = rr at *
  generalize hbb : (rgS V t V.length p).isSome = bb at *
  generalize hss : (rgS V u V.length p).getD (0, 0) = ss at *
  generalize hcc : (rgS V u V.length p).isSome = cc at *
  obtain ⟨a, b⟩ := rr
  obtain ⟨c, d⟩ := ss
  simp only at e1 e2 e3 e4 e5 e6 e7 e8
  have q1 : IntKind.i64.wrap (a - c) = a - c := IntWalk.i64_in _ (by omega)
  have q2 : IntKind.i64.wrap (d - b) = d - b := IntWalk.i64_in _ (by omega)
  replace hG := Lib.hid hG
  replace h1 := Lib.hid h1
  replace hsi := Lib.hid hsi
  replace hra := Lib.hid hra
  replace hrb := Lib.hid hrb
  replace hrr := Lib.hid hrr
  replace hbb := Lib.hid hbb
  replace hss := Lib.hid hss
  replace hcc := Lib.hid hcc
  clear h hz hs hk hF
  go_enter Tryz.func18, Tryz.ntmps18
  go_upto_region 11 with (first
    | (go_at_call 15; (with_reducible refine Calls.mono h1.out ?_); rintro e w1 ⟨rfl, hb1⟩)
    | (go_at_call 52; (with_reducible refine Calls.mono (hsi.out _ _ _ _ (by exact Blk.new' rfl)) ?_); rintro e w2 ⟨rfl, hb2⟩; have hE2 := (hb1.alloc _).trans hb2; clear hb1 hb2)
    | (go_at_call 53; (with_reducible refine Calls.mono (hra.out _ hE2) ?_); rintro e w3 ⟨gm, rfl, hgm, hO3, hb3⟩; have hE3 := (hE2.trans hb3).alloc (.cells #[.int .i64 a, .int .i64 b] 35); have hlk := hO3.look_ok hp; rw [hrr.out, hbb.out] at hlk; have hlk2 := Lib.hid hlk; have hA3 := Blk.new' (w := w3) (t := 35) (cs := #[.int .i64 a, .int .i64 b]) rfl; clear hE2 hb3 hO3 hgm hra hlk)
    | (refine wpList_lookV rfl _ _ 95 true rfl (.map (some gm)) (.string p) _ rfl rfl hlk2.out ?_; go_loud (unfold rngV; clear hlk2))
    | (go_at_call 53; (with_reducible refine Calls.mono (hrb.out _ hE3) ?_); rintro e w4 ⟨gn, rfl, hgn, hO4, hb4⟩; have hE4 := (hE3.trans hb4).alloc (.cells #[.int .i64 c, .int .i64 d] 35); have hlk := hO4.look_ok hp; rw [hss.out, hcc.out] at hlk; have hlk4 := Lib.hid hlk; have hA4 := (hA3.ext hb4).alloc (.cells #[.int .i64 c, .int .i64 d] 35); have hC4 := Blk.new' (w := w4) (t := 35) (cs := #[.int .i64 c, .int .i64 d]) rfl; clear hE3 hb4 hO4 hgn hrb hlk hA3)
    | (refine wpList_lookV rfl _ _ 95 true rfl (.map (some gn)) (.string p) _ rfl rfl hlk4.out ?_; go_loud (unfold rngV; clear hlk4)))
  cases bb
  · go_wp2
    try simp only [Exit.inBlock, Exit.then]
    exact grown_fin rfl rfl rfl rfl rfl ⟨by rw [hG.out]; rfl, hE4⟩
  cases cc
  · go_wp2
    try simp only [Exit.inBlock, Exit.then]
    exact grown_fin rfl rfl rfl rfl rfl ⟨by rw [hG.out]; rfl, hE4⟩
  go_upto_region 13 with fail
  generalize w4.alloc (.cells #[.int .i64 c, .int .i64 d] 35) = W9 at *
  have lA := hA4.lt
  have lC := hC4.lt
  have x0 := hA4.cell 0
  have x1 := hA4.cell 1
  have x2 := hC4.cell 0
  have x3 := hC4.cell 1
  refine wp_region_facts [] [([], false, false), ([0], false, false), ([], false, false), ([2], false, false), ([0, 1, 2, 3], false, false), ([], false, false), ([5], false, false), ([], false, false), ([7], false, false), ([5, 6, 7, 8], false, false), ([0, 1, 2, 3, 4], false, false), ([5, 6, 7, 8, 9], false, false), ([], false, false), ([], false, false)] (Ext) Ext (fun _ => True) (by kernel_rfl) (by kernel_rfl) Ext.refl (fun _ _ _ => Ext.trans) (fun _ _ h => h) (fun _ _ h => h.size) (fun _ _ h _ => h) trivial ?_
  dsimp only [List.length_cons, List.length_nil, List.drop_succ_cons, List.drop_zero, List.drop_nil]
  refine fac_quiet 0 rfl rfl rfl (fun _ _ h _ => h) rfl rfl ?_
  apply Exists.intro
  refine ⟨fun sv w' hw' hfa => ?_, ?_⟩
  · refine ⟨rfl, ?_⟩
    simp only [putsL]
    change quietTo _ _ _ _ (Sem.run _ (execOp (Act.eval _) _) _)
    try simp only [Act.put, List.setIfInBounds_toArray, List.set_cons_succ, List.set_cons_zero]
    simp [go_sem, quietTo, Ext.refl]
    all_goals first
      | rfl
  refine fac_quiet 1 rfl rfl rfl (fun _ _ h _ => h) rfl rfl ?_
  apply Exists.intro
  refine ⟨fun sv w' hw' hfa => ?_, ?_⟩
  · obtain ⟨f0, -⟩ := hfa
    replace f0 : sv 0 = _ := f0
    try dsimp only at f0
    obtain ⟨hc9, hff, hz9⟩ := ((Ext.refl _).drew.trans hw').walk; have y0 := (hc9 _ 0 lA).trans x0; have y1 := (hc9 _ 1 lA).trans x1; have y2 := (hc9 _ 0 lC).trans x2; have y3 := (hc9 _ 1 lC).trans x3
    refine ⟨rfl, ?_⟩
    simp only [putsL]
    change quietTo _ _ _ _ (Sem.run _ (execOp (Act.eval (Act.put _ (some 56) (sv 0))) _) _)
    try simp only [Act.put, List.setIfInBounds_toArray, List.set_cons_succ, List.set_cons_zero]
    simp [go_sem, quietTo, Ext.refl, ↓IntWalk.iteOmega, f0, y0]
    all_goals try simp (disch := omega) only [IntWalk.i64_in]
    all_goals first
      | rfl
  refine fac_quiet 2 rfl rfl rfl (fun _ _ h _ => h) rfl rfl ?_
  apply Exists.intro
  refine ⟨fun sv w' hw' hfa => ?_, ?_⟩
  · refine ⟨rfl, ?_⟩
    simp only [putsL]
    change quietTo _ _ _ _ (Sem.run _ (execOp (Act.eval _) _) _)
    try simp only [Act.put, List.setIfInBounds_toArray, List.set_cons_succ, List.set_cons_zero]
    simp [go_sem, quietTo, Ext.refl]
    all_goals first
      | rfl
  refine fac_quiet 3 rfl rfl rfl (fun _ _ h _ => h) rfl rfl ?_
  apply Exists.intro
  refine ⟨fun sv w' hw' hfa => ?_, ?_⟩
  · obtain ⟨f2, -⟩ := hfa
    replace f2 : sv 2 = _ := f2
    try dsimp only at f2
    obtain ⟨hc9, hff, hz9⟩ := ((Ext.refl _).drew.trans hw').walk; have y0 := (hc9 _ 0 lA).trans x0; have y1 := (hc9 _ 1 lA).trans x1; have y2 := (hc9 _ 0 lC).trans x2; have y3 := (hc9 _ 1 lC).trans x3
    refine ⟨rfl, ?_⟩
    simp only [putsL]
    change quietTo _ _ _ _ (Sem.run _ (execOp (Act.eval (Act.put _ (some 58) (sv 2))) _) _)
    try simp only [Act.put, List.setIfInBounds_toArray, List.set_cons_succ, List.set_cons_zero]
    simp [go_sem, quietTo, Ext.refl, ↓IntWalk.iteOmega, f2, y2]
    all_goals try simp (disch := omega) only [IntWalk.i64_in]
    all_goals first
      | rfl
  refine fac_quiet 4 rfl rfl rfl (fun _ _ h _ => h) rfl rfl ?_
  apply Exists.intro
  refine ⟨fun sv w' hw' hfa => ?_, ?_⟩
  · obtain ⟨_, f1, _, f3, -⟩ := hfa
    replace f1 : sv 1 = _ := f1
    try dsimp only at f1
    replace f3 : sv 3 = _ := f3
    try dsimp only at f3
    obtain ⟨hc9, hff, hz9⟩ := ((Ext.refl _).drew.trans hw').walk; have y0 := (hc9 _ 0 lA).trans x0; have y1 := (hc9 _ 1 lA).trans x1; have y2 := (hc9 _ 0 lC).trans x2; have y3 := (hc9 _ 1 lC).trans x3
    refine ⟨rfl, ?_⟩
    simp only [putsL]
    change quietTo _ _ _ _ (Sem.run _ (execOp (Act.eval (Act.put (Act.put (Act.put (Act.put _ (some 59) (sv 3)) (some 58) (sv 2)) (some 57) (sv 1)) (some 56) (sv 0))) _) _)
    try simp only [Act.put, List.setIfInBounds_toArray, List.set_cons_succ, List.set_cons_zero]
    simp [go_sem, quietTo, Ext.refl, ↓IntWalk.iteOmega, f1, f3, q1]
    all_goals try simp (disch := omega) only [IntWalk.i64_in]
    all_goals first
      | rfl
  refine fac_quiet 5 rfl rfl rfl (fun _ _ h _ => h) rfl rfl ?_
  apply Exists.intro
  refine ⟨fun sv w' hw' hfa => ?_, ?_⟩
  · refine ⟨rfl, ?_⟩
    simp only [putsL]
    change quietTo _ _ _ _ (Sem.run _ (execOp (Act.eval _) _) _)
    try simp only [Act.put, List.setIfInBounds_toArray, List.set_cons_succ, List.set_cons_zero]
    simp [go_sem, quietTo, Ext.refl]
    all_goals first
      | rfl
  refine fac_quiet 6 rfl rfl rfl (fun _ _ h _ => h) rfl rfl ?_
  apply Exists.intro
  refine ⟨fun sv w' hw' hfa => ?_, ?_⟩
  · obtain ⟨f5, -⟩ := hfa
    replace f5 : sv 5 = _ := f5
    try dsimp only at f5
    obtain ⟨hc9, hff, hz9⟩ := ((Ext.refl _).drew.trans hw').walk; have y0 := (hc9 _ 0 lA).trans x0; have y1 := (hc9 _ 1 lA).trans x1; have y2 := (hc9 _ 0 lC).trans x2; have y3 := (hc9 _ 1 lC).trans x3
    refine ⟨rfl, ?_⟩
    simp only [putsL]
    change quietTo _ _ _ _ (Sem.run _ (execOp (Act.eval (Act.put _ (some 61) (sv 5))) _) _)
    try simp only [Act.put, List.setIfInBounds_toArray, List.set_cons_succ, List.set_cons_zero]
    simp [go_sem, quietTo, Ext.refl, ↓IntWalk.iteOmega, f5, y3]
    all_goals try simp (disch := omega) only [IntWalk.i64_in]
    all_goals first
      | rfl
  refine fac_quiet 7 rfl rfl rfl (fun _ _ h _ => h) rfl rfl ?_
  apply Exists.intro
  refine ⟨fun sv w' hw' hfa => ?_, ?_⟩
  · refine ⟨rfl, ?_⟩
    simp only [putsL]
    change quietTo _ _ _ _ (Sem.run _ (execOp (Act.eval _) _) _)
    try simp only [Act.put, List.setIfInBounds_toArray, List.set_cons_succ, List.set_cons_zero]
    simp [go_sem, quietTo, Ext.refl]
    all_goals first
      | rfl
  refine fac_quiet 8 rfl rfl rfl (fun _ _ h _ => h) rfl rfl ?_
  apply Exists.intro
  refine ⟨fun sv w' hw' hfa => ?_, ?_⟩
  · obtain ⟨f7, -⟩ := hfa
    replace f7 : sv 7 = _ := f7
    try dsimp only at f7
    obtain ⟨hc9, hff, hz9⟩ := ((Ext.refl _).drew.trans hw').walk; have y0 := (hc9 _ 0 lA).trans x0; have y1 := (hc9 _ 1 lA).trans x1; have y2 := (hc9 _ 0 lC).trans x2; have y3 := (hc9 _ 1 lC).trans x3
    refine ⟨rfl, ?_⟩
    simp only [putsL]
    change quietTo _ _ _ _ (Sem.run _ (execOp (Act.eval (Act.put _ (some 63) (sv 7))) _) _)
    try simp only [Act.put, List.setIfInBounds_toArray, List.set_cons_succ, List.set_cons_zero]
    simp [go_sem, quietTo, Ext.refl, ↓IntWalk.iteOmega, f7, y1]
    all_goals try simp (disch := omega) only [IntWalk.i64_in]
    all_goals first
      | rfl
  refine fac_quiet 9 rfl rfl rfl (fun _ _ h _ => h) rfl rfl ?_
  apply Exists.intro
  refine ⟨fun sv w' hw' hfa => ?_, ?_⟩
  · obtain ⟨_, f6, _, f8, -⟩ := hfa
    replace f6 : sv 6 = _ := f6
    try dsimp only at f6
    replace f8 : sv 8 = _ := f8
    try dsimp only at f8
    obtain ⟨hc9, hff, hz9⟩ := ((Ext.refl _).drew.trans hw').walk; have y0 := (hc9 _ 0 lA).trans x0; have y1 := (hc9 _ 1 lA).trans x1; have y2 := (hc9 _ 0 lC).trans x2; have y3 := (hc9 _ 1 lC).trans x3
    refine ⟨rfl, ?_⟩
    simp only [putsL]
    change quietTo _ _ _ _ (Sem.run _ (execOp (Act.eval (Act.put (Act.put (Act.put (Act.put _ (some 64) (sv 8)) (some 63) (sv 7)) (some 62) (sv 6)) (some 61) (sv 5))) _) _)
    try simp only [Act.put, List.setIfInBounds_toArray, List.set_cons_succ, List.set_cons_zero]
    simp [go_sem, quietTo, Ext.refl, ↓IntWalk.iteOmega, f6, f8, q2]
    all_goals try simp (disch := omega) only [IntWalk.i64_in]
    all_goals first
      | rfl
  refine fac_quiet 10 rfl rfl rfl (fun _ _ h _ => h) rfl rfl ?_
  apply Exists.intro
  refine ⟨fun sv w' hw' hfa => ?_, ?_⟩
  · obtain ⟨_, _, _, _, f4, -⟩ := hfa
    replace f4 : sv 4 = _ := f4
    try dsimp only at f4
    refine ⟨rfl, ?_⟩
    simp only [putsL]
    change quietTo _ _ _ _ (Sem.run _ (execOp (Act.eval (Act.put (Act.put (Act.put (Act.put (Act.put _ (some 60) (sv 4)) (some 59) (sv 3)) (some 58) (sv 2)) (some 57) (sv 1)) (some 56) (sv 0))) _) _)
    try simp only [Act.put, List.setIfInBounds_toArray, List.set_cons_succ, List.set_cons_zero]
    simp [go_sem, quietTo, Ext.refl, f4]
    all_goals first
      | rfl
  refine fac_quiet 11 rfl rfl rfl (fun _ _ h _ => h) rfl rfl ?_
  apply Exists.intro
  refine ⟨fun sv w' hw' hfa => ?_, ?_⟩
  · obtain ⟨_, _, _, _, f9, -⟩ := hfa
    replace f9 : sv 9 = _ := f9
    try dsimp only at f9
    refine ⟨rfl, ?_⟩
    simp only [putsL]
    change quietTo _ _ _ _ (Sem.run _ (execOp (Act.eval (Act.put (Act.put (Act.put (Act.put (Act.put _ (some 65) (sv 9)) (some 64) (sv 8)) (some 63) (sv 7)) (some 62) (sv 6)) (some 61) (sv 5))) _) _)
    try simp only [Act.put, List.setIfInBounds_toArray, List.set_cons_succ, List.set_cons_zero]
    simp [go_sem, quietTo, Ext.refl, f9]
    all_goals first
      | rfl
  refine fac_quiet 12 rfl rfl rfl (fun _ _ h _ => h) rfl rfl ?_
  apply Exists.intro
  refine ⟨fun sv w' hw' hfa => ?_, ?_⟩
  · refine ⟨rfl, ?_⟩
    simp only [putsL]
    change quietTo _ _ _ _ (Sem.run _ (execOp (Act.eval _) _) _)
    try simp only [Act.put, List.setIfInBounds_toArray, List.set_cons_succ, List.set_cons_zero]
    simp [go_sem, quietTo, Ext.refl]
    all_goals first
      | rfl
  refine fac_quiet 13 rfl rfl rfl (fun _ _ h _ => h) rfl rfl ?_
  apply Exists.intro
  refine ⟨fun sv w' hw' hfa => ?_, ?_⟩
  · refine ⟨rfl, ?_⟩
    simp only [putsL]
    change quietTo _ _ _ _ (Sem.run _ (execOp (Act.eval _) _) _)
    try simp only [Act.put, List.setIfInBounds_toArray, List.set_cons_succ, List.set_cons_zero]
    simp [go_sem, quietTo, Ext.refl]
    all_goals first
      | rfl
  refine fac_nil fun xq wrq herq hfrq hcrq holdq hapq => ?_
  obtain ⟨f0, f1, f2, f3, f4, f5, f6, f7, f8, f9, f10, f11, f12, f13, -⟩ := hfrq
  replace f0 : xq 0 = _ := f0
  try dsimp only at f0
  replace f1 : xq 1 = _ := f1
  try dsimp only at f1
  replace f2 : xq 2 = _ := f2
  try dsimp only at f2
  replace f3 : xq 3 = _ := f3
  try dsimp only at f3
  replace f4 : xq 4 = _ := f4
  try dsimp only at f4
  replace f5 : xq 5 = _ := f5
  try dsimp only at f5
  replace f6 : xq 6 = _ := f6
  try dsimp only at f6
  replace f7 : xq 7 = _ := f7
  try dsimp only at f7
  replace f8 : xq 8 = _ := f8
  try dsimp only at f8
  replace f9 : xq 9 = _ := f9
  try dsimp only at f9
  replace f10 : xq 10 = _ := f10
  try dsimp only at f10
  replace f11 : xq 11 = _ := f11
  try dsimp only at f11
  replace f12 : xq 12 = _ := f12
  try dsimp only at f12
  replace f13 : xq 13 = _ := f13
  try dsimp only at f13
  change wpList _ _ _ _ (Act.put (Act.put (Act.put (Act.put (Act.put (Act.put (Act.put (Act.put (Act.put (Act.put (Act.put (Act.put (Act.put (Act.put _ (some 56) (xq 0)) (some 57) (xq 1)) (some 58) (xq 2)) (some 59) (xq 3)) (some 60) (xq 4)) (some 61) (xq 5)) (some 62) (xq 6)) (some 63) (xq 7)) (some 64) (xq 8)) (some 65) (xq 9)) (some 8) (xq 10)) (some 9) (xq 11)) (some 10) (xq 12)) (some 11) (xq 13)) _
  simp only [putsL, Nat.reduceAdd, List.drop_succ_cons, List.drop_zero, List.drop_nil, Act.put, List.setIfInBounds_toArray, List.set_cons_succ, List.set_cons_zero]
  try simp only [f0, f1, f2, f3, f4, f5, f6, f7, f8, f9, f10, f11, f12, f13]
  clear f0 f1 f2 f3 f4 f5 f6 f7 f8 f9 f10 f11 f12 f13
  clear holdq hapq
  go_wp2
  try simp only [Exit.inBlock, Exit.then]
  exact grown_fin rfl rfl rfl rfl rfl ⟨by rw [hG.out]; rfl, hE4.trans ((Ext.refl _).drew.trans herq)⟩
end
end Go.Proofs.YtboplnogfjmpnaaGreatDoor
