/- The law PartsSung. Conditions: as the theorem says. -/
import Derived.Test.YtjfmpgohkjoneaaGreatDoorPsVoP
set_option linter.unusedSimpArgs false
set_option linter.unusedVariables false
namespace Go.Proofs.YtjfmpgohkjoneaaGreatDoor
open Go Go.RowKit

theorem whoR_len {V : List VoiceV} {t : Int} {r : Int × Int} {M : List AbleV} (h : WhoR V t r M) : M.length ≤ V.length := by
  rw [h.1.length_eq]
  exact Nat.le_trans (ableL_len _ _ _) (singers_len _ _)
set_option maxRecDepth 100000 in
set_option maxHeartbeats 25600000 in
theorem lawPS_any (w : World) (p : Option Addr) (n c : Nat) (h : Lst w w.heap.size p n) :
    Calls Tryz.prog 6 #[.slice p n c] w fun e w' => e = .returned (.bool true) ∧ Ext w w' := by
  obtain ⟨xs, rfl, hL⟩ := lst_list h
  obtain ⟨L, hLd⟩ : ∃ L : Src, L = ⟨xs, w.heap.size⟩ := ⟨_, rfl⟩
  have hE0 : Ext w (w.alloc (.cells #[.slice p xs.length c, .int .i64 0] 25)) := (Ext.refl w).alloc _
  have hS0 : StrL (w.alloc (.cells #[.slice p xs.length c, .int .i64 0] 25)) w.heap.size L 0 := by
    subst hLd
    exact ⟨Nat.le_refl _, p, c, Blk.new' rfl, hL.low fun j hj => hE0.block j hj⟩
  have hvo := voiceRows_det w.heap.size 0 5 L _ (by omega) (by omega) hS0
  replace hvo := Lib.hid hvo
  clear h hL hLd hS0
  go_enter Tryz.func6, Tryz.ntmps6
  go_upto_region 3 with (first
    | (go_at_call 7; (with_reducible refine Calls.mono hvo.out ?_); rintro e w1 ⟨vp, n1, vc, V, k1, rfl, hV10, hoV, hVl, hVs, hF1, hk1, hS1, hE1⟩)
    | (go_at_call 8; (with_reducible refine Calls.mono (partList_det w.heap.size k1 L _ (by omega) hS1) ?_); rintro e w2 ⟨pp, n2, pc, P, k2, rfl, hP3, hoP, hPl, hPs, hF2, hk2, hS2, hE2⟩)
    | (go_at_call 31; (with_reducible refine Calls.mono (spanOf_det w.heap.size k2 L _ (by omega) hS2) ?_); rintro e w3 ⟨va, vb, k3, rfl, a1, a2, a3, a4, hF3, hk3, hS3, hE3⟩; clear hS2)
    | (go_at_call 31; go_loud ((with_reducible refine Calls.mono (spanOf_det w.heap.size k3 L _ (by omega) hS3) ?_); rintro e w4 ⟨ra, rb, k4, rfl, b1, b2, b3, b4, hF4, hk4, hS4, hE4⟩)))
  subst hVl
  subst hPl
  have hz0 : w.heap.size + 1 ≤ (w.alloc (.cells #[.slice p xs.length c, .int .i64 0] 25)).heap.size := by simp
  have hoV4 := own_extS hE4 (by omega) (own_extS hE3 (by omega) (own_extS hE2 (by omega) hoV))
  have hl1 := hS1.lt
  have hoP4 := own_extS hE4 (by omega) (own_extS hE3 (by omega) hoP)
  have hX4 := ExtS.back (ExtS.back (ExtS.back (ExtS.back hE0 (Nat.le_refl _) hE1) (Nat.le_refl _) hE2) (Nat.le_refl _) hE3) (Nat.le_refl _) hE4
  clear hvo hoV hoP hE1 hE2 hE3 hE4 hE0 hF1 hF2 hF3 hF4
  obtain ⟨vp', vc', e9, hV4⟩ := slc_of_own voiC_len hoV4 (by decide) (by omega)
  cases e9
  obtain ⟨pp', pc', e9, hP4⟩ := slc_of_own partC_len hoP4 (by decide) (by omega)
  cases e9
  have hvf : ∀ a, vp = some a → a.block ≠ w.heap.size := fun a ha e => by subst ha; have := (hoV4.lt a.block rfl).1; omega
  have hpf : ∀ a, pp = some a → a.block ≠ w.heap.size := fun a ha e => by subst ha; have := (hoP4.lt a.block rfl).1; omega
  have hEa : Ext w4 ((w4.alloc (.cells #[.int .i64 va, .int .i64 vb] 55)).alloc (.cells #[.int .i64 ra, .int .i64 rb] 55)) := ((Ext.refl _).alloc _).alloc _
  have hB6 : Blk ((w4.alloc (.cells #[.int .i64 va, .int .i64 vb] 55)).alloc (.cells #[.int .i64 ra, .int .i64 rb] 55)) w4.heap.size 55 #[.int .i64 va, .int .i64 vb] := (Blk.new' rfl).alloc _
  have hB7 : Blk ((w4.alloc (.cells #[.int .i64 va, .int .i64 vb] 55)).alloc (.cells #[.int .i64 ra, .int .i64 rb] 55)) (w4.heap.size + 1) 55 #[.int .i64 ra, .int .i64 rb] := Blk.new' (by simp)
  have hS5 := hS4.ext hEa
  have hX5 := hX4.trans hEa
  have hV5 := hV4.ext hEa
  have hP5 := hP4.ext hEa
  have hgs := hS4.lt
  clear hoV4 hoP4 hX4 hV4 hP4 hEa hS4 hz0 hl1 hS1
  generalize (w4.alloc (.cells #[.int .i64 va, .int .i64 vb] 55)).alloc (.cells #[.int .i64 ra, .int .i64 rb] 55) = W at *
  generalize w4.heap.size = g6 at *
  have hM0 : VpM W vp vc V pp pc P := ⟨hV5, hP5, hVs, fun x hx => (hPs x hx).1, by omega, by omega⟩
  clear hV5 hP5 hVs hPs
  replace hM0 := Lib.hid hM0
  replace hB6 := Lib.hid hB6
  replace hB7 := Lib.hid hB7
  go_upto_region 4 with (first
    | (go_at_call 32; refine (somes_det w.heap.size k4 _ _ 4 [⟨#[97, 110, 110]⟩, ⟨#[98, 101, 97]⟩, ⟨#[122, 122]⟩, ⟨#[]⟩] L _ (by omega) (by simp) (by simp) (by exact hS5.ext (Ext.alloc (Ext.refl _) _)) (by exact Nat.ne_of_gt hS5.lt) (by exact Blk.new' rfl)).mono ?_; rintro e w6 ⟨rfl, hS6, hE6⟩)
    | (go_at_call 9; (with_reducible refine Calls.mono (sometime_det w.heap.size (k4 + 1) L _ (by omega) hS6) ?_); rintro e w7 ⟨rfl, hS7, hE7⟩)
    | (go_at_call 33; refine (pick_det w.heap.size (k4 + 1 + 2) _ _ 6 [0, 1, -5, 12, 70, 128] L _ (by omega) (by simp) (by simp) (by exact hS7.ext (Ext.alloc (Ext.refl _) _)) (by exact Nat.ne_of_gt hS7.lt) (by exact Blk.new' rfl)).mono ?_; rintro e w8 ⟨rfl, hS8, hE8⟩))
  have hx8 : ExtS w.heap.size W w8 := ((((ExtS.refl w.heap.size W).alloc _).trans hE6).trans hE7 |>.alloc _).trans hE8
  have hM8 : VpM w8 vp vc V pp pc P := ⟨hM0.out.voi.extS hx8 hvf, hM0.out.par.extS hx8 hpf, hM0.out.sV, hM0.out.sP, hM0.out.nV, hM0.out.nP⟩
  have hB68 := hB6.out.extS (Nat.ne_of_gt hgs) hx8
  have hB78 := hB7.out.extS (show g6 + 1 ≠ w.heap.size by omega) hx8
  have hX8 := ExtS.back hX5 (Nat.le_refl _) hx8
  have hwho : (smF L k4 [⟨#[97, 110, 110]⟩, ⟨#[98, 101, 97]⟩, ⟨#[122, 122]⟩, ⟨#[]⟩]).size ≤ 1000 := by
    have h3 := smF_mem (L := L) (a := k4) (xs := [⟨#[97, 110, 110]⟩, ⟨#[98, 101, 97]⟩, ⟨#[122, 122]⟩, ⟨#[]⟩]) (by simp)
    simp only [List.mem_cons, List.not_mem_nil, or_false] at h3
    rcases h3 with e | e | e | e <;> rw [e] <;> decide
  have hby : -1000 ≤ pkF L (k4 + 1 + 2) [0, 1, -5, 12, 70, 128] ∧ pkF L (k4 + 1 + 2) [0, 1, -5, 12, 70, 128] ≤ 1000 := pkF_in (by simp) (by decide)
  clear hE6 hE7 hE8 hx8 hS5 hS6 hS7 hS8 hM0 hB6 hB7 hX5 hvf hpf
  generalize smF L k4 [⟨#[97, 110, 110]⟩, ⟨#[98, 101, 97]⟩, ⟨#[122, 122]⟩, ⟨#[]⟩] = who at *
  generalize pkF L (k4 + 1 + 2) [0, 1, -5, 12, 70, 128] = by_ at *
  generalize smtF L (k4 + 1) = tm at *
  have hbk : ∀ u, Ext w8 u → Ext w u := fun u hu => hX8.trans hu
  clear hX8
  have c1 := fun u (hu : Ext w8 u) => voicesFault_any vp V.length vc V u (hM8.more hu).voi.1 hM8.sV hM8.nV
  have c2 := fun u (hu : Ext w8 u) => faultParts_any pp P.length pc P u (hM8.more hu).par.1 hM8.sP hM8.nP hM8.par.2.1
  have c3 := fun u (hu : Ext w8 u) => checkParts_any pp P.length pc P u (hM8.more hu).par.1 hM8.sP hM8.nP hM8.par.2.1
  have c4 := fun u => comfortC_any va vb ra rb u
  have c5 := fun u => rangeFault_any va vb u
  have c6 := fun u => rangeFault_any ra rb u
  have c7 : ∀ u, Calls Tryz.prog 37 #[.agg #[.int .i64 va, .int .i64 vb], .agg #[.int .i64 ra, .int .i64 rb]] u fun e w' => e = .returned (.int .i64 (comF (va, vb) (ra, rb))) ∧ Ext u w' := fun u => comfortOf_any (va, vb) (ra, rb) u ⟨a1, a2⟩ ⟨a3, a4⟩ ⟨b1, b2⟩ ⟨b3, b4⟩
  have c8 := fun u (hu : Ext w8 u) => whoC_any vp vc V tm ra rb u (hM8.more hu).voi hM8.sV hM8.nV ⟨b1, b2⟩ ⟨b3, b4⟩
  have c9 := fun u => momF_any tm u
  have c10 := fun u (hu : Ext w8 u) => whoOf_any vp vc V tm ra rb u (hM8.more hu).voi hM8.sV (by omega) ⟨b1, b2⟩ ⟨b3, b4⟩
  have c11 := fun u (hu : Ext w8 u) => partsC_any (hM8.more hu) who tm hwho
  have c12 := fun u => keyFault_any who u hwho
  have c13 := fun u (hu : Ext w8 u) => partsFor_any (hM8.more hu) who tm hwho
  have c14 := fun u (hu : Ext w8 u) => shiftC_any pp P.length pc P by_ u (hM8.more hu).par hM8.nP hM8.sP hby
  have c15 := fun (hF : partsF P = 0) u (hu : Ext w8 u) => shiftOfC_any pp P.length pc P by_ u (hM8.more hu).par hM8.nP hM8.sP hby hF
  have hcf : comF (va, vb) (ra, rb) = comfN va vb ra rb := rfl
  have hce := cfE_or va vb ra rb
  have hwe : orF [voicesF V, if rightR ra rb then 0 else 1, if momB tm then 0 else 1] = whoE V tm ra rb := rfl
  have hpe : orF [voicesF V, partsF P, if keyB who then 0 else 5, if momB tm then 0 else 1] = parE V P who tm := rfl
  have hnP := hM8.nP
  have hsh0 : partsF P ≠ 0 → shE P by_ = partsF P := fun h => by unfold shE; rw [if_neg h]
  have hsh1 := fun h : shE P by_ = 0 => (shE_zero.1 h).1
  have hcn : ∀ a b c d, cfN a b c d = if rightR a b && rightR c d then max (comfN a b c d) 0 else 0 := fun _ _ _ _ => rfl
  have hci : ∀ a b c d, cfI a b c d = (rightR a b && rightR c d && decide (0 ≤ comfN a b c d)) := fun _ _ _ _ => rfl
  have hcz : ∀ a b c d, cfE a b c d = if rightR a b && rightR c d then 0 else 1 := fun _ _ _ _ => rfl
  clear hM8 hwho hby
  obtain ⟨fv, hfv⟩ : ∃ f : Int, (if rightR va vb then 0 else 1) = f := ⟨_, rfl⟩
  obtain ⟨fr, hfr⟩ : ∃ f : Int, (if rightR ra rb then 0 else 1) = f := ⟨_, rfl⟩
  obtain ⟨fm, hfm⟩ : ∃ f : Int, (if momB tm then 0 else 1) = f := ⟨_, rfl⟩
  obtain ⟨fk, hfk⟩ : ∃ f : Int, (if keyB who then 0 else 5) = f := ⟨_, rfl⟩
  simp only [hfv] at c5 hce
  simp only [hfr] at c6 hce hwe
  simp only [hfm] at c9 hwe hpe
  simp only [hfk] at c12 hpe
  clear hfv hfr hfm hfk
  replace hbk := Lib.hid hbk
  replace c1 := Lib.hid c1
  replace c2 := Lib.hid c2
  replace c3 := Lib.hid c3
  replace c4 := Lib.hid c4
  replace c5 := Lib.hid c5
  replace c6 := Lib.hid c6
  replace c7 := Lib.hid c7
  replace c8 := Lib.hid c8
  replace c9 := Lib.hid c9
  replace c10 := Lib.hid c10
  replace c11 := Lib.hid c11
  replace c12 := Lib.hid c12
  replace c13 := Lib.hid c13
  replace c14 := Lib.hid c14
  replace c15 := Lib.hid c15
  replace hcf := Lib.hid hcf
  replace hce := Lib.hid hce
  replace hwe := Lib.hid hwe
  replace hpe := Lib.hid hpe
  replace hsh0 := Lib.hid hsh0
  replace hsh1 := Lib.hid hsh1
  replace hcn := Lib.hid hcn
  replace hci := Lib.hid hci
  replace hcz := Lib.hid hcz
  go_upto_region 7 with (first
    | (go_at_call 11; (with_reducible refine Calls.mono (c1.out _ (by exact Ext.refl _)) ?_); rintro e u1 ⟨rfl, hu1⟩)
    | (go_at_call 12; (with_reducible refine Calls.mono (c2.out _ (by exact hu1)) ?_); rintro e u2 ⟨rfl, hu2⟩)
    | (go_at_call 34; (with_reducible refine Calls.mono (c3.out _ (by exact hu1.trans hu2)) ?_); rintro e u3 ⟨rfl, hu3⟩))
  have E3 := (hu1.trans hu2).trans hu3
  have hB6u := hB68.ext E3
  have hB7u := hB78.ext E3
  have hg6 := hB68.lt
  have hg7 := hB78.lt
  obtain ⟨y1, -⟩ := hB6u.walk
  have l1 := hB6u.lt
  obtain ⟨y2, -⟩ := hB7u.walk
  have l2 := hB7u.lt
  clear hu1 hu2 hu3
  go_upto_region 8 with (go_at_call 35; (with_reducible refine Calls.mono (c4.out _) ?_); rintro e u4 ⟨rfl, hu4⟩; have E4 := E3.trans hu4)
  have hB6v := hB68.ext E4
  have hB7v := hB78.ext E4
  clear y1 y2 l1 l2 hB6u hB7u E3 hu4
  refine wp_region_facts [] [([], false, false), ([0], false, false), ([], false, false), ([2], false, false), ([0, 1, 2, 3], false, true), ([0, 1, 2, 3, 4], false, false)] (Ext) Ext (fun _ => True) (by kernel_rfl) (by kernel_rfl) Ext.refl (fun _ _ _ => Ext.trans) (fun _ _ h => h) (fun _ _ h => h.size) (fun _ _ h _ => h) trivial ?_
  dsimp only [List.length_cons, List.length_nil, List.drop_succ_cons, List.drop_zero, List.drop_nil]
  refine fac_quiet 0 rfl rfl rfl (fun _ _ h _ => h) rfl rfl ?_
  apply Exists.intro
  refine ⟨fun sv w' hw' hfa => ?_, ?_⟩
  · have hk9 := (Ext.refl u4).drew.trans hw'; obtain ⟨z1, -⟩ := (hB6v.ext hk9).walk; obtain ⟨z2, -⟩ := (hB7v.ext hk9).walk
    refine ⟨rfl, ?_⟩
    simp only [putsL]
    change quietTo _ _ _ _ (Sem.run _ (execOp (Act.eval _) _) _)
    try simp only [Act.put, List.setIfInBounds_toArray, List.set_cons_succ, List.set_cons_zero]
    simp [go_sem, quietTo, Ext.refl, ↓IntWalk.iteOmega, z1]
    all_goals try simp (disch := omega) only [IntWalk.i64_in]
    all_goals first
      | rfl
  refine fac_quiet 1 rfl rfl rfl (fun _ _ h _ => h) rfl rfl ?_
  apply Exists.intro
  refine ⟨fun sv w' hw' hfa => ?_, ?_⟩
  · obtain ⟨f0, -⟩ := hfa
    replace f0 : sv 0 = _ := f0
    try dsimp only at f0
    have hk9 := (Ext.refl u4).drew.trans hw'; obtain ⟨z1, -⟩ := (hB6v.ext hk9).walk; obtain ⟨z2, -⟩ := (hB7v.ext hk9).walk
    refine ⟨rfl, ?_⟩
    simp only [putsL]
    change quietTo _ _ _ _ (Sem.run _ (execOp (Act.eval (Act.put _ (some 58) (sv 0))) _) _)
    try simp only [Act.put, List.setIfInBounds_toArray, List.set_cons_succ, List.set_cons_zero]
    simp [go_sem, quietTo, Ext.refl, ↓IntWalk.iteOmega, f0]
    all_goals try simp (disch := omega) only [IntWalk.i64_in]
    all_goals first
      | rfl
      | (exact c5.out _)
  refine fac_quiet 2 rfl rfl rfl (fun _ _ h _ => h) rfl rfl ?_
  apply Exists.intro
  refine ⟨fun sv w' hw' hfa => ?_, ?_⟩
  · have hk9 := (Ext.refl u4).drew.trans hw'; obtain ⟨z1, -⟩ := (hB6v.ext hk9).walk; obtain ⟨z2, -⟩ := (hB7v.ext hk9).walk
    refine ⟨rfl, ?_⟩
    simp only [putsL]
    change quietTo _ _ _ _ (Sem.run _ (execOp (Act.eval _) _) _)
    try simp only [Act.put, List.setIfInBounds_toArray, List.set_cons_succ, List.set_cons_zero]
    simp [go_sem, quietTo, Ext.refl, ↓IntWalk.iteOmega, z2]
    all_goals try simp (disch := omega) only [IntWalk.i64_in]
    all_goals first
      | rfl
  refine fac_quiet 3 rfl rfl rfl (fun _ _ h _ => h) rfl rfl ?_
  apply Exists.intro
  refine ⟨fun sv w' hw' hfa => ?_, ?_⟩
  · obtain ⟨f2, -⟩ := hfa
    replace f2 : sv 2 = _ := f2
    try dsimp only at f2
    have hk9 := (Ext.refl u4).drew.trans hw'; obtain ⟨z1, -⟩ := (hB6v.ext hk9).walk; obtain ⟨z2, -⟩ := (hB7v.ext hk9).walk
    refine ⟨rfl, ?_⟩
    simp only [putsL]
    change quietTo _ _ _ _ (Sem.run _ (execOp (Act.eval (Act.put _ (some 60) (sv 2))) _) _)
    try simp only [Act.put, List.setIfInBounds_toArray, List.set_cons_succ, List.set_cons_zero]
    simp [go_sem, quietTo, Ext.refl, ↓IntWalk.iteOmega, f2]
    all_goals try simp (disch := omega) only [IntWalk.i64_in]
    all_goals first
      | rfl
      | (exact c6.out _)
  refine fac_row 4 rfl rfl rfl (fun _ _ h _ => h) (fun _ _ h => h.size) (fun _ _ _ _ _ he _ hb => hb.ext he) ?_
  apply Exists.intro
  apply Exists.intro
  apply Exists.intro
  apply Exists.intro
  refine ⟨fun sv w' hw' hfa => ?_, ?_⟩
  · obtain ⟨_, f1, _, f3, -⟩ := hfa
    replace f1 : sv 1 = _ := f1
    try dsimp only at f1
    replace f3 : sv 3 = _ := f3
    try dsimp only at f3
    refine ⟨rfl, ?_⟩
    simp only [putsL]
    change rowTo _ _ _ _ _ (Sem.run _ (execOp (Act.eval (Act.put (Act.put (Act.put (Act.put _ (some 61) (sv 3)) (some 60) (sv 2)) (some 59) (sv 1)) (some 58) (sv 0))) _) _)
    try simp only [Act.put, List.setIfInBounds_toArray, List.set_cons_succ, List.set_cons_zero]
    simp [go_sem, rowTo, Ext.refl, f1, f3]
    all_goals try simp (disch := omega) only [IntWalk.i64_in]
    all_goals first
      | rfl
      | exact ⟨rfl, rfl⟩
      | exact ⟨⟨rfl, rfl⟩, rfl⟩
  refine fac_quiet 5 rfl rfl rfl (fun _ _ h _ => h) rfl rfl ?_
  apply Exists.intro
  refine ⟨fun sv w' hw' hfa => ?_, ?_⟩
  · obtain ⟨f0, f1, f2, f3, f4, -⟩ := hfa
    replace f0 : sv 0 = _ := f0
    try dsimp only at f0
    replace f1 : sv 1 = _ := f1
    try dsimp only at f1
    replace f2 : sv 2 = _ := f2
    try dsimp only at f2
    replace f3 : sv 3 = _ := f3
    try dsimp only at f3
    obtain ⟨g4, f4, l4, b4⟩ := f4
    replace f4 : sv 4 = _ := f4
    obtain ⟨p4, q4⟩ := b4.walk
    have hk9 := (Ext.refl u4).drew.trans hw'; obtain ⟨z1, -⟩ := (hB6v.ext hk9).walk; obtain ⟨z2, -⟩ := (hB7v.ext hk9).walk
    refine ⟨rfl, ?_⟩
    simp only [putsL]
    change quietTo _ _ _ _ (Sem.run _ (execOp (Act.eval (Act.put (Act.put (Act.put (Act.put (Act.put _ (some 62) (sv 4)) (some 61) (sv 3)) (some 60) (sv 2)) (some 59) (sv 1)) (some 58) (sv 0))) _) _)
    try simp only [Act.put, List.setIfInBounds_toArray, List.set_cons_succ, List.set_cons_zero]
    simp [go_sem, quietTo, Ext.refl, ↓IntWalk.iteOmega, f4, p4, q4]
    all_goals try simp (disch := omega) only [IntWalk.i64_in]
    all_goals first
      | rfl
      | (exact (orErr_blk _ _ 2 [fv, fr] _ (by simp) b4).mono fun _ _ h => ⟨h.1, h.2 ▸ Ext.refl _⟩)
  refine fac_nil fun xq wrq herq hfrq hcrq holdq hapq => ?_
  obtain ⟨f0, f1, f2, f3, f4, f5, -⟩ := hfrq
  replace f0 : xq 0 = _ := f0
  try dsimp only at f0
  replace f1 : xq 1 = _ := f1
  try dsimp only at f1
  replace f2 : xq 2 = _ := f2
  try dsimp only at f2
  replace f3 : xq 3 = _ := f3
  try dsimp only at f3
  obtain ⟨g4, f4, l4, b4⟩ := f4
  replace f4 : xq 4 = _ := f4
  obtain ⟨p4, q4⟩ := b4.walk
  replace f5 : xq 5 = _ := f5
  try dsimp only at f5
  change wpList _ _ _ _ (Act.put (Act.put (Act.put (Act.put (Act.put (Act.put _ (some 58) (xq 0)) (some 59) (xq 1)) (some 60) (xq 2)) (some 61) (xq 3)) (some 62) (xq 4)) (some 63) (xq 5)) _
  simp only [putsL, Nat.reduceAdd, List.drop_succ_cons, List.drop_zero, List.drop_nil, Act.put, List.setIfInBounds_toArray, List.set_cons_succ, List.set_cons_zero]
  try simp only [f0, f1, f2, f3, f4, f5]
  clear f0 f1 f2 f3 f5
  clear holdq hapq
  rw [hce.out]
  have E5 := E4.trans ((Ext.refl u4).drew.trans herq)
  clear herq hB6v hB7v E4
  have hB6w := hB68.ext E5
  have hB7w := hB78.ext E5
  obtain ⟨y1, -⟩ := hB6w.walk
  have l1 := hB6w.lt
  obtain ⟨y2, -⟩ := hB7w.walk
  have l2 := hB7w.lt
  replace E5 := Lib.hid E5
  go_upto_region 9 with fail
  go_cut [13, 14, 15, 16, 97] from 51 (fun v13 v14 v15 v16 v97 w' => v97 = .bool false ∧ Ext w8 w')
  case first =>
    clear c1 c2 c3 c4 c5 c6 c8 c9 c10 c11 c12 c13 c14 c15 hbk hwe hpe hsh0 hsh1
    have hc7 := c7.out
    rw [hcf.out] at hc7
    have k1 := hcn.out va vb ra rb
    have k2 := hci.out va vb ra rb
    have k3 := hcz.out va vb ra rb
    cases hb : (rightR va vb && rightR ra rb)
    · have e1 : cfN va vb ra rb = 0 := by rw [k1, hb]; rfl
      have e2 : cfI va vb ra rb = false := by rw [k2, hb]; rfl
      have e3 : cfE va vb ra rb = 1 := by rw [k3, hb]; rfl
      rw [e1, e2, e3]
      clear k1 k2 k3 e1 e2 e3 hc7 hb
      go_wp2
      go_meet
      exact ⟨rfl, E5.out⟩
    · have e3 : cfE va vb ra rb = 0 := by rw [k3, hb]; rfl
      rw [e3]
      rw [hb] at k1 k2
      rw [if_pos rfl] at k1
      rw [Bool.true_and] at k2
      generalize comfN va vb ra rb = m at *
      by_cases h0 : 0 ≤ m
      · have e1 : cfN va vb ra rb = m := by rw [k1]; omega
        have e2 : cfI va vb ra rb = true := by rw [k2]; exact decide_eq_true h0
        rw [e1, e2]
        replace hc7 := Lib.hid hc7
        clear k1 k2 e1 e2 e3 hb
        obtain ⟨j, rfl⟩ : ∃ j : Nat, m = (j : Int) := ⟨m.toNat, by omega⟩
        clear h0
        go_wp2_with (first
          | (go_at_call 37; (with_reducible refine Calls.mono (hc7.out _) ?_); rintro e x1 ⟨rfl, hx1⟩; have E6 := E5.out.trans hx1; clear y1 y2 l1 l2 hB6w hB7w E5; obtain ⟨y1, -⟩ := (hB68.ext E6).walk; have l1 := (hB68.ext E6).lt; obtain ⟨y2, -⟩ := (hB78.ext E6).walk; have l2 := (hB78.ext E6).lt)
          | (go_at_call 37; (with_reducible refine Calls.mono (hc7.out _) ?_); rintro e x2 ⟨rfl, hx2⟩))
        go_meet
        exact ⟨rfl, E6.trans hx2⟩
      · have e1 : cfN va vb ra rb = 0 := by rw [k1]; omega
        have e2 : cfI va vb ra rb = false := by rw [k2]; exact decide_eq_false h0
        rw [e1, e2]
        replace hc7 := Lib.hid hc7
        clear k1 k2 e1 e2 e3 hb
        have hmx : max 0 m = 0 := by omega
        have hge : decide (0 ≤ m) = false := decide_eq_false h0
        clear h0
        go_wp2_with (first
          | (go_at_call 37; (with_reducible refine Calls.mono (hc7.out _) ?_); rintro e x1 ⟨rfl, hx1⟩; have E6 := E5.out.trans hx1; clear y1 y2 l1 l2 hB6w hB7w E5; obtain ⟨y1, -⟩ := (hB68.ext E6).walk; have l1 := (hB68.ext E6).lt; obtain ⟨y2, -⟩ := (hB78.ext E6).walk; have l2 := (hB78.ext E6).lt)
          | (go_at_call 37; (with_reducible refine Calls.mono (hc7.out _) ?_); rintro e x2 ⟨rfl, hx2⟩))
        go_meet
        exact ⟨rfl, E6.trans hx2⟩
  case rest =>
    clear c4 c5 c7 hcf hce hcn hci hcz y1 y2 l1 l2 hB6w hB7w E5
    obtain ⟨rfl, E7⟩ := hcut
    obtain ⟨y2, -⟩ := (hB78.ext E7).walk
    have l2 := (hB78.ext E7).lt
    go_upto_region 13 with (first
      | (go_at_call 38; go_loud ((with_reducible refine Calls.mono (c8.out _ E7) ?_); rintro e x1 ⟨q1, m1, d1, rfl, hA1, hA2, hx1⟩; have E8 := E7.trans hx1; clear y2 l2; obtain ⟨y2, -⟩ := (hB78.ext E8).walk; have l2 := (hB78.ext E8).lt))
      | (go_at_call 36; go_loud ((with_reducible refine Calls.mono (c6.out _) ?_); rintro e x2 ⟨rfl, hx2⟩; have E9 := E8.trans hx2))
      | (go_at_call 13; go_loud ((with_reducible refine Calls.mono (c9.out _) ?_); rintro e x3 ⟨rfl, hx3⟩; have E10 := E9.trans hx3))
      | (go_at_call 10; go_loud (refine (orErr_blk _ _ _ [voicesF V, fr, fm] _ (by simp) (by exact Blk.new' rfl)).mono ?_; rintro e x4 ⟨rfl, rfl⟩; rw [hwe.out])))
    have E11 := E10.alloc (.cells #[.int .i64 (voicesF V), .int .i64 fr, .int .i64 fm] 31)
    have hA1' : ∀ u, Ext x1 u → whoE V tm ra rb = 0 → ∃ M : List AbleV, M.length = m1 ∧ WhoR V tm (ra, rb) M ∧ Slc 2 ableC u q1 m1 d1 M := fun u hu hz => by
      obtain ⟨M, e1, e2, e3⟩ := hA1 hz
      exact ⟨M, e1, e2, e3.ext hu⟩
    have hxx : Ext x1 (x3.alloc (.cells #[.int .i64 (voicesF V), .int .i64 fr, .int .i64 fm] 31)) := (hx2.trans hx3).alloc _
    have hA := fun hz => hA1' _ hxx hz
    clear hA1 hA1' hxx E7 E8 E9 E10 hx1 hx2 hx3 y2 l2 c8 hwe
    replace hA := Lib.hid hA
    replace hA2 := Lib.hid hA2
    obtain ⟨y2, -⟩ := (hB78.ext E11).walk
    have l2 := (hB78.ext E11).lt
    generalize x3.alloc (.cells #[.int .i64 (voicesF V), .int .i64 fr, .int .i64 fm] 31) = X3 at *
    generalize hwf : whoE V tm ra rb = f1 at *
    replace hwf := Lib.hid hwf
    replace E11 := Lib.hid E11
    go_cut [15, 17, 18, 136] from 98 (fun v15 v17 v18 v136 w' => v136 = .bool false ∧ Ext w8 w')
    case first =>
      by_cases hz : f1 = 0
      · subst hz
        obtain ⟨M, rfl, hM, hSM⟩ := hA.out rfl
        have hle : M.length ≤ 1000 := Nat.le_trans (whoR_len hM) (by omega)
        clear hA hA2
        go_wp2_with (first
          | (go_at_call 40; (with_reducible refine Calls.mono (c10.out _ E11.out) ?_); rintro e z1 ⟨q2, d2, M2, rfl, hM2, hS2, hz1⟩; obtain rfl := whoR_uniq hM hM2; have hS1 := hSM.ext hz1)
          | (go_at_call 39; go_loud ((with_reducible refine Calls.mono (eqAble_any _ _ _ _ _ _ _ hS1 hS2 (by omega)) ?_); rintro e z2 ⟨rfl, hz2⟩)))
        go_meet
        exact ⟨rfl, (E11.out.trans hz1).trans hz2⟩
      · obtain rfl := hA2.out hz
        go_wp2
        go_meet
        exact ⟨rfl, E11.out⟩
    case rest =>
      clear hA hA2 E11 hwf c6 c10 y2 l2
      obtain ⟨rfl, E12⟩ := hcut
      go_upto_region 17 with (first
        | (go_at_call 41; (with_reducible refine Calls.mono (c11.out _ E12) ?_); rintro e x1 ⟨q3, m3, d3, rfl, hA1, hA2, hx1⟩; have E13 := E12.trans hx1)
        | (go_at_call 42; (with_reducible refine Calls.mono (c12.out _) ?_); rintro e x2 ⟨rfl, hx2⟩; have E14 := E13.trans hx2)
        | (go_at_call 13; (with_reducible refine Calls.mono (c9.out _) ?_); rintro e x3 ⟨rfl, hx3⟩; have E15 := E14.trans hx3)
        | (go_at_call 10; (refine (orErr_blk _ _ _ [voicesF V, partsF P, fk, fm] _ (by simp) (by exact Blk.new' rfl)).mono ?_; rintro e x4 ⟨rfl, rfl⟩; rw [hpe.out])))
      have E16 := E15.alloc (.cells #[.int .i64 (voicesF V), .int .i64 (partsF P), .int .i64 fk, .int .i64 fm] 31)
      have hA : parE V P who tm = 0 → m3 = (canOf V P who tm).length ∧ Slc 1 strC (x3.alloc (.cells #[.int .i64 (voicesF V), .int .i64 (partsF P), .int .i64 fk, .int .i64 fm] 31)) q3 m3 d3 (canOf V P who tm) := fun hz => by
        obtain ⟨e1, e2⟩ := hA1 hz
        exact ⟨e1, e2.ext ((hx2.trans hx3).alloc _)⟩
      clear hA1 E12 E13 E14 E15 hx1 hx2 hx3 c9 c11 c12 hpe
      replace hA := Lib.hid hA
      replace hA2 := Lib.hid hA2
      generalize x3.alloc (.cells #[.int .i64 (voicesF V), .int .i64 (partsF P), .int .i64 fk, .int .i64 fm] 31) = X4 at *
      have hcl : (canOf V P who tm).length ≤ 1000 := Nat.le_trans (canL_len _ _ _ _) (by omega)
      generalize parE V P who tm = f2 at *
      generalize canOf V P who tm = CL at *
      replace E16 := Lib.hid E16
      go_cut [15, 19, 20, 178] from 137 (fun v15 v19 v20 v178 w' => v178 = .bool false ∧ Ext w8 w')
      case first =>
        by_cases hz : f2 = 0
        · subst hz
          obtain ⟨rfl, hSM⟩ := hA.out rfl
          clear hA hA2
          go_wp2_with (first
            | (go_at_call 43; (with_reducible refine Calls.mono (c13.out _ E16.out) ?_); rintro e z1 ⟨q4, d4, rfl, hS2, hz1⟩; have hS1 := hSM.ext hz1)
            | (go_at_call 19; go_loud ((with_reducible refine Calls.mono (eqStrV_any _ _ _ _ _ _ _ hS1 hS2 hcl) ?_); rintro e z2 ⟨rfl, hz2⟩)))
          go_meet
          exact ⟨rfl, (E16.out.trans hz1).trans hz2⟩
        · obtain rfl := hA2.out hz
          go_wp2
          go_meet
          exact ⟨rfl, E16.out⟩
      case rest =>
        clear hA hA2 E16 c13 hcl
        obtain ⟨rfl, E17⟩ := hcut
        by_cases hF : partsF P = 0
        · have hc15 := c15.out hF
          rw [hF]
          generalize hsE : shE P by_ = f3 at *
          generalize hLL : (if f3 = 0 then P.map (PartV.up · by_) else []) = LL at *
          have hll : LL.length ≤ 1000 := by
            rw [← hLL]
            split
            · rw [List.length_map]; omega
            · simp
          replace hc15 := Lib.hid hc15
          clear c15 hsh0 hsh1 hLL hsE hF
          go_wp2_with (first
            | (go_at_call 26; (with_reducible refine Calls.mono (c14.out _ E17) ?_); rintro e x1 ⟨q5, m5, d5, rfl, hS1, hx1⟩; have E18 := E17.trans hx1)
            | (go_at_call 44; (with_reducible refine Calls.mono (hc15.out _ E18) ?_); rintro e x2 ⟨q6, m6, d6, rfl, hS2, hx2⟩; obtain rfl : m6 = m5 := hS2.1.1.symm.trans hS1.1.1; have E19 := E18.trans hx2; have hS3 := hS1.ext hx2; have h9 : LL.length = m6 := hS2.1.1; have hle5 : m6 ≤ 100000 := by omega)
            | (go_at_call 27; go_loud ((with_reducible refine Calls.mono (eqPart_any _ _ _ _ _ _ _ hS3 hS2 hle5) ?_); rintro e x3 ⟨rfl, hx3⟩))
            | (go_at_call 17; (with_reducible refine Calls.mono (voiced_any _) ?_); rintro e x4 ⟨rfl, hx4⟩))
          go_ret
          exact ⟨rfl, hbk.out _ ((E19.trans hx3).trans hx4)⟩
        · have hsE := hsh0.out hF
          rw [hsE] at c14
          simp only [if_neg hF] at c14
          generalize partsF P = f3 at *
          clear c15 hsh0 hsh1 hsE
          go_wp2_with (first
            | (go_at_call 26; (with_reducible refine Calls.mono (c14.out _ E17) ?_); rintro e x1 ⟨q5, m5, d5, rfl, hS1, hx1⟩; have E18 := E17.trans hx1; obtain rfl : m5 = 0 := hS1.1.1.symm)
            | (go_at_call 27; go_loud ((with_reducible refine Calls.mono (eqPart_any _ _ _ _ _ _ _ hS1 (Slc.nil _ _ _) (by omega)) ?_); rintro e x3 ⟨rfl, hx3⟩))
            | (go_at_call 17; (with_reducible refine Calls.mono (voiced_any _) ?_); rintro e x4 ⟨rfl, hx4⟩))
          go_ret
          exact ⟨rfl, hbk.out _ ((E18.trans hx3).trans hx4)⟩
end Go.Proofs.YtjfmpgohkjoneaaGreatDoor
