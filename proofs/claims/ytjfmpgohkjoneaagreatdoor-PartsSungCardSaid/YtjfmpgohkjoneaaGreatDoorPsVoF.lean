/- Right voices and parts, moments and ranges that the stream makes, told exactly. Conditions: sizes. -/
import Derived.Test.YtjfmpgohkjoneaaGreatDoorPsVoE
set_option linter.unusedSimpArgs false
set_option linter.unusedVariables false
namespace Go.Proofs.YtjfmpgohkjoneaaGreatDoor
open Go Go.RowKit

theorem own_lowV {w : World} {base base' k n : Nat} {e : TypeId} {v : Value} {xs : List Value} (h : w.ownsRow base' e k v n xs) (hb : base ≤ base') : w.ownsRow base e k v n xs :=
  ⟨h.1, h.2.imp id fun ⟨g, cap, cur, hv, hg, r⟩ => ⟨g, cap, cur, hv, Nat.le_trans hb hg, r⟩⟩
def smtF (L : Src) (a : Nat) : Int := pkF L (a + 1) [0, 10, 50, 60, 120, 500, pkF L a [-1, 345686400000]]
set_option maxRecDepth 100000 in
theorem sometime_det (s k : Nat) (L : Src) (w : World) (hk : k ≤ 990000) (h : StrL w s L k) :
    Calls Tryz.prog 9 #[.pointer (some ⟨s, 0, none⟩)] w fun e w' => e = .returned (.int .i64 (smtF L k)) ∧ StrL w' s L (k + 2) ∧ ExtS s w w' := by
  have hv : smtF L k = pkF L (k + 1) [0, 10, 50, 60, 120, 500, pkF L k [-1, 345686400000]] := rfl
  replace hv := Lib.hid hv
  go_enter Tryz.func9, Tryz.ntmps9
  go_wp2_with (first
    | (go_at_call 33; have l1 := h.lt; refine (pick_det s k _ _ 2 [-1, 345686400000] L _ (by omega) (by simp) (by simp) (by exact h.ext (Ext.alloc (Ext.refl _) _)) (by exact Nat.ne_of_gt l1) (by exact Blk.new' rfl)).mono ?_; rintro e w2 ⟨rfl, hS2, hE2⟩; have hE2' := ((ExtS.refl s w).alloc _).trans hE2; clear h)
    | (go_at_call 33; have l2 := hS2.lt; refine (pick_det s (k + 1) _ _ 7 [0, 10, 50, 60, 120, 500, pkF L k [-1, 345686400000]] L _ (by omega) (by simp) (by simp) (by exact hS2.ext (Ext.alloc (Ext.refl _) _)) (by exact Nat.ne_of_gt l2) (by exact Blk.new' rfl)).mono ?_; rintro e w3 ⟨rfl, hS3, hE3⟩; have hE3' := (hE2'.alloc _).trans hE3))
  go_ret
  exact ⟨by rw [hv.out]; rfl, hS3, hE3'⟩

def spF (L : Src) (a : Nat) : (Int × Int) × Nat :=
  let lo := pkF L a [42, 48, 50, 60]
  let hi := lo + pkF L (a + 1) [0, 7, 12, 19]
  if flF L (a + 2) 15 then ((pkF L (a + 3) [lo, -1, 90], pkF L (a + 4) [hi, 128]), a + 5) else ((lo, hi), a + 3)
def SpanR (F : (Int × Int) × Nat) (s k : Nat) (L : Src) (w : World) (e : Ending) (w' : World) : Prop :=
  ∃ (lo hi : Int) (k' : Nat), e = .returned (.agg #[.int .i64 lo, .int .i64 hi]) ∧ -1000 ≤ lo ∧ lo ≤ 1000 ∧ -1000 ≤ hi ∧ hi ≤ 1000 ∧ F = ((lo, hi), k') ∧ k' ≤ k + 5 ∧ StrL w' s L k' ∧ ExtS s w w'
set_option maxRecDepth 100000 in
set_option maxHeartbeats 1600000 in
theorem spanOf_det (s k : Nat) (L : Src) (w : World) (hk : k ≤ 990000) (h : StrL w s L k) :
    Calls Tryz.prog 31 #[.pointer (some ⟨s, 0, none⟩)] w (SpanR (spF L k) s k L w) := by
  have l0 := h.lt
  obtain ⟨lo, hlo⟩ : ∃ v, pkF L k [42, 48, 50, 60] = v := ⟨_, rfl⟩
  have blo := pkF_in (L := L) (a := k) (xs := [42, 48, 50, 60]) (lo := 42) (hi := 60) (by simp) (by decide)
  obtain ⟨up, hup⟩ : ∃ v, pkF L (k + 1) [0, 7, 12, 19] = v := ⟨_, rfl⟩
  have bup := pkF_in (L := L) (a := k + 1) (xs := [0, 7, 12, 19]) (lo := 0) (hi := 19) (by simp) (by decide)
  obtain ⟨bb, hbb⟩ : ∃ b, flF L (k + 2) 15 = b := ⟨_, rfl⟩
  rw [hlo] at blo
  rw [hup] at bup
  have hw1 : IntKind.i64.wrap (lo + up) = lo + up := IntWalk.i64_in _ (by omega)
  have hF : spF L k = if bb then ((pkF L (k + 3) [lo, -1, 90], pkF L (k + 4) [lo + up, 128]), k + 5) else ((lo, lo + up), k + 3) := by
    unfold spF; simp only [hlo, hup, hbb]
  replace hF := Lib.hid hF
  have hR0 : Blk (w.alloc (.cells #[.int .i64 0, .int .i64 0] 55)) w.heap.size 55 #[.int .i64 0, .int .i64 0] := Blk.new' rfl
  have hE0 : Ext w (w.alloc (.cells #[.int .i64 0, .int .i64 0] 55)) := (Ext.refl _).alloc _
  have hS0 := h.ext hE0
  have hX0 := (ExtS.refl s w).ext hE0
  clear h hE0
  go_enter Tryz.func31, Tryz.ntmps31
  go_upto_if 16 with (first
    | (go_at_call 33; refine (pick_det s k _ _ 4 [42, 48, 50, 60] L _ (by omega) (by simp) (by simp) (by exact hS0.ext (Ext.alloc (Ext.refl _) _)) (by omega) (by exact Blk.new' (by simp))).mono ?_; rintro e w2 ⟨rfl, hS2, hE2⟩; rw [hlo]; have hX2 := (hX0.alloc _).trans hE2; have hR2 := (hR0.alloc _).extS (by omega) hE2; clear hS0 hX0 hR0 hE2)
    | (go_at_call 33; have l2 := hS2.lt; refine (pick_det s (k + 1) _ _ 4 [0, 7, 12, 19] L _ (by omega) (by simp) (by simp) (by exact hS2.ext (Ext.alloc (Ext.refl _) _)) (by exact Nat.ne_of_gt l2) (by exact Blk.new' rfl)).mono ?_; rintro e w3 ⟨rfl, hS3, hE3⟩; rw [hup]; have hX3 := (hX2.alloc _).trans hE3; have hR3 := (hR2.alloc _).extS (by omega) hE3; clear hS2 hX2 hR2 hE3)
    | (go_at_call 45; refine (flip_det s (k + 2) 15 L _ (by omega) (by omega) (by omega) (by exact hS3.ext (Ext.alloc (Ext.refl _) _))).mono ?_; rintro e w4 ⟨rfl, hS4, hE4⟩; rw [hbb]; have l3 := hS3.lt; have hX4 := (hX3.alloc _).trans hE4; have hR4 := (hR3.alloc _).extS (by omega) hE4; have hB4 := (Blk.new' (w := w3) (t := 55) (cs := #[.int .i64 lo, .int .i64 (lo + up)]) rfl).extS (Nat.ne_of_gt l3) hE4))
  have hwl3 : w.heap.size < w3.heap.size := hR3.lt
  have hgl4 := hB4.lt
  clear hX3 hR3 hE4 hS3
  generalize w3.heap.size = gr at *
  cases bb
  · obtain ⟨y1, -⟩ := hB4.walk
    obtain ⟨z1, zf⟩ := hR4.walk
    have zl := hR4.lt
    have hF1 := ((hR4.set_ 0 (.int .i64 lo)).set_ 1 (.int .i64 (lo + up))).cast (cs' := #[.int .i64 lo, .int .i64 (lo + up)]) (by simp)
    have hres : SpanR (spF L k) s k L w (.returned (.agg #[.int .i64 lo, .int .i64 (lo + up)])) ((w4.setCell ⟨w.heap.size, 0, none⟩ (.int .i64 lo)).setCell ⟨w.heap.size, 1, none⟩ (.int .i64 (lo + up))) := ⟨lo, lo + up, k + 3, rfl, by omega, by omega, by omega, by omega, hF.out, by omega, (hS4.set (p := ⟨w.heap.size, 0, none⟩) l0 _).set (p := ⟨w.heap.size, 1, none⟩) l0 _, (hX4.setCell (p := ⟨w.heap.size, 0, none⟩) (.inr (Nat.le_refl _)) _).setCell (p := ⟨w.heap.size, 1, none⟩) (.inr (Nat.le_refl _)) _⟩
    replace hres := Lib.hid hres
    replace hF1 := Lib.hid hF1
    go_wp2
    go_light
    exact bodyPost_ret (results_cell_row Tryz.results31 _ _ w.heap.size 55 _ (0, 0) _ rfl hF1.out Tryz.underlying55 rfl (by kernel_rfl)) rfl hres.out
  · obtain ⟨z4, hz4⟩ : ∃ v, pkF L (k + 3) [lo, -1, 90] = v := ⟨_, rfl⟩
    have b4 := pkF_in (L := L) (a := k + 3) (xs := [lo, -1, 90]) (lo := -1000) (hi := 1000) (by simp) (by intro y hy; simp at hy; omega)
    rw [hz4] at b4
    obtain ⟨z9, hz9⟩ : ∃ v, pkF L (k + 4) [lo + up, 128] = v := ⟨_, rfl⟩
    have b9 := pkF_in (L := L) (a := k + 4) (xs := [lo + up, 128]) (lo := -1000) (hi := 1000) (by simp) (by intro y hy; simp at hy; omega)
    rw [hz9] at b9
    have hsl : s < w4.drew.heap.size := hS4.lt
    have hS4d : StrL w4.drew s L (k + 3) := hS4.ext (Ext.drew (Ext.refl _))
    have hsg : gr ≠ s := by have := hX4.2.2.2.1; omega
    have bb4 := b4
    have bb9 := b9
    clear b4 b9
    go_upto_region 4 with fail
    refine wp_region_facts [] [([], false, false), ([], false, false), ([1], false, false), ([1, 2], false, true), ([0, 1, 2, 3], true, false), ([], false, false), ([], false, false), ([6], false, false), ([6, 7], false, true), ([5, 6, 7, 8], true, false), ([], false, false)] (ExtS s) Ext (fun w => StrL w s L (k + 3)) (by kernel_rfl) (by kernel_rfl) Ext.refl (fun _ _ _ => ExtS.trans) (fun _ _ h => h.extS) (fun _ _ h => h.2.2.2.1) (fun _ _ h he => h.ext he) hS4d ?_
    dsimp only [List.length_cons, List.length_nil, List.drop_succ_cons, List.drop_zero, List.drop_nil]
    refine fac_quiet 0 rfl rfl rfl (fun _ _ h he => h.ext he) rfl rfl ?_
    apply Exists.intro
    refine ⟨fun sv w' hw' hfa => ?_, ?_⟩
    · refine ⟨rfl, ?_⟩
      simp only [putsL]
      change quietTo _ _ _ _ (Sem.run _ (execOp (Act.eval _) _) _)
      try simp only [Act.put, List.setIfInBounds_toArray, List.set_cons_succ, List.set_cons_zero]
      simp [go_sem, quietTo, Ext.refl]
      all_goals first
        | rfl
    refine fac_quiet 1 rfl rfl rfl (fun _ _ h he => h.ext he) rfl rfl ?_
    apply Exists.intro
    refine ⟨fun sv w' hw' hfa => ?_, ?_⟩
    · refine ⟨rfl, ?_⟩
      simp only [putsL]
      change quietTo _ _ _ _ (Sem.run _ (execOp (Act.eval _) _) _)
      try simp only [Act.put, List.setIfInBounds_toArray, List.set_cons_succ, List.set_cons_zero]
      simp [go_sem, quietTo, Ext.refl]
      all_goals first
        | rfl
    refine fac_quiet 2 rfl rfl rfl (fun _ _ h he => h.ext he) rfl rfl ?_
    apply Exists.intro
    refine ⟨fun sv w' hw' hfa => ?_, ?_⟩
    · obtain ⟨f1, -⟩ := hfa
      replace f1 : sv 1 = _ := f1
      try dsimp only at f1
      obtain ⟨y1, -⟩ := (hB4.drew.extS hsg hw').walk
      refine ⟨rfl, ?_⟩
      simp only [putsL]
      change quietTo _ _ _ _ (Sem.run _ (execOp (Act.eval (Act.put _ (some 18) (sv 1))) _) _)
      try simp only [Act.put, List.setIfInBounds_toArray, List.set_cons_succ, List.set_cons_zero]
      simp [go_sem, quietTo, Ext.refl, ↓IntWalk.iteOmega, f1, y1]
      all_goals try simp (disch := omega) only [IntWalk.i64_in]
      all_goals first
        | rfl
    refine fac_row 3 rfl rfl rfl (fun _ _ h he => h.ext he) (fun _ _ h => h.2.2.2.1) (fun _ _ _ _ _ he hg hb => hb.extS (Nat.ne_of_gt (Nat.lt_of_lt_of_le hsl hg)) he) ?_
    apply Exists.intro
    apply Exists.intro
    apply Exists.intro
    apply Exists.intro
    refine ⟨fun sv w' hw' hfa => ?_, ?_⟩
    · obtain ⟨_, f2, -⟩ := hfa
      replace f2 : sv 2 = _ := f2
      try dsimp only at f2
      refine ⟨rfl, ?_⟩
      simp only [putsL]
      change rowTo _ _ _ _ _ (Sem.run _ (execOp (Act.eval (Act.put (Act.put _ (some 19) (sv 2)) (some 18) (sv 1))) _) _)
      try simp only [Act.put, List.setIfInBounds_toArray, List.set_cons_succ, List.set_cons_zero]
      simp [go_sem, rowTo, Ext.refl, f2]
      all_goals try simp (disch := omega) only [IntWalk.i64_in]
      all_goals first
        | rfl
        | exact ⟨rfl, rfl⟩
        | exact ⟨⟨rfl, rfl⟩, rfl⟩
    refine fac_loud 4 rfl rfl rfl ?_
    refine ⟨(fun y _ => y 4 = .int .i64 z4), (fun w => StrL w s L (k + 4)), fun sv w' hw' hfa hcc => ?_, ?_, ?_, ?_⟩
    · obtain ⟨f0, f1, f2, f3, -⟩ := hfa
      replace f0 : sv 0 = _ := f0
      try dsimp only at f0
      replace f1 : sv 1 = _ := f1
      try dsimp only at f1
      replace f2 : sv 2 = _ := f2
      try dsimp only at f2
      obtain ⟨g3, f3, l3, b3⟩ := f3
      replace f3 : sv 3 = _ := f3
      obtain ⟨p3, q3⟩ := b3.walk
      obtain ⟨y1, -⟩ := (hB4.drew.extS hsg hw').walk
      refine ⟨rfl, ?_⟩
      simp only [putsL]
      change outc _ _ (Sem.run _ (execOp (Act.eval (Act.put (Act.put (Act.put (Act.put _ (some 20) (sv 3)) (some 19) (sv 2)) (some 18) (sv 1)) (some 17) (sv 0))) _) _)
      try simp only [Act.put, List.setIfInBounds_toArray, List.set_cons_succ, List.set_cons_zero]
      simp [go_sem, outc, f0, f3, p3, q3]
      refine (pick_det s (k + 3) _ _ 3 [lo, -1, 90] L _ (by omega) (by simp) (by simp) hcc (by omega) b3).mono ?_
      rintro e w4 ⟨rfl, hS4, hE4⟩
      exact ⟨_, rfl, ⟨hE4, hS4⟩, by rw [← hz4]; rfl⟩
    · intro x w w' h he; exact h
    · exact fun _ _ h he => h.ext he
    refine fac_quiet 5 rfl rfl rfl (fun _ _ h he => h.ext he) rfl rfl ?_
    apply Exists.intro
    refine ⟨fun sv w' hw' hfa => ?_, ?_⟩
    · refine ⟨rfl, ?_⟩
      simp only [putsL]
      change quietTo _ _ _ _ (Sem.run _ (execOp (Act.eval _) _) _)
      try simp only [Act.put, List.setIfInBounds_toArray, List.set_cons_succ, List.set_cons_zero]
      simp [go_sem, quietTo, Ext.refl]
      all_goals first
        | rfl
    refine fac_quiet 6 rfl rfl rfl (fun _ _ h he => h.ext he) rfl rfl ?_
    apply Exists.intro
    refine ⟨fun sv w' hw' hfa => ?_, ?_⟩
    · refine ⟨rfl, ?_⟩
      simp only [putsL]
      change quietTo _ _ _ _ (Sem.run _ (execOp (Act.eval _) _) _)
      try simp only [Act.put, List.setIfInBounds_toArray, List.set_cons_succ, List.set_cons_zero]
      simp [go_sem, quietTo, Ext.refl]
      all_goals first
        | rfl
    refine fac_quiet 7 rfl rfl rfl (fun _ _ h he => h.ext he) rfl rfl ?_
    apply Exists.intro
    refine ⟨fun sv w' hw' hfa => ?_, ?_⟩
    · obtain ⟨f6, -⟩ := hfa
      replace f6 : sv 6 = _ := f6
      try dsimp only at f6
      obtain ⟨y1, -⟩ := (hB4.drew.extS hsg hw').walk
      refine ⟨rfl, ?_⟩
      simp only [putsL]
      change quietTo _ _ _ _ (Sem.run _ (execOp (Act.eval (Act.put _ (some 23) (sv 6))) _) _)
      try simp only [Act.put, List.setIfInBounds_toArray, List.set_cons_succ, List.set_cons_zero]
      simp [go_sem, quietTo, Ext.refl, ↓IntWalk.iteOmega, f6, y1]
      all_goals try simp (disch := omega) only [IntWalk.i64_in]
      all_goals first
        | rfl
    refine fac_row 8 rfl rfl rfl (fun _ _ h he => h.ext he) (fun _ _ h => h.2.2.2.1) (fun _ _ _ _ _ he hg hb => hb.extS (Nat.ne_of_gt (Nat.lt_of_lt_of_le hsl hg)) he) ?_
    apply Exists.intro
    apply Exists.intro
    apply Exists.intro
    apply Exists.intro
    refine ⟨fun sv w' hw' hfa => ?_, ?_⟩
    · obtain ⟨_, f7, -⟩ := hfa
      replace f7 : sv 7 = _ := f7
      try dsimp only at f7
      refine ⟨rfl, ?_⟩
      simp only [putsL]
      change rowTo _ _ _ _ _ (Sem.run _ (execOp (Act.eval (Act.put (Act.put _ (some 24) (sv 7)) (some 23) (sv 6))) _) _)
      try simp only [Act.put, List.setIfInBounds_toArray, List.set_cons_succ, List.set_cons_zero]
      simp [go_sem, rowTo, Ext.refl, f7]
      all_goals try simp (disch := omega) only [IntWalk.i64_in]
      all_goals first
        | rfl
        | exact ⟨rfl, rfl⟩
        | exact ⟨⟨rfl, rfl⟩, rfl⟩
    refine fac_loud 9 rfl rfl rfl ?_
    refine ⟨(fun y _ => y 9 = .int .i64 z9), (fun w => StrL w s L (k + 5)), fun sv w' hw' hfa hcc => ?_, ?_, ?_, ?_⟩
    · obtain ⟨f5, f6, f7, f8, -⟩ := hfa
      replace f5 : sv 5 = _ := f5
      try dsimp only at f5
      replace f6 : sv 6 = _ := f6
      try dsimp only at f6
      replace f7 : sv 7 = _ := f7
      try dsimp only at f7
      obtain ⟨g8, f8, l8, b8⟩ := f8
      replace f8 : sv 8 = _ := f8
      obtain ⟨p8, q8⟩ := b8.walk
      obtain ⟨y1, -⟩ := (hB4.drew.extS hsg hw').walk
      refine ⟨rfl, ?_⟩
      simp only [putsL]
      change outc _ _ (Sem.run _ (execOp (Act.eval (Act.put (Act.put (Act.put (Act.put _ (some 25) (sv 8)) (some 24) (sv 7)) (some 23) (sv 6)) (some 22) (sv 5))) _) _)
      try simp only [Act.put, List.setIfInBounds_toArray, List.set_cons_succ, List.set_cons_zero]
      simp [go_sem, outc, f5, f8, p8, q8]
      refine (pick_det s (k + 4) _ _ 2 [lo + up, 128] L _ (by omega) (by simp) (by simp) hcc (by omega) b8).mono ?_
      rintro e w4 ⟨rfl, hS4, hE4⟩
      exact ⟨_, rfl, ⟨hE4, hS4⟩, by rw [← hz9]; rfl⟩
    · intro x w w' h he; exact h
    · exact fun _ _ h he => h.ext he
    refine fac_quiet 10 rfl rfl rfl (fun _ _ h he => h.ext he) rfl rfl ?_
    apply Exists.intro
    refine ⟨fun sv w' hw' hfa => ?_, ?_⟩
    · refine ⟨rfl, ?_⟩
      simp only [putsL]
      change quietTo _ _ _ _ (Sem.run _ (execOp (Act.eval _) _) _)
      try simp only [Act.put, List.setIfInBounds_toArray, List.set_cons_succ, List.set_cons_zero]
      simp [go_sem, quietTo, Ext.refl]
      all_goals first
        | rfl
    refine fac_nil fun xq wrq herq hfrq hcrq holdq hapq => ?_
    obtain ⟨f0, f1, f2, f3, f4, f5, f6, f7, f8, f9, f10, -⟩ := hfrq
    replace f0 : xq 0 = _ := f0
    try dsimp only at f0
    replace f1 : xq 1 = _ := f1
    try dsimp only at f1
    replace f2 : xq 2 = _ := f2
    try dsimp only at f2
    obtain ⟨g3, f3, l3, b3⟩ := f3
    replace f3 : xq 3 = _ := f3
    obtain ⟨p3, q3⟩ := b3.walk
    replace f4 : xq 4 = _ := f4
    replace f5 : xq 5 = _ := f5
    try dsimp only at f5
    replace f6 : xq 6 = _ := f6
    try dsimp only at f6
    replace f7 : xq 7 = _ := f7
    try dsimp only at f7
    obtain ⟨g8, f8, l8, b8⟩ := f8
    replace f8 : xq 8 = _ := f8
    obtain ⟨p8, q8⟩ := b8.walk
    replace f9 : xq 9 = _ := f9
    replace f10 : xq 10 = _ := f10
    try dsimp only at f10
    change wpList _ _ _ _ (Act.put (Act.put (Act.put (Act.put (Act.put (Act.put (Act.put (Act.put (Act.put (Act.put (Act.put _ (some 17) (xq 0)) (some 18) (xq 1)) (some 19) (xq 2)) (some 20) (xq 3)) (some 21) (xq 4)) (some 22) (xq 5)) (some 23) (xq 6)) (some 24) (xq 7)) (some 25) (xq 8)) (some 26) (xq 9)) (some 27) (xq 10)) _
    simp only [putsL, Nat.reduceAdd, List.drop_succ_cons, List.drop_zero, List.drop_nil, Act.put, List.setIfInBounds_toArray, List.set_cons_succ, List.set_cons_zero]
    try simp only [f0, f1, f2, f3, f4, f5, f6, f7, f8, f9, f10]
    clear f0 f1 f2 f5 f6 f7 f10
    clear holdq hapq
    have hBq := hB4.drew.extS hsg herq
    have hRq := hR4.drew.extS (by omega) herq
    have hEq := (hX4.drew).trans herq
    obtain ⟨y1, y2⟩ := hBq.walk
    have yl := hBq.lt
    have hB5 := ((hBq.set_ 0 (.int .i64 z4)).set_ 1 (.int .i64 z9)).cast (cs' := #[.int .i64 z4, .int .i64 z9]) (by simp)
    have hgw : w.heap.size ≤ gr := by omega
    have hE5 := (hEq.setCell (p := ⟨gr, 0, none⟩) (.inr hgw) (.int .i64 z4)).setCell (p := ⟨gr, 1, none⟩) (.inr hgw) (.int .i64 z9)
    have hsgr : s < gr := by omega
    have hS5 := (hcrq.set (p := ⟨gr, 0, none⟩) hsgr (.int .i64 z4)).set (p := ⟨gr, 1, none⟩) hsgr (.int .i64 z9)
    have hR5 := (hRq.far (p := ⟨gr, 0, none⟩) (by simp only; omega) (.int .i64 z4)).far (p := ⟨gr, 1, none⟩) (by simp only; omega) (.int .i64 z9)
    go_upto_region 5 with fail
    clear y1 y2 hBq hRq hEq hcrq
    generalize (wrq.setCell ⟨gr, 0, none⟩ (.int .i64 z4)).setCell ⟨gr, 1, none⟩ (.int .i64 z9) = W5 at *
    obtain ⟨y1, -⟩ := hB5.walk
    have yl5 := hB5.lt
    obtain ⟨z1, zf⟩ := hR5.walk
    have zl := hR5.lt
    have hF1 := ((hR5.set_ 0 (.int .i64 z4)).set_ 1 (.int .i64 z9)).cast (cs' := #[.int .i64 z4, .int .i64 z9]) (by simp)
    have hres : SpanR (spF L k) s k L w (.returned (.agg #[.int .i64 z4, .int .i64 z9])) ((W5.setCell ⟨w.heap.size, 0, none⟩ (.int .i64 z4)).setCell ⟨w.heap.size, 1, none⟩ (.int .i64 z9)) := ⟨z4, z9, k + 5, rfl, bb4.1, bb4.2, bb9.1, bb9.2, by rw [hF.out, if_pos rfl, hz4, hz9], by omega, (hS5.set (p := ⟨w.heap.size, 0, none⟩) l0 _).set (p := ⟨w.heap.size, 1, none⟩) l0 _, (hE5.setCell (p := ⟨w.heap.size, 0, none⟩) (.inr (Nat.le_refl _)) _).setCell (p := ⟨w.heap.size, 1, none⟩) (.inr (Nat.le_refl _)) _⟩
    replace hres := Lib.hid hres
    replace hF1 := Lib.hid hF1
    go_wp2
    go_light
    exact bodyPost_ret (results_cell_row Tryz.results31 _ _ w.heap.size 55 _ (0, 0) _ rfl hF1.out Tryz.underlying55 rfl (by kernel_rfl)) rfl hres.out
end Go.Proofs.YtjfmpgohkjoneaaGreatDoor
