/- What is wrong with rules of lending, and with a library's lists: the walks. Conditions: sizes. -/
import Derived.Test.YtkjhbofbcmelgaaGreatDoorEzLbB
set_option linter.unusedSimpArgs false
set_option linter.unusedVariables false
namespace Go.Proofs.YtkjhbofbcmelgaaGreatDoor
open Go Go.RowKit
def lendVal (r : LendR) : Value := .agg #[.int .i64 r.days, .int .i64 r.late, .int .i64 r.most, .int .i64 r.each]
theorem lendF_or (r : LendR) : lendF r = orF [spanF r.days 1 1000, spanF r.late 0 10000, spanF r.most 0 10000, spanF r.each 1 300] := by
 unfold lendF spanF
 cases inB r.days 1 1000 <;> cases inB r.late 0 10000 <;> cases inB r.most 0 10000 <;> cases inB r.each 1 300 <;> rfl
set_option maxRecDepth 100000 in
set_option maxHeartbeats 1600000 in
theorem checkLending_any (r : LendR) (w : World) : Calls Tryz.prog 117 #[lendVal r] w fun e w' => e = .returned (.int .i64 (lendF r)) ∧ Ext w w' := by
 unfold lendVal lendF
 have h1 := fun u => sOut_is (show outB r.days 1 1000 = !inB r.days 1 1000 from outB_inB _ _ _) u
 have h2 := fun u => sOut_is (show outB r.late 0 10000 = !inB r.late 0 10000 from outB_inB _ _ _) u
 have h3 := fun u => sOut_is (show outB r.most 0 10000 = !inB r.most 0 10000 from outB_inB _ _ _) u
 have h4 := fun u => sOut_is (show outB r.each 1 300 = !inB r.each 1 300 from outB_inB _ _ _) u
 have hE : Ext w (w.alloc (.cells #[.int .i64 r.days, .int .i64 r.late, .int .i64 r.most, .int .i64 r.each] 28)) := (Ext.refl w).alloc _
 generalize inB r.days 1 1000 = b1 at *
 generalize inB r.late 0 10000 = b2 at *
 generalize inB r.most 0 10000 = b3 at *
 generalize inB r.each 1 300 = b4 at *
 cases b1
 all_goals cases b2
 all_goals cases b3
 all_goals cases b4
 all_goals
  simp only [Bool.not_true, Bool.not_false] at h1 h2 h3 h4
  replace h1 := Lib.hid h1; replace h2 := Lib.hid h2; replace h3 := Lib.hid h3; replace h4 := Lib.hid h4; replace hE := Lib.hid hE
  go_enter Tryz.func117, Tryz.ntmps117
  go_wp2_with (first
   | (go_at_call 159; (with_reducible refine Calls.mono (h1.out _) ?_); rintro e w1 ⟨rfl, rfl⟩)
   | (go_at_call 159; (with_reducible refine Calls.mono (h2.out _) ?_); rintro e w1 ⟨rfl, rfl⟩)
   | (go_at_call 159; (with_reducible refine Calls.mono (h3.out _) ?_); rintro e w1 ⟨rfl, rfl⟩)
   | (go_at_call 159; (with_reducible refine Calls.mono (h4.out _) ?_); rintro e w1 ⟨rfl, rfl⟩))
  go_ret
  exact ⟨rfl, hE.out⟩
set_option maxRecDepth 100000 in
set_option maxHeartbeats 3200000 in
theorem lendFault_any (r : LendR) (w : World) : Calls Tryz.prog 58 #[lendVal r] w fun e w' => e = .returned (.int .i64 (lendF r)) ∧ Ext w w' := by
 rw [lendF_or]
 unfold lendVal
 have h1 : ∀ u, Calls Tryz.prog 75 #[.int .i64 r.days, .int .i64 1, .int .i64 1000] u fun e w' => e = .returned (.int .i64 (spanF r.days 1 1000)) ∧ Ext u w' := fun u => (spanFault_any r.days 1 1000 u).mono fun _ _ h => by obtain ⟨e1, rfl⟩ := h; exact ⟨e1, Ext.refl _⟩
 have h2 : ∀ u, Calls Tryz.prog 75 #[.int .i64 r.late, .int .i64 0, .int .i64 10000] u fun e w' => e = .returned (.int .i64 (spanF r.late 0 10000)) ∧ Ext u w' := fun u => (spanFault_any r.late 0 10000 u).mono fun _ _ h => by obtain ⟨e1, rfl⟩ := h; exact ⟨e1, Ext.refl _⟩
 have h3 : ∀ u, Calls Tryz.prog 75 #[.int .i64 r.most, .int .i64 0, .int .i64 10000] u fun e w' => e = .returned (.int .i64 (spanF r.most 0 10000)) ∧ Ext u w' := fun u => (spanFault_any r.most 0 10000 u).mono fun _ _ h => by obtain ⟨e1, rfl⟩ := h; exact ⟨e1, Ext.refl _⟩
 have h4 : ∀ u, Calls Tryz.prog 75 #[.int .i64 r.each, .int .i64 1, .int .i64 300] u fun e w' => e = .returned (.int .i64 (spanF r.each 1 300)) ∧ Ext u w' := fun u => (spanFault_any r.each 1 300 u).mono fun _ _ h => by obtain ⟨e1, rfl⟩ := h; exact ⟨e1, Ext.refl _⟩
 generalize spanF r.days 1 1000 = s1 at *
 generalize spanF r.late 0 10000 = s2 at *
 generalize spanF r.most 0 10000 = s3 at *
 generalize spanF r.each 1 300 = s4 at *
 have hX := Blk.new' (w := w) (g := w.heap.size) (t := 28) (cs := #[.int .i64 r.days, .int .i64 r.late, .int .i64 r.most, .int .i64 r.each]) rfl
 have hE : Ext w (w.alloc (.cells #[.int .i64 r.days, .int .i64 r.late, .int .i64 r.most, .int .i64 r.each] 28)) := (Ext.refl w).alloc _
 replace h1 := Lib.hid h1; replace h2 := Lib.hid h2; replace h3 := Lib.hid h3; replace h4 := Lib.hid h4; replace hE := Lib.hid hE
 have lx := hX.lt
 have x0 := hX.cell 0
 have x1 := hX.cell 1
 have x2 := hX.cell 2
 have x3 := hX.cell 3
 go_enter Tryz.func58, Tryz.ntmps58
 go_upto_region 1 with fail
 generalize w.heap.size = gx at *
 generalize (w.alloc (.cells #[.int .i64 r.days, .int .i64 r.late, .int .i64 r.most, .int .i64 r.each] 28)) = W1 at *
 clear hX
 refine wp_region_facts [] [([],false,false),([0],false,false),([0,1],false,false),([],false,false),([3],false,false),([3,4],false,false),([],false,false),([6],false,false),([6,7],false,false),([],false,false),([9],false,false),([9,10],false,false),([0,1,2,3,4,5,6,7,8,9,10,11], false, true),([0,1,2,3,4,5,6,7,8,9,10,11,12],false,false),([0,1,2,3,4,5,6,7,8,9,10,11,12,13],false,false)] (Ext) Ext (fun _ => True) (by kernel_rfl) (by kernel_rfl) Ext.refl (fun _ _ _ => Ext.trans) (fun _ _ h => h) (fun _ _ h => h.size) (fun _ _ h _ => h) trivial ?_
 dsimp only [List.length_cons, List.length_nil, List.drop_succ_cons, List.drop_zero, List.drop_nil]
 refine fq 0 rfl rfl rfl cK rfl rfl ?_; apply Exists.intro; constructor
 ·intro sv w' hw' hfa
  refine ⟨rfl, ?_⟩; simp only [putsL]; change qT _; simp only [qT, Act.put, sIA, sCS, sCZ]; simp [go_sem, quietTo, Ext.refl]; all_goals rfl
 refine fq 1 rfl rfl rfl cK rfl rfl ?_; apply Exists.intro; constructor
 ·rintro sv w' hw' ⟨(f0 : sv 0 = _), -⟩; (try dsimp only at f0)
  have hk9 := (Ext.refl W1).drew.trans hw'; obtain ⟨hc, -, -⟩ := hk9.walk; have y0 := (hc gx 0 lx).trans x0
  refine ⟨rfl, ?_⟩; simp only [putsL]; change qT (pT _ 3 (sv 0)); simp only [qT, pT, Act.put, sIA, sCS, sCZ]; simp [go_sem, quietTo, Ext.refl, ↓IntWalk.iteOmega, f0, y0]; (all_goals try simp (disch := omega) only [IntWalk.i64_in]); all_goals rfl
 refine fq 2 rfl rfl rfl cK rfl rfl ?_; apply Exists.intro; constructor
 ·rintro sv w' hw' ⟨(f0 : sv 0 = _), (f1 : sv 1 = _), -⟩; (try dsimp only at f0 f1)
  refine ⟨rfl, ?_⟩; simp only [putsL]; change qT (pT (pT _ 4 (sv 1)) 3 (sv 0)); simp only [qT, pT, Act.put, sIA, sCS, sCZ]; simp [go_sem, quietTo, Ext.refl, ↓IntWalk.iteOmega, f1]; (all_goals try simp (disch := omega) only [IntWalk.i64_in]); all_goals first | rfl | (exact h1.out _)
 refine fq 3 rfl rfl rfl cK rfl rfl ?_; apply Exists.intro; constructor
 ·intro sv w' hw' hfa
  refine ⟨rfl, ?_⟩; simp only [putsL]; change qT _; simp only [qT, Act.put, sIA, sCS, sCZ]; simp [go_sem, quietTo, Ext.refl]; all_goals rfl
 refine fq 4 rfl rfl rfl cK rfl rfl ?_; apply Exists.intro; constructor
 ·rintro sv w' hw' ⟨(f3 : sv 3 = _), -⟩; (try dsimp only at f3)
  have hk9 := (Ext.refl W1).drew.trans hw'; obtain ⟨hc, -, -⟩ := hk9.walk; have y1 := (hc gx 1 lx).trans x1
  refine ⟨rfl, ?_⟩; simp only [putsL]; change qT (pT _ 6 (sv 3)); simp only [qT, pT, Act.put, sIA, sCS, sCZ]; simp [go_sem, quietTo, Ext.refl, ↓IntWalk.iteOmega, f3, y1]; (all_goals try simp (disch := omega) only [IntWalk.i64_in]); all_goals rfl
 refine fq 5 rfl rfl rfl cK rfl rfl ?_; apply Exists.intro; constructor
 ·rintro sv w' hw' ⟨(f3 : sv 3 = _), (f4 : sv 4 = _), -⟩; (try dsimp only at f3 f4)
  refine ⟨rfl, ?_⟩; simp only [putsL]; change qT (pT (pT _ 7 (sv 4)) 6 (sv 3)); simp only [qT, pT, Act.put, sIA, sCS, sCZ]; simp [go_sem, quietTo, Ext.refl, ↓IntWalk.iteOmega, f4]; (all_goals try simp (disch := omega) only [IntWalk.i64_in]); all_goals first | rfl | (exact h2.out _)
 refine fq 6 rfl rfl rfl cK rfl rfl ?_; apply Exists.intro; constructor
 ·intro sv w' hw' hfa
  refine ⟨rfl, ?_⟩; simp only [putsL]; change qT _; simp only [qT, Act.put, sIA, sCS, sCZ]; simp [go_sem, quietTo, Ext.refl]; all_goals rfl
 refine fq 7 rfl rfl rfl cK rfl rfl ?_; apply Exists.intro; constructor
 ·rintro sv w' hw' ⟨(f6 : sv 6 = _), -⟩; (try dsimp only at f6)
  have hk9 := (Ext.refl W1).drew.trans hw'; obtain ⟨hc, -, -⟩ := hk9.walk; have y2 := (hc gx 2 lx).trans x2
  refine ⟨rfl, ?_⟩; simp only [putsL]; change qT (pT _ 9 (sv 6)); simp only [qT, pT, Act.put, sIA, sCS, sCZ]; simp [go_sem, quietTo, Ext.refl, ↓IntWalk.iteOmega, f6, y2]; (all_goals try simp (disch := omega) only [IntWalk.i64_in]); all_goals rfl
 refine fq 8 rfl rfl rfl cK rfl rfl ?_; apply Exists.intro; constructor
 ·rintro sv w' hw' ⟨(f6 : sv 6 = _), (f7 : sv 7 = _), -⟩; (try dsimp only at f6 f7)
  refine ⟨rfl, ?_⟩; simp only [putsL]; change qT (pT (pT _ 10 (sv 7)) 9 (sv 6)); simp only [qT, pT, Act.put, sIA, sCS, sCZ]; simp [go_sem, quietTo, Ext.refl, ↓IntWalk.iteOmega, f7]; (all_goals try simp (disch := omega) only [IntWalk.i64_in]); all_goals first | rfl | (exact h3.out _)
 refine fq 9 rfl rfl rfl cK rfl rfl ?_; apply Exists.intro; constructor
 ·intro sv w' hw' hfa
  refine ⟨rfl, ?_⟩; simp only [putsL]; change qT _; simp only [qT, Act.put, sIA, sCS, sCZ]; simp [go_sem, quietTo, Ext.refl]; all_goals rfl
 refine fq 10 rfl rfl rfl cK rfl rfl ?_; apply Exists.intro; constructor
 ·rintro sv w' hw' ⟨(f9 : sv 9 = _), -⟩; (try dsimp only at f9)
  have hk9 := (Ext.refl W1).drew.trans hw'; obtain ⟨hc, -, -⟩ := hk9.walk; have y3 := (hc gx 3 lx).trans x3
  refine ⟨rfl, ?_⟩; simp only [putsL]; change qT (pT _ 12 (sv 9)); simp only [qT, pT, Act.put, sIA, sCS, sCZ]; simp [go_sem, quietTo, Ext.refl, ↓IntWalk.iteOmega, f9, y3]; (all_goals try simp (disch := omega) only [IntWalk.i64_in]); all_goals rfl
 refine fq 11 rfl rfl rfl cK rfl rfl ?_; apply Exists.intro; constructor
 ·rintro sv w' hw' ⟨(f9 : sv 9 = _), (f10 : sv 10 = _), -⟩; (try dsimp only at f9 f10)
  refine ⟨rfl, ?_⟩; simp only [putsL]; change qT (pT (pT _ 13 (sv 10)) 12 (sv 9)); simp only [qT, pT, Act.put, sIA, sCS, sCZ]; simp [go_sem, quietTo, Ext.refl, ↓IntWalk.iteOmega, f10]; (all_goals try simp (disch := omega) only [IntWalk.i64_in]); all_goals first | rfl | (exact h4.out _)
 refine fac_row 12 rfl rfl rfl cK (fun _ _ h => h.size) (fun _ _ _ _ _ he _ hb => hb.ext he) ?_
 apply Exists.intro
 apply Exists.intro
 apply Exists.intro
 apply Exists.intro
 refine ⟨fun sv w' hw' hfa => ?_, ?_⟩
 ·obtain ⟨_, _, (f2 : sv 2 = _), _, _, (f5 : sv 5 = _), _, _, (f8 : sv 8 = _), _, _, (f11 : sv 11 = _), -⟩ := hfa; (try dsimp only at f2 f5 f8 f11)
  refine ⟨rfl, ?_⟩; simp only [putsL]; change rowTo _ _ _ _ _ (Sem.run _ (execOp (Act.eval (pT (pT (pT (pT (pT (pT (pT (pT (pT (pT (pT (pT _ 14 (sv 11)) 13 (sv 10)) 12 (sv 9)) 11 (sv 8)) 10 (sv 7)) 9 (sv 6)) 8 (sv 5)) 7 (sv 4)) 6 (sv 3)) 5 (sv 2)) 4 (sv 1)) 3 (sv 0))) _) _); (try simp only [pT, Act.put, sIA, sCS, sCZ]); simp [go_sem, rowTo, Ext.refl, f2, f5, f8, f11]; (all_goals try simp (disch := omega) only [IntWalk.i64_in]); all_goals first | rfl | exact ⟨rfl, rfl⟩ | exact ⟨⟨rfl, rfl⟩, rfl⟩
 refine fq 13 rfl rfl rfl cK rfl rfl ?_; apply Exists.intro; constructor
 ·rintro sv w' hw' ⟨(f0 : sv 0 = _), (f1 : sv 1 = _), (f2 : sv 2 = _), (f3 : sv 3 = _), (f4 : sv 4 = _), (f5 : sv 5 = _), (f6 : sv 6 = _), (f7 : sv 7 = _), (f8 : sv 8 = _), (f9 : sv 9 = _), (f10 : sv 10 = _), (f11 : sv 11 = _), f12, -⟩; (try dsimp only at f0 f1 f2 f3 f4 f5 f6 f7 f8 f9 f10 f11)
  obtain ⟨g12, f12, l12, b12⟩ := f12; replace f12 : sv 12 = _ := f12; obtain ⟨p12, q12⟩ := b12.walk
  refine ⟨rfl, ?_⟩; simp only [putsL]; change qT (pT (pT (pT (pT (pT (pT (pT (pT (pT (pT (pT (pT (pT _ 15 (sv 12)) 14 (sv 11)) 13 (sv 10)) 12 (sv 9)) 11 (sv 8)) 10 (sv 7)) 9 (sv 6)) 8 (sv 5)) 7 (sv 4)) 6 (sv 3)) 5 (sv 2)) 4 (sv 1)) 3 (sv 0)); simp only [qT, pT, Act.put, sIA, sCS, sCZ]; simp [go_sem, quietTo, Ext.refl, ↓IntWalk.iteOmega, f12, p12, q12]; (all_goals try simp (disch := omega) only [IntWalk.i64_in]); all_goals first | rfl | (exact (orErr_blk _ _ 4 [s1, s2, s3, s4] _ (by simp) b12).mono fun _ _ h => ⟨h.1, h.2 ▸ Ext.refl _⟩)
 refine fq 14 rfl rfl rfl cK rfl rfl ?_; apply Exists.intro; constructor
 ·rintro sv w' hw' ⟨_, _, _, _, _, _, _, _, _, _, _, _, _, (f13 : sv 13 = _), -⟩; (try dsimp only at f13)
  refine ⟨rfl, ?_⟩; simp only [putsL]; change qT (pT (pT (pT (pT (pT (pT (pT (pT (pT (pT (pT (pT (pT (pT _ 16 (sv 13)) 15 (sv 12)) 14 (sv 11)) 13 (sv 10)) 12 (sv 9)) 11 (sv 8)) 10 (sv 7)) 9 (sv 6)) 8 (sv 5)) 7 (sv 4)) 6 (sv 3)) 5 (sv 2)) 4 (sv 1)) 3 (sv 0)); simp only [qT, pT, Act.put, sIA, sCS, sCZ]; simp [go_sem, quietTo, Ext.refl, f13]; all_goals rfl
 refine fac_nil fun xa wra hera hfra hcra holda hapa => ?_
 obtain ⟨(f0 : xa 0 = _), (f1 : xa 1 = _), (f2 : xa 2 = _), (f3 : xa 3 = _), (f4 : xa 4 = _), (f5 : xa 5 = _), (f6 : xa 6 = _), (f7 : xa 7 = _), (f8 : xa 8 = _), (f9 : xa 9 = _), (f10 : xa 10 = _), (f11 : xa 11 = _), f12, (f13 : xa 13 = _), (f14 : xa 14 = _), -⟩ := hfra; (try dsimp only at f0 f1 f2 f3 f4 f5 f6 f7 f8 f9 f10 f11 f13 f14)
 obtain ⟨g12, f12, l12, b12⟩ := f12; replace f12 : xa 12 = _ := f12; obtain ⟨p12, q12⟩ := b12.walk
 change wpList _ _ _ _ (pT (pT (pT (pT (pT (pT (pT (pT (pT (pT (pT (pT (pT (pT (pT _ 3 (xa 0)) 4 (xa 1)) 5 (xa 2)) 6 (xa 3)) 7 (xa 4)) 8 (xa 5)) 9 (xa 6)) 10 (xa 7)) 11 (xa 8)) 12 (xa 9)) 13 (xa 10)) 14 (xa 11)) 15 (xa 12)) 16 (xa 13)) 2 (xa 14)) _
 simp only [putsL, Nat.reduceAdd, List.drop_succ_cons, List.drop_zero, List.drop_nil, pT, Act.put, sIA, sCS, sCZ]
 try simp only [f0, f1, f2, f3, f4, f5, f6, f7, f8, f9, f10, f11, f12, f13, f14]
 clear f0 f1 f2 f3 f4 f5 f6 f7 f8 f9 f10 f11 f13 f14; clear holda hapa
 go_wp2
 go_ret
 exact ⟨rfl, (hE.out.drew).trans hera⟩
/-- What is wrong with a library's lists. -/
def libF (T : List TitleV) (r : LendR) (d : List SlipV) : Int := orF [titlesF T, lendF r, slipsF d]
theorem libF_zero {T : List TitleV} {r : LendR} {d : List SlipV} (h : libF T r d = 0) : titlesF T = 0 ∧ lendF r = 0 ∧ slipsF d = 0 := by
 unfold libF orF orF orF orF at h
 by_cases h1 : titlesF T = 0
 ·rw [if_pos h1] at h
  by_cases h2 : lendF r = 0
  ·rw [if_pos h2] at h
   by_cases h3 : slipsF d = 0
   ·exact ⟨h1, h2, h3⟩
   ·rw [if_neg h3] at h; exact absurd h h3
  ·rw [if_neg h2] at h; exact absurd h h2
 ·rw [if_neg h1] at h; exact absurd h h1
set_option maxRecDepth 100000 in
set_option maxHeartbeats 3200000 in
theorem libFault_any (tp : Option Addr) (tn tc : Nat) (T : List TitleV) (r : LendR) (dp : Option Addr) (dn dc : Nat) (d : List SlipV) (w : World) (hT : Sl 3 titleC w tp tn T) (hTs : ∀ x ∈ T, x.Small) (hTn : tn ≤ 1000) (hD : Sl 7 slipC w dp dn d) (hDs : ∀ x ∈ d, x.Small) (hDn : dn ≤ 1000) :
 Calls Tryz.prog 11 #[.slice tp tn tc, lendVal r, .slice dp dn dc] w fun e w' => e = .returned (.int .i64 (libF T r d)) ∧ Ext w w' := by
 have hE : Ext w (w.alloc (.cells #[.int .i64 r.days, .int .i64 r.late, .int .i64 r.most, .int .i64 r.each] 28)) := (Ext.refl w).alloc _
 have hX := Blk.new' (w := w) (g := w.heap.size) (t := 28) (cs := #[.int .i64 r.days, .int .i64 r.late, .int .i64 r.most, .int .i64 r.each]) rfl
 have h1 := fun u (hu : Ext w u) => faultTitles_any tp tn tc T u (hT.ext hu) hTs hTn
 have h2 := fun u => lendFault_any r u
 have h3 := fun u (hu : Ext w u) => slipsFault_any dp dn dc d u (hD.ext hu) hDs (by omega)
 unfold libF
 unfold lendVal at h2 ⊢
 generalize titlesF T = s1 at *
 generalize lendF r = s2 at *
 generalize slipsF d = s3 at *
 clear hT hD; replace h1 := Lib.hid h1; replace h2 := Lib.hid h2; replace h3 := Lib.hid h3; replace hE := Lib.hid hE
 have lx := hX.lt
 have x0 := hX.cell 0
 have x1 := hX.cell 1
 have x2 := hX.cell 2
 have x3 := hX.cell 3
 go_enter Tryz.func11, Tryz.ntmps11
 go_upto_region 1 with fail
 generalize w.heap.size = gx at *
 generalize (w.alloc (.cells #[.int .i64 r.days, .int .i64 r.late, .int .i64 r.most, .int .i64 r.each] 28)) = W1 at *
 clear hX
 refine wp_region_facts [] [([],false,false),([0],false,false),([],false,false),([2],false,false),([],false,false),([4],false,false),([0,1,2,3,4,5], false, true),([0,1,2,3,4,5,6],false,false),([0,1,2,3,4,5,6,7],false,false)] (Ext) Ext (fun _ => True) (by kernel_rfl) (by kernel_rfl) Ext.refl (fun _ _ _ => Ext.trans) (fun _ _ h => h) (fun _ _ h => h.size) (fun _ _ h _ => h) trivial ?_
 dsimp only [List.length_cons, List.length_nil, List.drop_succ_cons, List.drop_zero, List.drop_nil]
 refine fq 0 rfl rfl rfl cK rfl rfl ?_; apply Exists.intro; constructor
 ·intro sv w' hw' hfa
  refine ⟨rfl, ?_⟩; simp only [putsL]; change qT _; simp only [qT, Act.put, sIA, sCS, sCZ]; simp [go_sem, quietTo, Ext.refl]; all_goals rfl
 refine fq 1 rfl rfl rfl cK rfl rfl ?_; apply Exists.intro; constructor
 ·rintro sv w' hw' ⟨(f0 : sv 0 = _), -⟩; (try dsimp only at f0)
  have hk9 := (Ext.refl W1).drew.trans hw'
  refine ⟨rfl, ?_⟩; simp only [putsL]; change qT (pT _ 7 (sv 0)); simp only [qT, pT, Act.put, sIA, sCS, sCZ]; simp [go_sem, quietTo, Ext.refl, ↓IntWalk.iteOmega, f0]; (all_goals try simp (disch := omega) only [IntWalk.i64_in]); all_goals first | rfl | (exact h1.out _ (hE.out.trans hk9))
 refine fq 2 rfl rfl rfl cK rfl rfl ?_; apply Exists.intro; constructor
 ·intro sv w' hw' hfa
  have hk9 := (Ext.refl W1).drew.trans hw'; obtain ⟨hc, -, -⟩ := hk9.walk; have y0 := (hc gx 0 lx).trans x0; have y1 := (hc gx 1 lx).trans x1; have y2 := (hc gx 2 lx).trans x2; have y3 := (hc gx 3 lx).trans x3
  refine ⟨rfl, ?_⟩; simp only [putsL]; change qT _; simp only [qT, Act.put, sIA, sCS, sCZ]; simp [go_sem, quietTo, Ext.refl, ↓IntWalk.iteOmega, y0, y1, y2, y3]; (all_goals try simp (disch := omega) only [IntWalk.i64_in]); all_goals rfl
 refine fq 3 rfl rfl rfl cK rfl rfl ?_; apply Exists.intro; constructor
 ·rintro sv w' hw' ⟨(f2 : sv 2 = _), -⟩; (try dsimp only at f2)
  refine ⟨rfl, ?_⟩; simp only [putsL]; change qT (pT _ 9 (sv 2)); simp only [qT, pT, Act.put, sIA, sCS, sCZ]; simp [go_sem, quietTo, Ext.refl, ↓IntWalk.iteOmega, f2]; (all_goals try simp (disch := omega) only [IntWalk.i64_in]); all_goals first | rfl | (exact h2.out _)
 refine fq 4 rfl rfl rfl cK rfl rfl ?_; apply Exists.intro; constructor
 ·intro sv w' hw' hfa
  refine ⟨rfl, ?_⟩; simp only [putsL]; change qT _; simp only [qT, Act.put, sIA, sCS, sCZ]; simp [go_sem, quietTo, Ext.refl]; all_goals rfl
 refine fq 5 rfl rfl rfl cK rfl rfl ?_; apply Exists.intro; constructor
 ·rintro sv w' hw' ⟨(f4 : sv 4 = _), -⟩; (try dsimp only at f4)
  have hk9 := (Ext.refl W1).drew.trans hw'
  refine ⟨rfl, ?_⟩; simp only [putsL]; change qT (pT _ 11 (sv 4)); simp only [qT, pT, Act.put, sIA, sCS, sCZ]; simp [go_sem, quietTo, Ext.refl, ↓IntWalk.iteOmega, f4]; (all_goals try simp (disch := omega) only [IntWalk.i64_in]); all_goals first | rfl | (exact h3.out _ (hE.out.trans hk9))
 refine fac_row 6 rfl rfl rfl cK (fun _ _ h => h.size) (fun _ _ _ _ _ he _ hb => hb.ext he) ?_
 apply Exists.intro
 apply Exists.intro
 apply Exists.intro
 apply Exists.intro
 refine ⟨fun sv w' hw' hfa => ?_, ?_⟩
 ·obtain ⟨_, (f1 : sv 1 = _), _, (f3 : sv 3 = _), _, (f5 : sv 5 = _), -⟩ := hfa; (try dsimp only at f1 f3 f5)
  refine ⟨rfl, ?_⟩; simp only [putsL]; change rowTo _ _ _ _ _ (Sem.run _ (execOp (Act.eval (pT (pT (pT (pT (pT (pT _ 12 (sv 5)) 11 (sv 4)) 10 (sv 3)) 9 (sv 2)) 8 (sv 1)) 7 (sv 0))) _) _); (try simp only [pT, Act.put, sIA, sCS, sCZ]); simp [go_sem, rowTo, Ext.refl, f1, f3, f5]; (all_goals try simp (disch := omega) only [IntWalk.i64_in]); all_goals first | rfl | exact ⟨rfl, rfl⟩ | exact ⟨⟨rfl, rfl⟩, rfl⟩
 refine fq 7 rfl rfl rfl cK rfl rfl ?_; apply Exists.intro; constructor
 ·rintro sv w' hw' ⟨(f0 : sv 0 = _), (f1 : sv 1 = _), (f2 : sv 2 = _), (f3 : sv 3 = _), (f4 : sv 4 = _), (f5 : sv 5 = _), f6, -⟩; (try dsimp only at f0 f1 f2 f3 f4 f5)
  obtain ⟨g6, f6, l6, b6⟩ := f6; replace f6 : sv 6 = _ := f6; obtain ⟨p6, q6⟩ := b6.walk
  refine ⟨rfl, ?_⟩; simp only [putsL]; change qT (pT (pT (pT (pT (pT (pT (pT _ 13 (sv 6)) 12 (sv 5)) 11 (sv 4)) 10 (sv 3)) 9 (sv 2)) 8 (sv 1)) 7 (sv 0)); simp only [qT, pT, Act.put, sIA, sCS, sCZ]; simp [go_sem, quietTo, Ext.refl, ↓IntWalk.iteOmega, f6, p6, q6]; (all_goals try simp (disch := omega) only [IntWalk.i64_in]); all_goals first | rfl | (exact (orErr_blk _ _ 3 [s1, s2, s3] _ (by simp) b6).mono fun _ _ h => ⟨h.1, h.2 ▸ Ext.refl _⟩)
 refine fq 8 rfl rfl rfl cK rfl rfl ?_; apply Exists.intro; constructor
 ·rintro sv w' hw' ⟨_, _, _, _, _, _, _, (f7 : sv 7 = _), -⟩; (try dsimp only at f7)
  refine ⟨rfl, ?_⟩; simp only [putsL]; change qT (pT (pT (pT (pT (pT (pT (pT (pT _ 14 (sv 7)) 13 (sv 6)) 12 (sv 5)) 11 (sv 4)) 10 (sv 3)) 9 (sv 2)) 8 (sv 1)) 7 (sv 0)); simp only [qT, pT, Act.put, sIA, sCS, sCZ]; simp [go_sem, quietTo, Ext.refl, f7]; all_goals rfl
 refine fac_nil fun xa wra hera hfra hcra holda hapa => ?_
 obtain ⟨(f0 : xa 0 = _), (f1 : xa 1 = _), (f2 : xa 2 = _), (f3 : xa 3 = _), (f4 : xa 4 = _), (f5 : xa 5 = _), f6, (f7 : xa 7 = _), (f8 : xa 8 = _), -⟩ := hfra; (try dsimp only at f0 f1 f2 f3 f4 f5 f7 f8)
 obtain ⟨g6, f6, l6, b6⟩ := f6; replace f6 : xa 6 = _ := f6; obtain ⟨p6, q6⟩ := b6.walk
 change wpList _ _ _ _ (pT (pT (pT (pT (pT (pT (pT (pT (pT _ 7 (xa 0)) 8 (xa 1)) 9 (xa 2)) 10 (xa 3)) 11 (xa 4)) 12 (xa 5)) 13 (xa 6)) 14 (xa 7)) 6 (xa 8)) _
 simp only [putsL, Nat.reduceAdd, List.drop_succ_cons, List.drop_zero, List.drop_nil, pT, Act.put, sIA, sCS, sCZ]
 try simp only [f0, f1, f2, f3, f4, f5, f6, f7, f8]
 clear f0 f1 f2 f3 f4 f5 f7 f8; clear holda hapa
 go_wp2
 go_ret
 exact ⟨rfl, (hE.out.drew).trans hera⟩
set_option maxRecDepth 100000 in
set_option maxHeartbeats 3200000 in
theorem listsFault_any (tp : Option Addr) (tn tc : Nat) (T : List TitleV) (r : LendR) (dp : Option Addr) (dn dc : Nat) (d : List SlipV) (w : World) (hT : Sl 3 titleC w tp tn T) (hTs : ∀ x ∈ T, x.Small) (hTn : tn ≤ 1000) (hD : Sl 7 slipC w dp dn d) (hDs : ∀ x ∈ d, x.Small) (hDn : dn ≤ 1000) :
 Calls Tryz.prog 60 #[.slice tp tn tc, lendVal r, .slice dp dn dc] w fun e w' => e = .returned (.int .i64 (libF T r d)) ∧ Ext w w' := by
 have hE : Ext w (w.alloc (.cells #[.int .i64 r.days, .int .i64 r.late, .int .i64 r.most, .int .i64 r.each] 28)) := (Ext.refl w).alloc _
 have hX := Blk.new' (w := w) (g := w.heap.size) (t := 28) (cs := #[.int .i64 r.days, .int .i64 r.late, .int .i64 r.most, .int .i64 r.each]) rfl
 have h1 := fun u (hu : Ext w u) => checkTitles_any tp tn tc T u (hT.ext hu) hTs hTn
 have h2 := fun u => checkLending_any r u
 have h3 := fun u (hu : Ext w u) => checkSlips_any dp dn dc d u (hD.ext hu) hDs (by omega)
 have hF : libF T r d = if titlesF T = 0 then (if lendF r = 0 then (if slipsF d = 0 then 0 else slipsF d) else lendF r) else titlesF T := rfl
 rw [hF]
 unfold lendVal at h2 ⊢
 generalize titlesF T = s1 at *
 generalize lendF r = s2 at *
 generalize slipsF d = s3 at *
 clear hT hD hF; replace h1 := Lib.hid h1; replace h2 := Lib.hid h2; replace h3 := Lib.hid h3; replace hE := Lib.hid hE
 have lx := hX.lt
 have x0 := hX.cell 0
 have x1 := hX.cell 1
 have x2 := hX.cell 2
 have x3 := hX.cell 3
 by_cases e1 : s1 = 0
 ·subst e1
  rw [if_pos rfl]
  by_cases e2 : s2 = 0
  ·subst e2
   rw [if_pos rfl]
   have e3 : (if s3 = 0 then 0 else s3) = s3 := by split <;> simp_all
   rw [e3]
   clear e3
   go_enter Tryz.func60, Tryz.ntmps60
   go_wp2_with (first
    | (go_at_call 116; (with_reducible refine Calls.mono (h1.out _ hE.out) ?_); rintro e w1 ⟨rfl, hb1⟩; have v0 := (hb1.walk.1 _ _ lx).trans x0; have v1 := (hb1.walk.1 _ _ lx).trans x1; have v2 := (hb1.walk.1 _ _ lx).trans x2; have v3 := (hb1.walk.1 _ _ lx).trans x3)
    | (go_at_call 117; (with_reducible refine Calls.mono (h2.out _) ?_); rintro e w2 ⟨rfl, hb2⟩)
    | (go_at_call 118; (with_reducible refine Calls.mono (h3.out _ ((hE.out.trans hb1).trans hb2)) ?_); rintro e w3 ⟨rfl, hb3⟩))
   go_ret
   exact ⟨rfl, ((hE.out.trans hb1).trans hb2).trans hb3⟩
  ·rw [if_neg e2]
   go_enter Tryz.func60, Tryz.ntmps60
   go_wp2_with (first
    | (go_at_call 116; (with_reducible refine Calls.mono (h1.out _ hE.out) ?_); rintro e w1 ⟨rfl, hb1⟩; have v0 := (hb1.walk.1 _ _ lx).trans x0; have v1 := (hb1.walk.1 _ _ lx).trans x1; have v2 := (hb1.walk.1 _ _ lx).trans x2; have v3 := (hb1.walk.1 _ _ lx).trans x3)
    | (go_at_call 117; (with_reducible refine Calls.mono (h2.out _) ?_); rintro e w2 ⟨rfl, hb2⟩))
   go_ret
   exact ⟨rfl, (hE.out.trans hb1).trans hb2⟩
 ·rw [if_neg e1]
  go_enter Tryz.func60, Tryz.ntmps60
  go_wp2_with (go_at_call 116; (with_reducible refine Calls.mono (h1.out _ hE.out) ?_); rintro e w1 ⟨rfl, hb1⟩)
  go_ret
  exact ⟨rfl, hE.out.trans hb1⟩
end Go.Proofs.YtkjhbofbcmelgaaGreatDoor
