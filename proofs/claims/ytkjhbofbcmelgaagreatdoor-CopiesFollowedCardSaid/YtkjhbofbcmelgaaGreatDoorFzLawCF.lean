/- Copies are followed as specified: the property answers true. Conditions: the argument is a list of ints that lies in memory. (Printed by gen_lawcf.py.) -/
import Derived.Test.YtkjhbofbcmelgaaGreatDoorFzCfE
import Derived.Test.YtkjhbofbcmelgaaGreatDoorFzEqN
import Derived.Test.YtkjhbofbcmelgaaGreatDoorFzJ37
import Derived.Test.YtkjhbofbcmelgaaGreatDoorFzLbS
import Derived.Test.YtkjhbofbcmelgaaGreatDoorFzSlK
import Derived.Test.YtkjhbofbcmelgaaGreatDoorFzLcE
import Derived.Deep.CutBlock
set_option linter.unusedSimpArgs false
set_option linter.unusedVariables false
namespace Go.Proofs.YtkjhbofbcmelgaaGreatDoor
open Go Go.RowKit
theorem sizeAve : ∀ y ∈ ([⟨#[97,118,101]⟩, ⟨#[97,118,101]⟩, ⟨#[103,108,111,114,105,97]⟩, ⟨#[122,122]⟩] : List ByteArray), y.size ≤ 100 := by decide
theorem sizeAnn : ∀ y ∈ ([⟨#[97,110,110]⟩, ⟨#[98,111,98]⟩, ⟨#[99,105,100]⟩, ⟨#[]⟩] : List ByteArray), y.size ≤ 100 := by decide
theorem refA_bad {T : List TitleV} {r : LendR} {d : List SlipV} (h : libF T r d ≠ 0) : refA T r d = [] ∧ refB T r d = [] := by unfold refA refB; rw [if_neg h, if_neg h]; exact ⟨rfl, rfl⟩
theorem refA_len (T : List TitleV) (r : LendR) (d : List SlipV) : (refA T r d).length ≤ d.length ∧ (refB T r d).length = (refA T r d).length := by
 unfold refA refB
 by_cases h : libF T r d = 0
 ·rw [if_pos h, if_pos h]
  exact ⟨ref_len _ _, whyL_len _ _⟩
 ·rw [if_neg h, if_neg h]
  simp
theorem statA_bad {T : List TitleV} {r : LendR} {d : List SlipV} {t : Int} {k : IdV} (h : atF T r d t (copyF T k) ≠ 0) : statA T r d t k = ⟨#[]⟩ ∧ wayA T r d t k = [] := by unfold statA wayA; rw [if_neg h, if_neg h]; exact ⟨rfl, rfl⟩
theorem wayA_le {T : List TitleV} {r : LendR} {d : List SlipV} {t : Int} {k : IdV} (hs : ∀ x ∈ d, x.Small) (hn : d.length ≤ 19) : (wayA T r d t k).length ≤ 1000 := by
 unfold wayA
 by_cases h : atF T r d t (copyF T k) = 0
 ·rw [if_pos h]
  exact wayA_len (atF_zero h).1 hs hn t k
 ·rw [if_neg h]; simp
theorem outA_bad {T : List TitleV} {r : LendR} {d : List SlipV} {t : Int} (h : atF T r d t 0 ≠ 0) : outA T r d t = [] := by unfold outA; rw [if_neg h]
theorem hasA_bad {T : List TitleV} {r : LendR} {d : List SlipV} {t : Int} {s : ByteArray} (h : atF T r d t (keyE s) ≠ 0) : hasA T r d t s = [] := by unfold hasA; rw [if_neg h]
theorem perm_same {A M N : List LentV} (h1 : M.Perm A) (h2 : M.Pairwise entLt) (k1 : N.Perm A) (k2 : N.Pairwise entLt) : M = N := List.Perm.eq_of_pairwise (le := entLt) (fun a b _ _ h k => (sliLt_asym h k).elim) h2 k2 (h1.trans k1.symm)
set_option maxRecDepth 100000 in
set_option maxHeartbeats 25600000 in
theorem lawCF_any (w : World) (p : Option Addr) (n c : Nat) (h : Lst w w.heap.size p n) :
 Calls Tryz.prog 3 #[.slice p n c] w fun e w' => e = .returned (.bool true) ∧ Ext w w' := by
 have hS0 : Str (w.alloc (.cells #[.slice p n c, .int .i64 0] 25)) w.heap.size 0 := ⟨p, n, c, 0, Nat.le_refl _, Blk.new' rfl, h.low fun j hj => Below.heap_alloc w _ j hj⟩
 clear h
 have hback : ∀ u, ExtS w.heap.size (w.alloc (.cells #[.slice p n c, .int .i64 0] 25)) u → Ext w u := fun u hu => ExtS.back ((Ext.refl w).alloc _) (by simp) hu
 have hW0s : (w.alloc (.cells #[.slice p n c, .int .i64 0] 25)).heap.size = w.heap.size + 1 := by simp
 have hlb := library_any w.heap.size 0 _ (by omega) hS0
 replace hback := Lib.hid hback; replace hlb := Lib.hid hlb; replace hW0s := Lib.hid hW0s
 go_enter Tryz.func3, Tryz.ntmps3
 go_upto_region 3 with (go_at_call 6; (with_reducible refine Calls.mono hlb.out ?_); rintro e w1 ⟨p1, n1, ca1, T, r, rfl, hn1, hTo, hTl, hTs, hS1, hE1⟩; unfold lendVal)
 have hS1a := hS1.ext ((Ext.refl w1).alloc (.cells (lendC r) 28))
 have hE1a := hE1.alloc (.cells (lendC r) 28)
 have hT1a := hTo.alloc (.cells (lendC r) 28)
 have hR1a : Blk (w1.alloc (.cells (lendC r) 28)) w1.heap.size 28 (lendC r) := Blk.new' rfl
 have hsl : w.heap.size < w1.heap.size := hS1.lt
 rw [hW0s.out] at hT1a
 unfold lendC at hS1a hE1a hT1a hR1a
 clear hS0 hS1 hE1 hTo hlb
 generalize (w1.alloc (.cells #[.int .i64 r.days, .int .i64 r.late, .int .i64 r.most, .int .i64 r.each] 28)) = W1 at *
 generalize w1.heap.size = g5 at *
 subst hTl
 have hsa := slips_any w.heap.size (0 + 40) W1 (by omega) hS1a
 replace hsa := Lib.hid hsa
 go_upto_region 4 with (first
  | (go_at_call 7; (with_reducible refine Calls.mono hsa.out ?_); rintro e w2 ⟨p2, n2, ca2, V, rfl, hn2, hVo, hVl, hVs, hS2, hE2⟩; subst hVl; obtain ⟨p2', c2', e2', hV2⟩ := slc_of_own slipC_len hVo (by decide) (by omega); cases e2'; have hlt := lendTime_any w.heap.size (0 + 40 + 120) w2 (by omega) hS2; replace hlt := Lib.hid hlt)
  | (go_at_call 8; (with_reducible refine Calls.mono hlt.out ?_); rintro e w3 ⟨t, ht1, ht2, rfl, hS3, hE3⟩)
  | (go_at_call 9; have l5 := hS5.lt; refine (somes_any w.heap.size (0 + 40 + 120 + 2 + 1 + 1) _ _ 4 [⟨#[97,110,110]⟩, ⟨#[98,111,98]⟩, ⟨#[99,105,100]⟩, ⟨#[]⟩] _ (by omega) (by simp) (by simp) (by exact hS5.ext (Ext.alloc (Ext.refl _) _)) (by exact Nat.ne_of_gt l5) (by exact Blk.new' rfl)).mono ?_; rintro e w6 ⟨s, hs, rfl, hS6, hE6⟩)
  | (go_at_call 9; have l3 := hS3.lt; refine (somes_any w.heap.size (0 + 40 + 120 + 2) _ _ 4 [⟨#[97,118,101]⟩, ⟨#[97,118,101]⟩, ⟨#[103,108,111,114,105,97]⟩, ⟨#[122,122]⟩] _ (by omega) (by simp) (by simp) (by exact hS3.ext (Ext.alloc (Ext.refl _) _)) (by exact Nat.ne_of_gt l3) (by exact Blk.new' rfl)).mono ?_; rintro e w4 ⟨pc, hpc, rfl, hS4, hE4⟩)
  | (go_at_call 10; have l4 := hS4.lt; refine (pick_in w.heap.size (0 + 40 + 120 + 2 + 1) _ _ 5 [1,1,2,3,0] 0 3 _ (by omega) (by simp) (by simp) (by exact hS4.ext (Ext.alloc (Ext.refl _) _)) (by exact Nat.ne_of_gt l4) (by exact Blk.new' rfl) (by decide)).mono ?_; rintro e w5 ⟨no, hno1, hno2, rfl, hS5, hE5⟩))
 have hE34 := ((ExtS.refl _ w3).alloc _).trans hE4
 have hE45 := ((ExtS.refl _ w4).alloc _).trans hE5
 have hE56 := ((ExtS.refl _ w5).alloc _).trans hE6
 have hE36 := (hE34.trans hE45).trans hE56
 have hE26 := hE3.trans hE36
 have hE16 := hE2.trans hE26
 have hpz := sizeAve pc hpc
 have hsz := sizeAnn s hs
 have hp2 : ∀ a, p2 = some a → a.block ≠ w.heap.size := fun a ha => by subst ha; have h9 := hVo.lt a.block rfl; have := hS1a.lt; omega
 have hV6 := hV2.extS hE26 hp2
 have hT6 := own_extS hE16 (by omega) hT1a
 have hR6 := hR1a.extS (by omega) hE16
 have hb6 := hback.out w6 (hE1a.trans hE16)
 obtain ⟨p1', c1', e1', hT7⟩ := slc_of_own titleC_len hT6 (by decide) (by omega)
 cases e1'
 have hok : okSN (pc, no) := ⟨by show pc.size ≤ _; omega, by show _ ≤ no; omega, by show no ≤ _; omega⟩
 have hL : ListsW w6 p1 T.length ca1 T r p2 V.length ca2 V := ⟨hT7, hTs, by omega, hV6, hVs, by omega⟩
 have r0 := hR6.cell 0
 have r1 := hR6.cell 1
 have r2 := hR6.cell 2
 have r3 := hR6.cell 3
 have lr6 := hR6.lt
 have hcell : ∀ u, Ext w6 u → u.cell? ⟨g5,0, none⟩ = some (.int .i64 r.days) ∧ u.cell? ⟨g5,1, none⟩ = some (.int .i64 r.late) ∧ u.cell? ⟨g5,2, none⟩ = some (.int .i64 r.most) ∧ u.cell? ⟨g5,3, none⟩ = some (.int .i64 r.each) ∧ g5 < u.heap.size := fun u hu =>
  ⟨(hu.walk.1 _ _ lr6).trans r0, (hu.walk.1 _ _ lr6).trans r1, (hu.walk.1 _ _ lr6).trans r2, (hu.walk.1 _ _ lr6).trans r3, Nat.lt_of_lt_of_le lr6 hu.size⟩
 clear hE16 hE26 hE36 hE34 hE45 hE56 hE2 hE3 hE4 hE5 hE6 hS2 hS3 hS4 hS5 hS6 hV2 hVo hT1a hR1a hS1a hE1a hT6 hR6 hsa hlt hp2 hpc hs l3 l4 l5 r0 r1 r2 r3 lr6
 have c1 := fun u (hu : Ext w6 u) => libFault_any p1 T.length ca1 T r p2 V.length ca2 V u (hL.ext hu).ti.1 hTs (by omega) (hL.ext hu).sl.1 hVs (by omega)
 have c2 := fun u (hu : Ext w6 u) => refused_uni p1 T.length ca1 T r p2 V.length ca2 V u (hL.ext hu)
 have c3 := fun u (hu : Ext w6 u) => state_uni p1 T.length ca1 T r p2 V.length ca2 V t pc no u (hL.ext hu) hok
 have c4 := fun u (hu : Ext w6 u) => out_uni p1 T.length ca1 T r p2 V.length ca2 V t u (hL.ext hu)
 have c5 := fun u (hu : Ext w6 u) => has_uni p1 T.length ca1 T r p2 V.length ca2 V s t u (hL.ext hu) (by omega)
 have c6 := fun u (hu : Ext w6 u) => way_uni p1 T.length ca1 T r p2 V.length ca2 V t pc no u (hL.ext hu) hok
 have c7 := fun u (hu : Ext w6 u) => copyFault1_any p1 T.length ca1 T pc no u (hL.ext hu).ti (by omega)
 have c8 := fun u => momDoc_any t u
 have c9 := fun u => keyDoc_any s u (by omega)
 have d2 := fun (hF : libF T r V = 0) u (hu : Ext w6 u) => refusedD_uni p1 T.length ca1 T r p2 V.length ca2 V u (hL.ext hu) hF
 have d3 := fun (hF : atF T r V t (copyF T (pc, no)) = 0) u (hu : Ext w6 u) => stateD_uni p1 T.length ca1 T r p2 V.length ca2 V t pc no u (hL.ext hu) hok hF
 have d6 := fun (hF : atF T r V t (copyF T (pc, no)) = 0) u (hu : Ext w6 u) => wayD_uni p1 T.length ca1 T r p2 V.length ca2 V t pc no u (hL.ext hu) hF
 have d4 := fun (hF : atF T r V t 0 = 0) u (hu : Ext w6 u) => outD_uni p1 T.length ca1 T r p2 V.length ca2 V t u (hL.ext hu) hF
 have d5 := fun (hF : atF T r V t (keyE s) = 0) u (hu : Ext w6 u) => hasD_uni p1 T.length ca1 T r p2 V.length ca2 V s t u (hL.ext hu) hF
 have m2 := refA_bad (T := T) (r := r) (d := V)
 have m3 := statA_bad (T := T) (r := r) (d := V) (t := t) (k := (pc, no))
 have m4 := outA_bad (T := T) (r := r) (d := V) (t := t)
 have m5 := hasA_bad (T := T) (r := r) (d := V) (t := t) (s := s)
 have z2 := refA_len T r V
 have z6 : (wayA T r V t (pc, no)).length ≤ 1000 := wayA_le hVs (by omega)
 have e1 : atF T r V t (copyF T (pc, no)) = orF [libF T r V, copyF T (pc, no), momF t] := rfl
 have e2 : atF T r V t 0 = orF [libF T r V, momF t] := by
  show orF [libF T r V, 0, momF t] = _
  simp [orF]
 have e3 : atF T r V t (keyE s) = orF [libF T r V, keyE s, momF t] := rfl
 unfold RefT at c2
 unfold StrT at c6
 unfold LentT at c4 c5
 unfold lendVal at c1 c2 c3 c4 c5 c6 d2 d3 d4 d5 d6
 generalize atF T r V t (copyF T (pc, no)) = f1 at *
 generalize atF T r V t 0 = f2 at *
 generalize atF T r V t (keyE s) = f3 at *
 generalize libF T r V = F at *
 generalize copyF T (pc, no) = cf at *
 generalize momF t = mf at *
 generalize keyE s = kf at *
 generalize refA T r V = A at *
 generalize refB T r V = Bq at *
 generalize statA T r V t (pc, no) = st at *
 generalize wayA T r V t (pc, no) = wy at *
 generalize outA T r V t = oa at *
 generalize hasA T r V t s = ha at *
 have hle := lentReady_any
 replace hle := Lib.hid hle; clear hL hTs hVs hT7 hV6 hok; replace c1 := Lib.hid c1; replace c2 := Lib.hid c2; replace c3 := Lib.hid c3; replace c4 := Lib.hid c4; replace c5 := Lib.hid c5; replace c6 := Lib.hid c6; replace c7 := Lib.hid c7; replace c8 := Lib.hid c8; replace c9 := Lib.hid c9; replace d2 := Lib.hid d2; replace d3 := Lib.hid d3; replace d4 := Lib.hid d4; replace d5 := Lib.hid d5
 replace d6 := Lib.hid d6; replace m2 := Lib.hid m2; replace m3 := Lib.hid m3; replace m4 := Lib.hid m4; replace m5 := Lib.hid m5; replace z2 := Lib.hid z2; replace z6 := Lib.hid z6; replace e1 := Lib.hid e1; replace e2 := Lib.hid e2; replace e3 := Lib.hid e3; replace hb6 := Lib.hid hb6
 obtain ⟨t0, t1, t2, t3, lr⟩ := hcell w6 (Ext.refl _)
 replace hcell := Lib.hid hcell
 go_upto_if 124 with (first
  | (go_at_call 11; (with_reducible refine Calls.mono (c1.out _ (Ext.refl _)) ?_); rintro e x1 ⟨rfl, hy1⟩; have hx1 := hy1; clear t0 t1 t2 t3 lr; obtain ⟨t0, t1, t2, t3, lr⟩ := hcell.out _ hx1)
  | (go_at_call 12; (with_reducible refine Calls.mono (c2.out _ hx1) ?_); rintro e x2 ⟨v12, v13, rfl, pA, pB, cA, cB, rfl, rfl, hSA, hSB, hy2⟩; have hx2 := hx1.trans hy2; clear t0 t1 t2 t3 lr; obtain ⟨t0, t1, t2, t3, lr⟩ := hcell.out _ hx2)
  | (go_at_call 13; (with_reducible refine Calls.mono (c3.out _ hx2) ?_); rintro e x3 ⟨rfl, hy3⟩; have hx3 := hx2.trans hy3; clear t0 t1 t2 t3 lr; obtain ⟨t0, t1, t2, t3, lr⟩ := hcell.out _ hx3)
  | (go_at_call 14; (with_reducible refine Calls.mono (c4.out _ hx3) ?_); rintro e x4 ⟨v17, rfl, pO, cO, MO, rfl, hO1, hO2, hO3, hSO, hy4⟩; have hx4 := hx3.trans hy4; clear t0 t1 t2 t3 lr; obtain ⟨t0, t1, t2, t3, lr⟩ := hcell.out _ hx4)
  | (go_at_call 15; (with_reducible refine Calls.mono (c5.out _ hx4) ?_); rintro e x5 ⟨v19, rfl, pH, cH, MH, rfl, hH1, hH2, hH3, hSH, hy5⟩; have hx5 := hx4.trans hy5; clear t0 t1 t2 t3 lr; obtain ⟨t0, t1, t2, t3, lr⟩ := hcell.out _ hx5)
  | (go_at_call 16; (with_reducible refine Calls.mono (c6.out _ hx5) ?_); rintro e x6 ⟨v21, rfl, pW, cW, rfl, hSW, hy6⟩; have hx6 := hx5.trans hy6; clear t0 t1 t2 t3 lr; obtain ⟨t0, t1, t2, t3, lr⟩ := hcell.out _ hx6)
  | (go_at_call 18; (with_reducible refine Calls.mono (c7.out _ hx6) ?_); rintro e x7 ⟨rfl, hy7⟩; have hx7 := hx6.trans hy7; clear t0 t1 t2 t3 lr; obtain ⟨t0, t1, t2, t3, lr⟩ := hcell.out _ hx7)
  | (go_at_call 19; have hq := hx10; (with_reducible refine Calls.mono (c8.out _) ?_); rintro e x11 ⟨rfl, hy11⟩; have hx11 := hq.trans hy11)
  | (go_at_call 19; have hq := hx8; (with_reducible refine Calls.mono (c8.out _) ?_); rintro e x9 ⟨rfl, hy9⟩; have hx9 := (hq.alloc _).trans hy9)
  | (go_at_call 19; (with_reducible refine Calls.mono (c8.out _) ?_); rintro e x8 ⟨rfl, hy8⟩; have hx8 := hx7.trans hy8)
  | (go_at_call 20; (with_reducible refine Calls.mono (c9.out _) ?_); rintro e x10 ⟨rfl, hy10⟩; have hx10 := (hx9.alloc _).trans hy10)
  | (go_at_call 17; have hq := hx11; clear hq; refine (orErr_blk _ _ 3 [F, kf, mf] _ (by simp) (by exact Blk.new' rfl)).mono ?_; rintro e xo ⟨he, rfl⟩; rw [← e3.out] at he; subst he)
  | (go_at_call 17; have hq := hx9; clear hq; refine (orErr_blk _ _ 2 [F, mf] _ (by simp) (by exact Blk.new' rfl)).mono ?_; rintro e xo ⟨he, rfl⟩; rw [← e2.out] at he; subst he)
  | (go_at_call 17; have hq := hx8; clear hq; refine (orErr_blk _ _ 3 [F, cf, mf] _ (by simp) (by exact Blk.new' rfl)).mono ?_; rintro e xo ⟨he, rfl⟩; rw [← e1.out] at he; subst he))
 have hE := hx11.alloc (.cells #[.int .i64 F, .int .i64 kf, .int .i64 mf] 36)
 have k11 : Ext x7 (x11.alloc (.cells #[.int .i64 F, .int .i64 kf, .int .i64 mf] 36)) := ((((hy8.alloc _).trans ((hy9.alloc _).trans hy10)).trans hy11).alloc _)
 have k6 := hy7.trans k11
 have k5 := hy6.trans k6
 have k4 := hy5.trans k5
 have k3 := hy4.trans k4
 have k2 := hy3.trans k3
 replace hSA := hSA.ext k2
 replace hSB := hSB.ext k2
 replace hSO := hSO.ext k4
 replace hSH := hSH.ext k5
 replace hSW := hSW.ext k6
 clear t0 t1 t2 t3 lr k11 k2 k3 k4 k5 k6 hx1 hx2 hx3 hx4 hx5 hx6 hx7 hx8 hx9 hx10 hx11 hy1 hy2 hy3 hy4 hy5 hy6 hy7 hy8 hy9 hy10 hy11 c1 c2 c3 c4 c5 c6 c7 c8 c9 e1 e2 e3
 generalize (x11.alloc (.cells #[.int .i64 F, .int .i64 kf, .int .i64 mf] 36)) = u0 at *
 replace hSA := Lib.hid hSA; replace hSB := Lib.hid hSB; replace hSO := Lib.hid hSO; replace hSH := Lib.hid hSH; replace hSW := Lib.hid hSW; replace hO1 := Lib.hid hO1; replace hO2 := Lib.hid hO2; replace hH1 := Lib.hid hH1; replace hH2 := Lib.hid hH2
 go_cut [26,27] (fun v26 v27 u => RefT A Bq u0 v26 v27 u)
 case first =>
  as_aux_lemma =>
   clear d3 d4 d5 d6 m3 m4 m5
   obtain ⟨t0, t1, t2, t3, lr⟩ := hcell.out u0 hE
   by_cases hF : F = 0
   ·subst hF
    go_wp2_with (go_at_call 21; (with_reducible refine Calls.mono (d2.out rfl _ hE) ?_); rintro e y1 ⟨v26, v27, rfl, hRT⟩)
    go_meet
    exact hRT
   ·have hfb : (F == 0) = false := beq_false_of_ne hF
    obtain ⟨hA0, hB0⟩ := m2.out hF
    replace hF := Lib.hid hF; clear d2
    go_wp2
    go_meet
    rw [hA0, hB0]
    exact ⟨none, none, 0,0, rfl, rfl, slc_none _, slc_none _, Ext.refl _⟩
 case rest =>
  obtain ⟨qA, qB, dA, dB, rfl, rfl, hTA, hTB, hE1⟩ := hcut
  obtain ⟨u1, rfl⟩ : ∃ w9, w9 = wc := ⟨_, rfl⟩
  have hEu1 := hE.trans hE1
  replace hTA := Lib.hid hTA; replace hTB := Lib.hid hTB; clear d2 m2
  go_upto_if 133 with fail
  go_cut [28,31] (fun v28 v31 u => v31 = .string st ∧ StrT wy u1 v28 u)
  case first =>
   as_aux_lemma =>
    clear d4 d5 m4 m5
    obtain ⟨t0, t1, t2, t3, lr⟩ := hcell.out u1 hEu1
    by_cases hF : f1 = 0
    ·subst hF
     go_upto_region 19 with fail
     refine wp_region_facts [] [([],false,false),([],false,false),([],false,false),([],false,false),([],false,false),([],false,false),([0,1,2,3,4,5],false,false),([],false,false),([],false,false),([],false,false),([],false,false),([],false,false),([],false,false),([7,8,9,10,11,12],false,false)] (Ext) Ext (fun _ => True) (by kernel_rfl) (by kernel_rfl) Ext.refl (fun _ _ _ => Ext.trans) (fun _ _ h => h) (fun _ _ h => h.size) (fun _ _ h _ => h) trivial ?_
     dsimp only [List.length_cons, List.length_nil, List.drop_succ_cons, List.drop_zero, List.drop_nil]
     refine fq 0 rfl rfl rfl cK rfl rfl ?_; apply Exists.intro; constructor
     ·intro sv w' hw' hfa
      refine ⟨rfl, ?_⟩; simp only [putsL]; change qT _; simp only [qT, Act.put, sIA, sCS, sCZ]; simp [go_sem, quietTo, Ext.refl]; all_goals rfl
     refine fq 1 rfl rfl rfl cK rfl rfl ?_; apply Exists.intro; constructor
     ·intro sv w' hw' hfa
      have hk9 := (Ext.refl u1).drew.trans hw'; obtain ⟨hc, -, -⟩ := hk9.walk; have y0 := (hc g5 0 lr).trans t0; have y1 := (hc g5 1 lr).trans t1; have y2 := (hc g5 2 lr).trans t2; have y3 := (hc g5 3 lr).trans t3
      refine ⟨rfl, ?_⟩; simp only [putsL]; change qT _; simp only [qT, Act.put, sIA, sCS, sCZ]; simp [go_sem, quietTo, Ext.refl, ↓IntWalk.iteOmega, y0, y1, y2, y3]; (all_goals try simp (disch := omega) only [IntWalk.i64_in]); all_goals rfl
     refine fq 2 rfl rfl rfl cK rfl rfl ?_; apply Exists.intro; constructor
     ·intro sv w' hw' hfa
      refine ⟨rfl, ?_⟩; simp only [putsL]; change qT _; simp only [qT, Act.put, sIA, sCS, sCZ]; simp [go_sem, quietTo, Ext.refl]; all_goals rfl
     refine fq 3 rfl rfl rfl cK rfl rfl ?_; apply Exists.intro; constructor
     ·intro sv w' hw' hfa
      refine ⟨rfl, ?_⟩; simp only [putsL]; change qT _; simp only [qT, Act.put, sIA, sCS, sCZ]; simp [go_sem, quietTo, Ext.refl]; all_goals rfl
     refine fq 4 rfl rfl rfl cK rfl rfl ?_; apply Exists.intro; constructor
     ·intro sv w' hw' hfa
      refine ⟨rfl, ?_⟩; simp only [putsL]; change qT _; simp only [qT, Act.put, sIA, sCS, sCZ]; simp [go_sem, quietTo, Ext.refl]; all_goals rfl
     refine fq 5 rfl rfl rfl cK rfl rfl ?_; apply Exists.intro; constructor
     ·intro sv w' hw' hfa
      refine ⟨rfl, ?_⟩; simp only [putsL]; change qT _; simp only [qT, Act.put, sIA, sCS, sCZ]; simp [go_sem, quietTo, Ext.refl]; all_goals rfl
     refine fq 6 rfl rfl rfl cK rfl rfl ?_; apply Exists.intro; constructor
     ·rintro sv w' hw' ⟨(f0 : sv 0 = _), (f1 : sv 1 = _), (f2 : sv 2 = _), (f3 : sv 3 = _), (f4 : sv 4 = _), (f5 : sv 5 = _), -⟩; (try dsimp only at f0 f1 f2 f3 f4 f5)
      have hk9 := (Ext.refl u1).drew.trans hw'; obtain ⟨hc, -, -⟩ := hk9.walk; have y0 := (hc g5 0 lr).trans t0; have y1 := (hc g5 1 lr).trans t1; have y2 := (hc g5 2 lr).trans t2; have y3 := (hc g5 3 lr).trans t3
      refine ⟨rfl, ?_⟩; simp only [putsL]; change qT (pT (pT (pT (pT (pT (pT _ 139 (sv 5)) 138 (sv 4)) 137 (sv 3)) 136 (sv 2)) 135 (sv 1)) 134 (sv 0)); simp only [qT, pT, Act.put, sIA, sCS, sCZ]; simp [go_sem, quietTo, Ext.refl, ↓IntWalk.iteOmega, f0, f1, f2, f3, f4, f5]; (all_goals try simp (disch := omega) only [IntWalk.i64_in]); all_goals first | rfl | (exact d3.out rfl _ (hEu1.trans hk9))
     refine fq 7 rfl rfl rfl cK rfl rfl ?_; apply Exists.intro; constructor
     ·intro sv w' hw' hfa
      refine ⟨rfl, ?_⟩; simp only [putsL]; change qT _; simp only [qT, Act.put, sIA, sCS, sCZ]; simp [go_sem, quietTo, Ext.refl]; all_goals rfl
     refine fq 8 rfl rfl rfl cK rfl rfl ?_; apply Exists.intro; constructor
     ·intro sv w' hw' hfa
      have hk9 := (Ext.refl u1).drew.trans hw'; obtain ⟨hc, -, -⟩ := hk9.walk; have y0 := (hc g5 0 lr).trans t0; have y1 := (hc g5 1 lr).trans t1; have y2 := (hc g5 2 lr).trans t2; have y3 := (hc g5 3 lr).trans t3
      refine ⟨rfl, ?_⟩; simp only [putsL]; change qT _; simp only [qT, Act.put, sIA, sCS, sCZ]; simp [go_sem, quietTo, Ext.refl, ↓IntWalk.iteOmega, y0, y1, y2, y3]; (all_goals try simp (disch := omega) only [IntWalk.i64_in]); all_goals rfl
     refine fq 9 rfl rfl rfl cK rfl rfl ?_; apply Exists.intro; constructor
     ·intro sv w' hw' hfa
      refine ⟨rfl, ?_⟩; simp only [putsL]; change qT _; simp only [qT, Act.put, sIA, sCS, sCZ]; simp [go_sem, quietTo, Ext.refl]; all_goals rfl
     refine fq 10 rfl rfl rfl cK rfl rfl ?_; apply Exists.intro; constructor
     ·intro sv w' hw' hfa
      refine ⟨rfl, ?_⟩; simp only [putsL]; change qT _; simp only [qT, Act.put, sIA, sCS, sCZ]; simp [go_sem, quietTo, Ext.refl]; all_goals rfl
     refine fq 11 rfl rfl rfl cK rfl rfl ?_; apply Exists.intro; constructor
     ·intro sv w' hw' hfa
      refine ⟨rfl, ?_⟩; simp only [putsL]; change qT _; simp only [qT, Act.put, sIA, sCS, sCZ]; simp [go_sem, quietTo, Ext.refl]; all_goals rfl
     refine fq 12 rfl rfl rfl cK rfl rfl ?_; apply Exists.intro; constructor
     ·intro sv w' hw' hfa
      refine ⟨rfl, ?_⟩; simp only [putsL]; change qT _; simp only [qT, Act.put, sIA, sCS, sCZ]; simp [go_sem, quietTo, Ext.refl]; all_goals rfl
     refine fac_any 13 rfl rfl rfl cK ?_
     refine ⟨(fun y u => ∃ (p : Option Addr) (c : Nat), y 13 = .slice p wy.length c ∧ Slc 1 strC u p wy.length c wy), fun sv w' hw' hfa => ?_, ?_, ?_⟩
     ·obtain ⟨(f7 : sv 7 = _), (f8 : sv 8 = _), (f9 : sv 9 = _), (f10 : sv 10 = _), (f11 : sv 11 = _), (f12 : sv 12 = _), -⟩ := hfa; (try dsimp only at f7 f8 f9 f10 f11 f12)
      have hk9 := (Ext.refl u1).drew.trans hw'; obtain ⟨hc, -, -⟩ := hk9.walk; have y0 := (hc g5 0 lr).trans t0; have y1 := (hc g5 1 lr).trans t1; have y2 := (hc g5 2 lr).trans t2; have y3 := (hc g5 3 lr).trans t3
      refine ⟨rfl, ?_⟩
      simp only [putsL]
      change outc _ _ (Sem.run _ (execOp (Act.eval (pT (pT (pT (pT (pT (pT _ 146 (sv 12)) 145 (sv 11)) 144 (sv 10)) 143 (sv 9)) 142 (sv 8)) 141 (sv 7))) _) _)
      try simp only [pT, Act.put, sIA, sCS, sCZ]
      simp [go_sem, outc, f7, f8, f9, f10, f11, f12]
      refine (d6.out rfl _ (hEu1.trans hk9)).mono ?_
      rintro e w9 ⟨v, rfl, pz, cz, rfl, hz, hb9⟩
      exact ⟨_, rfl, hb9, pz, cz, by simp [upd], hz⟩
     ·exact fun x w w' ⟨a, c, h1, h2⟩ he => ⟨a, c, h1, h2.ext he⟩
     refine fac_nil fun xa wra hera hfra hcra holda hapa => ?_
     obtain ⟨(f0 : xa 0 = _), (f1 : xa 1 = _), (f2 : xa 2 = _), (f3 : xa 3 = _), (f4 : xa 4 = _), (f5 : xa 5 = _), (f6 : xa 6 = _), (f7 : xa 7 = _), (f8 : xa 8 = _), (f9 : xa 9 = _), (f10 : xa 10 = _), (f11 : xa 11 = _), (f12 : xa 12 = _), f13, -⟩ := hfra; (try dsimp only at f0 f1 f2 f3 f4 f5 f6 f7 f8 f9 f10 f11 f12)
     obtain ⟨pz, cz, f13, hZ13⟩ := f13
     replace f13 : xa 13 = _ := f13
     change wpList _ _ _ _ (pT (pT (pT (pT (pT (pT (pT (pT (pT (pT (pT (pT (pT (pT _ 134 (xa 0)) 135 (xa 1)) 136 (xa 2)) 137 (xa 3)) 138 (xa 4)) 139 (xa 5)) 140 (xa 6)) 141 (xa 7)) 142 (xa 8)) 143 (xa 9)) 144 (xa 10)) 145 (xa 11)) 146 (xa 12)) 147 (xa 13)) _
     simp only [putsL, Nat.reduceAdd, List.drop_succ_cons, List.drop_zero, List.drop_nil, pT, Act.put, sIA, sCS, sCZ]
     try simp only [f0, f1, f2, f3, f4, f5, f6, f7, f8, f9, f10, f11, f12, f13]
     clear f0 f1 f2 f3 f4 f5 f6 f7 f8 f9 f10 f11 f12; clear holda hapa
     have hka := (Ext.refl u1).drew.trans hera
     go_wp2
     go_meet
     exact ⟨rfl, pz, cz, rfl, hZ13, hka⟩
    ·have hfb : (f1 == 0) = false := beq_false_of_ne hF
     obtain ⟨hA0, hB0⟩ := m3.out hF
     replace hF := Lib.hid hF; clear d3 d6
     go_wp2
     go_meet
     rw [hA0, hB0]
     exact ⟨rfl, none, 0, rfl, slc_none _, Ext.refl _⟩
  case rest =>
   obtain ⟨rfl, qW, dW, rfl, hTW, hE2⟩ := hcut
   obtain ⟨u2, rfl⟩ : ∃ w9, w9 = wc := ⟨_, rfl⟩
   have hEu2 := hEu1.trans hE2
   replace hTW := Lib.hid hTW; clear d3 d6 m3
   go_upto_if 149 with fail
   go_cut [29] (fun v29 u => LentT oa u2 v29 u)
   case first =>
    as_aux_lemma =>
     clear d5 m5
     obtain ⟨t0, t1, t2, t3, lr⟩ := hcell.out u2 hEu2
     by_cases hF : f2 = 0
     ·subst hF
      go_wp2_with (go_at_call 24; (with_reducible refine Calls.mono (d4.out rfl _ hEu2) ?_); rintro e y1 ⟨v29, rfl, hRT⟩)
      go_meet
      exact hRT
     ·have hfb : (f2 == 0) = false := beq_false_of_ne hF
      have hA0 := m4.out hF
      replace hF := Lib.hid hF; clear d4
      go_wp2
      go_meet
      rw [hA0]
      exact lentT_nil (Ext.refl _)
   case rest =>
    obtain ⟨qO, dO, NO, rfl, hP1, hP2, hP3, hTO, hE3⟩ := hcut
    obtain ⟨u3, rfl⟩ : ∃ w9, w9 = wc := ⟨_, rfl⟩
    have hEu3 := hEu2.trans hE3
    obtain rfl : MO = NO := perm_same hO1.out hO2.out hP1 hP2
    replace hTO := Lib.hid hTO; clear d4 m4 hP1 hP2
    go_upto_if 156 with fail
    go_cut [30] (fun v30 u => LentT ha u3 v30 u)
    case first =>
     as_aux_lemma =>
      obtain ⟨t0, t1, t2, t3, lr⟩ := hcell.out u3 hEu3
      by_cases hF : f3 = 0
      ·subst hF
       go_wp2_with (go_at_call 25; (with_reducible refine Calls.mono (d5.out rfl _ hEu3) ?_); rintro e y1 ⟨v30, rfl, hRT⟩)
       go_meet
       exact hRT
      ·have hfb : (f3 == 0) = false := beq_false_of_ne hF
       have hA0 := m5.out hF
       replace hF := Lib.hid hF; clear d5
       go_wp2
       go_meet
       rw [hA0]
       exact lentT_nil (Ext.refl _)
    case rest =>
     as_aux_lemma =>
      obtain ⟨qH, dH, NH, rfl, hP1, hP2, hP4, hTH, hE4⟩ := hcut
      obtain ⟨u4, rfl⟩ : ∃ w9, w9 = wc := ⟨_, rfl⟩
      obtain rfl : MH = NH := perm_same hH1.out hH2.out hP1 hP2
      have hEu4 := hEu3.trans hE4
      have j3 := hE4
      have j2 := hE3.trans j3
      have j1 := hE2.trans j2
      have j0 := hE1.trans j1
      have q1 := fun u (hu : Ext u4 u) => eqNat_any pA qA A.length cA dA A u (hSA.out.ext (j0.trans hu)) (hTA.out.ext (j1.trans hu)) (by have := z2.out; omega)
      have q2 := fun u (hu : Ext u4 u) => eqErr_any pB qB A.length cB dB Bq u (hSB.out.ext (j0.trans hu)) (hTB.out.ext (j1.trans hu)) (by have := z2.out; omega)
      have q3 := fun u (hu : Ext u4 u) => eqStrN_any pW qW wy.length cW dW wy u (hSW.out.ext (j0.trans hu)) (hTW.out.ext (j2.trans hu)) (by have := z6.out; omega)
      have q4 := fun u (hu : Ext u4 u) => eqLent_any pO qO MO.length cO dO MO u (hSO.out.ext (j0.trans hu)) (hTO.out.ext (j3.trans hu)) (by omega)
      have q5 := fun u (hu : Ext u4 u) => eqLent_any pH qH MH.length cH dH MH u (hSH.out.ext (j0.trans hu)) (hTH.ext hu) (by omega)
      replace q1 := Lib.hid q1; replace q2 := Lib.hid q2; replace q3 := Lib.hid q3; replace q4 := Lib.hid q4; replace q5 := Lib.hid q5; clear hcell d5 m5 j0 j1 j2 j3 hSA hSB hSO hSH hSW hTA hTB hTW hTO hTH hP1 hP2
      go_wp2_with (first
       | (go_at_call 26; (with_reducible refine Calls.mono (q1.out _ (Ext.refl _)) ?_); rintro e y1 ⟨rfl, g1⟩)
       | (go_at_call 27; (with_reducible refine Calls.mono (q2.out _ g1) ?_); rintro e y2 ⟨rfl, h2⟩; have g2 := g1.trans h2)
       | (go_at_call 28; (with_reducible refine Calls.mono (q3.out _ g2) ?_); rintro e y3 ⟨rfl, h3⟩; have g3 := g2.trans h3)
       | (go_at_call 29; have gq := g4; (with_reducible refine Calls.mono (q5.out _ gq) ?_); rintro e y5 ⟨rfl, h5⟩; have g5' := gq.trans h5)
       | (go_at_call 29; (with_reducible refine Calls.mono (q4.out _ g3) ?_); rintro e y4 ⟨rfl, h4⟩; have g4 := g3.trans h4)
       | (go_at_call 30; (with_reducible refine Calls.mono (hle.out _) ?_); rintro e y6 ⟨rfl, h6⟩))
      go_ret
      exact ⟨rfl, ((hb6.out.trans hEu4).trans g5').trans h6⟩
end Go.Proofs.YtkjhbofbcmelgaaGreatDoor
