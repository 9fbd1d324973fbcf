/- What is wrong with slips, by both texts. Conditions: sizes. (Printed by gen_sld.py.) -/
import Derived.Test.YtkjhbofbcmelgaaGreatDoorEzSlC
set_option linter.unusedSimpArgs false
set_option linter.unusedVariables false
namespace Go.Proofs.YtkjhbofbcmelgaaGreatDoor
open Go Go.RowKit Go.Sort
def lateS (xs : List SlipV) (i : Nat) : Int := if (0 < i && ((atL default xs i).by_.toList == (atL default xs (i - 1)).by_.toList) && decide ((atL default xs i).at_ < (atL default xs (i - 1)).at_)) = true then 7 else 0
theorem lateS_two (xs : List SlipV) (i : Nat) : lateS xs i = 0 ∨ lateS xs i = 7 := by unfold lateS; split; exact .inr rfl; exact .inl rfl
/-- What is wrong with slips. -/
def slipsF (xs : List SlipV) : Int := if 3000 < xs.length then 2 else if scanF xs.length (chkSli xs) = 0 then scanF xs.length (lateS xs) else scanF xs.length (chkSli xs)
theorem scan_late {xs : List SlipV} {n i : Nat} (hi : i < n) (h : lateS xs i ≠ 0) : scanF n (lateS xs) = 7 := by
 obtain ⟨k, hk, hz, hx⟩ := scan_first n ⟨i, hi, h⟩
 rw [scan_at k hk hz hx]
 rcases lateS_two xs k with e | e
 ·exact absurd e hx
 ·exact e
theorem slipsF_good {xs : List SlipV} (h : slipsF xs = 0) : xs.length ≤ 3000 ∧ ∀ x ∈ xs, slipE x = 0 := by
 unfold slipsF at h
 split at h
 ·cases h
 split at h
 ·rename_i h1 h2
  refine ⟨by omega, fun x hx => ?_⟩
  obtain ⟨i, hi, e⟩ := List.getElem_of_mem hx
  refine Classical.byContradiction fun hne => ?_
  have hc : chkSli xs i ≠ 0 := by
   unfold chkSli
   rw [atL_of (show xs[i]? = some x by rw [List.getElem?_eq_getElem hi, e]), if_neg hne]
   exact hne
  obtain ⟨k, hk, hz, hx⟩ := scan_first xs.length ⟨i, hi, hc⟩
  rw [scan_at k hk hz hx] at h2
  exact hx h2
 ·rename_i h1 h2
  exact absurd h h2
set_option maxRecDepth 100000 in
set_option maxHeartbeats 3200000 in
theorem checkSlips_any (p : Option Addr) (n c : Nat) (xs : List SlipV) (w : World) (h : Sl 7 slipC w p n xs) (hs : ∀ x ∈ xs, x.Small) (hn : n ≤ 1000000) :
 Calls Tryz.prog 118 #[.slice p n c] w fun e w' => e = .returned (.int .i64 (slipsF xs)) ∧ Ext w w' := by
 have hl := h.1
 have hF : slipsF xs = if 3000 < n then 2 else if scanF n (chkSli xs) = 0 then scanF n (lateS xs) else scanF n (chkSli xs) := by unfold slipsF; rw [hl]
 replace hF := Lib.hid hF
 by_cases h12 : 3000 < n
 ·clear h hl hs
  go_enter Tryz.func118, Tryz.ntmps118
  go_wp2
  go_ret
  exact ⟨ret_int (by rw [hF.out, if_pos h12]), Ext.refl _⟩
 have hvf := fun k (hk : k < n) u (hu : Ext w u) => slipFault_any p n c xs k u (h.ext hu) hs hk (by omega)
 have hd : decide (3000 < (n : Int)) = false := by simp; omega
 replace hvf := Lib.hid hvf
 go_enter Tryz.func118, Tryz.ntmps118
 go_wp2
 go_loopw [11] (fun i wr => ∃ k : Nat, k ≤ n ∧ i = .int .i64 k ∧ Zeros (chkSli xs) k ∧ Ext w wr) (fun i _ => n - (intOf i).toNat)
 case atStart => exact ⟨0, Nat.zero_le _, rfl, (fun j hj => by omega), Ext.refl _⟩
 case round =>
  obtain ⟨k, hk, rfl, hz, he⟩ := hrel
  by_cases hlt : k < n
  ·have hvk := hvf.out k hlt _ he
   have hkI : (k : Int) < n := by omega
   have hgo : k + 1 ≤ n := hlt
   by_cases hf : chkSli xs k = 0
   rotate_left
   ·have hsc := scan_at k hlt hz hf
    generalize chkSli xs k = f at *
    replace hvk := Lib.hid hvk; replace hsc := Lib.hid hsc
    go_wp2_with (go_at_call 166; (with_reducible refine Calls.mono hvk.out ?_); rintro e w1 ⟨rfl, hb1⟩)
    go_ret
    exact ⟨ret_int (by rw [hF.out, if_neg h12, hsc.out, if_neg hf]), he.trans hb1⟩
   ·have hzs := hz.succ hf
    rw [hf] at hvk
    replace hvk := Lib.hid hvk; clear hf
    go_wp2_with (go_at_call 166; (with_reducible refine Calls.mono hvk.out ?_); rintro e w1 ⟨rfl, hb1⟩)
    go_roundw
    case rel => exact ⟨k + 1, hgo, by go_num, hzs, he.trans hb1⟩
    case measure => simp [intOf]; omega
  ·obtain rfl : k = n := by omega
   have hsc := scan_zero hz
   replace hsc := Lib.hid hsc; clear hvf hlt hz
   go_wp2
   go_loopw [5] (fun i w2 => ∃ m : Nat, 1 ≤ m ∧ (m ≤ k ∨ m = 1) ∧ i = .int .i64 m ∧ Zeros (lateS xs) m ∧ Ext w w2) (fun i _ => k + 1 - (intOf i).toNat)
   case atStart => exact ⟨1, Nat.le_refl _, .inr rfl, rfl, (fun j hj => by have e : j = 0 := (by omega); subst e; rfl), he⟩
   case round =>
    obtain ⟨m, hm1, hm, rfl, hz, hE2⟩ := hrel
    by_cases hlt : m < k
    ·obtain ⟨b, off, rfl, hb, hE⟩ := h.2.2 (by omega)
     obtain ⟨j, hj⟩ : ∃ j, m = j + 1 := ⟨m - 1, by omega⟩
     obtain ⟨x, hx⟩ := getD_some hl hlt
     obtain ⟨y, hy⟩ := getD_some hl (show j < k by omega)
     obtain ⟨c0, -, c2, -, -, -, -⟩ := hE.slip hx
     obtain ⟨d0, -, d2, -, -, -, -⟩ := hE.slip hy
     have hv : lateS xs m = if (0 < m && (x.by_.toList == y.by_.toList) && decide (x.at_ < y.at_)) = true then 7 else 0 := by
      unfold lateS
      rw [atL_of hx, show m - 1 = j by omega, atL_of hy]
     replace hv := Lib.hid hv
     have hwj : IntKind.i64.wrap ((m : Int) - 1) = j := by rw [show (m : Int) - 1 = j by omega]; exact IntWalk.i64_in _ (by omega)
     have hmI : (m : Int) < k := by omega
     have hjI : (j : Int) < k := by omega
     replace hj := Lib.hid hj; clear hx hy hE
     go_upto_region 13 with fail
     cases hne : (x.by_.toList == y.by_.toList)
     ·skip
      refine wp_region_facts [] [([],false,false),([],false,false),([0,1],false,false),([0,1,2],false,false),([0,1,2,3],false,false),([],false,false),([],false,false),([6],false,false),([5,6,7],false,false),([5,6,7,8],false,false),([5,6,7,8,9],false,false),([0,1,2,3,4,5,6,7,8,9,10],false,false),([0,1,2,3,4,5,6,7,8,9,10,11],false,false),([0,1,2,3,4,5,6,7,8,9,10,11,12],false,false),([0,1,2,3,4,5,6,7,8,9,10,11,12],false,false),([0,1,2,3,4,5,6,7,8,9,10,11,12,13,14],false,false),([0,1,2,3,4,5,6,7,8,9,10,11,12,13,14,15],false,false),([0,1,2,3,4,5,6,7,8,9,10,11,12,13,14,15,16],false,false),([0,1,2,3,4,5,6,7,8,9,10,11,12],false,false),([0,1,2,3,4,5,6,7,8,9,10,11,12],false,false),([0,1,2,3,4,5,6,7,8,9,10,11,12,19],false,false),([0,1,2,3,4,5,6,7,8,9,10,11,12,18,19,20],false,false),([0,1,2,3,4,5,6,7,8,9,10,11,12,18,19,20,21],false,false),([0,1,2,3,4,5,6,7,8,9,10,11,12,18,19,20,21,22],false,false),([0,1,2,3,4,5,6,7,8,9,10,11,12,13,14,15,16,17,18,19,20,21,22,23],false,false),([0,1,2,3,4,5,6,7,8,9,10,11,12,13,14,15,16,17,18,19,20,21,22,23,24],false,false)] (Ext) Ext (fun _ => True) (by kernel_rfl) (by kernel_rfl) Ext.refl (fun _ _ _ => Ext.trans) (fun _ _ h => h) (fun _ _ h => h.size) (fun _ _ h _ => h) trivial ?_
      dsimp only [List.length_cons, List.length_nil, List.drop_succ_cons, List.drop_zero, List.drop_nil]
      refine fq 0 rfl rfl rfl cK rfl rfl ?_; apply Exists.intro; constructor
      ·intro sv w' hw' hfa
       refine ⟨rfl, ?_⟩; simp only [putsL]; change qT _; simp only [qT, Act.put, sIA, sCS, sCZ]; simp [go_sem, quietTo, Ext.refl]; all_goals rfl
      refine fq 1 rfl rfl rfl cK rfl rfl ?_; apply Exists.intro; constructor
      ·intro sv w' hw' hfa
       refine ⟨rfl, ?_⟩; simp only [putsL]; change qT _; simp only [qT, Act.put, sIA, sCS, sCZ]; simp [go_sem, quietTo, Ext.refl]; all_goals rfl
      refine fq 2 rfl rfl rfl cK rfl rfl ?_; apply Exists.intro; constructor
      ·rintro sv w' hw' ⟨(f0 : sv 0 = _), (f1 : sv 1 = _), -⟩; (try dsimp only at f0 f1)
       refine ⟨rfl, ?_⟩; simp only [putsL]; change qT (pT (pT _ 28 (sv 1)) 27 (sv 0)); simp only [qT, pT, Act.put, sIA, sCS, sCZ]; simp [go_sem, quietTo, Ext.refl, ↓IntWalk.iteOmega, f0, f1, hmI]; (all_goals try simp (disch := omega) only [IntWalk.i64_in]); all_goals rfl
      refine fq 3 rfl rfl rfl cK rfl rfl ?_; apply Exists.intro; constructor
      ·rintro sv w' hw' ⟨_, _, (f2 : sv 2 = _), -⟩; (try dsimp only at f2)
       refine ⟨rfl, ?_⟩; simp only [putsL]; change qT (pT (pT (pT _ 29 (sv 2)) 28 (sv 1)) 27 (sv 0)); simp only [qT, pT, Act.put, sIA, sCS, sCZ]; simp [go_sem, quietTo, Ext.refl, f2]; all_goals rfl
      refine fq 4 rfl rfl rfl cK rfl rfl ?_; apply Exists.intro; constructor
      ·rintro sv w' hw' ⟨_, _, _, (f3 : sv 3 = _), -⟩; (try dsimp only at f3)
       obtain ⟨hc, hf, hz9⟩ := (hE2.drew.trans hw').walk; have x0 := (hc _ (off + m * 7) hb).trans c0
       refine ⟨rfl, ?_⟩; simp only [putsL]; change qT (pT (pT (pT (pT _ 30 (sv 3)) 29 (sv 2)) 28 (sv 1)) 27 (sv 0)); simp only [qT, pT, Act.put, sIA, sCS, sCZ]; simp [go_sem, quietTo, Ext.refl, ↓IntWalk.iteOmega, f3, x0]; (all_goals try simp (disch := omega) only [IntWalk.i64_in]); all_goals rfl
      refine fq 5 rfl rfl rfl cK rfl rfl ?_; apply Exists.intro; constructor
      ·intro sv w' hw' hfa
       refine ⟨rfl, ?_⟩; simp only [putsL]; change qT _; simp only [qT, Act.put, sIA, sCS, sCZ]; simp [go_sem, quietTo, Ext.refl]; all_goals rfl
      refine fq 6 rfl rfl rfl cK rfl rfl ?_; apply Exists.intro; constructor
      ·intro sv w' hw' hfa
       refine ⟨rfl, ?_⟩; simp only [putsL]; change qT _; simp only [qT, Act.put, sIA, sCS, sCZ]; simp [go_sem, quietTo, Ext.refl]; all_goals rfl
      refine fq 7 rfl rfl rfl cK rfl rfl ?_; apply Exists.intro; constructor
      ·rintro sv w' hw' ⟨(f6 : sv 6 = _), -⟩; (try dsimp only at f6)
       refine ⟨rfl, ?_⟩; simp only [putsL]; change qT (pT _ 33 (sv 6)); simp only [qT, pT, Act.put, sIA, sCS, sCZ]; simp [go_sem, quietTo, Ext.refl, ↓IntWalk.iteOmega, f6, hwj]; (all_goals try simp (disch := omega) only [IntWalk.i64_in]); all_goals rfl
      refine fq 8 rfl rfl rfl cK rfl rfl ?_; apply Exists.intro; constructor
      ·rintro sv w' hw' ⟨(f5 : sv 5 = _), _, (f7 : sv 7 = _), -⟩; (try dsimp only at f5 f7)
       refine ⟨rfl, ?_⟩; simp only [putsL]; change qT (pT (pT (pT _ 34 (sv 7)) 33 (sv 6)) 32 (sv 5)); simp only [qT, pT, Act.put, sIA, sCS, sCZ]; simp [go_sem, quietTo, Ext.refl, ↓IntWalk.iteOmega, f5, f7, hjI]; (all_goals try simp (disch := omega) only [IntWalk.i64_in]); all_goals rfl
      refine fq 9 rfl rfl rfl cK rfl rfl ?_; apply Exists.intro; constructor
      ·rintro sv w' hw' ⟨_, _, _, (f8 : sv 8 = _), -⟩; (try dsimp only at f8)
       refine ⟨rfl, ?_⟩; simp only [putsL]; change qT (pT (pT (pT (pT _ 35 (sv 8)) 34 (sv 7)) 33 (sv 6)) 32 (sv 5)); simp only [qT, pT, Act.put, sIA, sCS, sCZ]; simp [go_sem, quietTo, Ext.refl, f8]; all_goals rfl
      refine fq 10 rfl rfl rfl cK rfl rfl ?_; apply Exists.intro; constructor
      ·rintro sv w' hw' ⟨_, _, _, _, (f9 : sv 9 = _), -⟩; (try dsimp only at f9)
       obtain ⟨hc, hf, hz9⟩ := (hE2.drew.trans hw').walk; have y0 := (hc _ (off + j * 7) hb).trans d0
       refine ⟨rfl, ?_⟩; simp only [putsL]; change qT (pT (pT (pT (pT (pT _ 36 (sv 9)) 35 (sv 8)) 34 (sv 7)) 33 (sv 6)) 32 (sv 5)); simp only [qT, pT, Act.put, sIA, sCS, sCZ]; simp [go_sem, quietTo, Ext.refl, ↓IntWalk.iteOmega, f9, y0]; (all_goals try simp (disch := omega) only [IntWalk.i64_in]); all_goals rfl
      refine fq 11 rfl rfl rfl cK rfl rfl ?_; apply Exists.intro; constructor
      ·rintro sv w' hw' ⟨_, _, _, _, (f4 : sv 4 = _), _, _, _, _, _, (f10 : sv 10 = _), -⟩; (try dsimp only at f4 f10)
       refine ⟨rfl, ?_⟩; simp only [putsL]; change qT (pT (pT (pT (pT (pT (pT (pT (pT (pT (pT (pT _ 37 (sv 10)) 36 (sv 9)) 35 (sv 8)) 34 (sv 7)) 33 (sv 6)) 32 (sv 5)) 31 (sv 4)) 30 (sv 3)) 29 (sv 2)) 28 (sv 1)) 27 (sv 0)); simp only [qT, pT, Act.put, sIA, sCS, sCZ]; simp [go_sem, quietTo, Ext.refl, ↓IntWalk.iteOmega, f4, f10, hne]; (all_goals try simp (disch := omega) only [IntWalk.i64_in]); all_goals rfl
      refine fq 12 rfl rfl rfl cK rfl rfl ?_; apply Exists.intro; constructor
      ·rintro sv w' hw' ⟨_, _, _, _, _, _, _, _, _, _, _, (f11 : sv 11 = _), -⟩; (try dsimp only at f11)
       refine ⟨rfl, ?_⟩; simp only [putsL]; change qT (pT (pT (pT (pT (pT (pT (pT (pT (pT (pT (pT (pT _ 38 (sv 11)) 37 (sv 10)) 36 (sv 9)) 35 (sv 8)) 34 (sv 7)) 33 (sv 6)) 32 (sv 5)) 31 (sv 4)) 30 (sv 3)) 29 (sv 2)) 28 (sv 1)) 27 (sv 0)); simp only [qT, pT, Act.put, sIA, sCS, sCZ]; simp [go_sem, quietTo, Ext.refl, f11]; all_goals rfl
      refine fac_skip 13 rfl rfl rfl cK Ext.refl ?_ ?_
      ·intro sv w' hw' hfa
       obtain ⟨(f0 : sv 0 = _), (f1 : sv 1 = _), (f2 : sv 2 = _), (f3 : sv 3 = _), (f4 : sv 4 = _), (f5 : sv 5 = _), (f6 : sv 6 = _), (f7 : sv 7 = _), (f8 : sv 8 = _), (f9 : sv 9 = _), (f10 : sv 10 = _), (f11 : sv 11 = _), (f12 : sv 12 = _), -⟩ := hfa; (try dsimp only at f0 f1 f2 f3 f4 f5 f6 f7 f8 f9 f10 f11 f12)
       simp [Region.wanted, yielded, putsL, Act.put, f12]
      refine fac_skip 14 rfl rfl rfl cK Ext.refl ?_ ?_
      ·intro sv w' hw' hfa
       obtain ⟨(f0 : sv 0 = _), (f1 : sv 1 = _), (f2 : sv 2 = _), (f3 : sv 3 = _), (f4 : sv 4 = _), (f5 : sv 5 = _), (f6 : sv 6 = _), (f7 : sv 7 = _), (f8 : sv 8 = _), (f9 : sv 9 = _), (f10 : sv 10 = _), (f11 : sv 11 = _), (f12 : sv 12 = _), -⟩ := hfa; (try dsimp only at f0 f1 f2 f3 f4 f5 f6 f7 f8 f9 f10 f11 f12)
       simp [Region.wanted, yielded, putsL, Act.put, f12]
      refine fac_skip 15 rfl rfl rfl cK Ext.refl ?_ ?_
      ·intro sv w' hw' hfa
       obtain ⟨(f0 : sv 0 = _), (f1 : sv 1 = _), (f2 : sv 2 = _), (f3 : sv 3 = _), (f4 : sv 4 = _), (f5 : sv 5 = _), (f6 : sv 6 = _), (f7 : sv 7 = _), (f8 : sv 8 = _), (f9 : sv 9 = _), (f10 : sv 10 = _), (f11 : sv 11 = _), (f12 : sv 12 = _), (f13 : sv 13 = _), (f14 : sv 14 = _), -⟩ := hfa; (try dsimp only at f0 f1 f2 f3 f4 f5 f6 f7 f8 f9 f10 f11 f12 f13 f14)
       simp [Region.wanted, yielded, putsL, Act.put, f12, f13, f14]
      refine fac_skip 16 rfl rfl rfl cK Ext.refl ?_ ?_
      ·intro sv w' hw' hfa
       obtain ⟨(f0 : sv 0 = _), (f1 : sv 1 = _), (f2 : sv 2 = _), (f3 : sv 3 = _), (f4 : sv 4 = _), (f5 : sv 5 = _), (f6 : sv 6 = _), (f7 : sv 7 = _), (f8 : sv 8 = _), (f9 : sv 9 = _), (f10 : sv 10 = _), (f11 : sv 11 = _), (f12 : sv 12 = _), (f13 : sv 13 = _), (f14 : sv 14 = _), (f15 : sv 15 = _), -⟩ := hfa; (try dsimp only at f0 f1 f2 f3 f4 f5 f6 f7 f8 f9 f10 f11 f12 f13 f14 f15)
       simp [Region.wanted, yielded, putsL, Act.put, f12, f15]
      refine fac_skip 17 rfl rfl rfl cK Ext.refl ?_ ?_
      ·intro sv w' hw' hfa
       obtain ⟨(f0 : sv 0 = _), (f1 : sv 1 = _), (f2 : sv 2 = _), (f3 : sv 3 = _), (f4 : sv 4 = _), (f5 : sv 5 = _), (f6 : sv 6 = _), (f7 : sv 7 = _), (f8 : sv 8 = _), (f9 : sv 9 = _), (f10 : sv 10 = _), (f11 : sv 11 = _), (f12 : sv 12 = _), (f13 : sv 13 = _), (f14 : sv 14 = _), (f15 : sv 15 = _), (f16 : sv 16 = _), -⟩ := hfa; (try dsimp only at f0 f1 f2 f3 f4 f5 f6 f7 f8 f9 f10 f11 f12 f13 f14 f15 f16)
       simp [Region.wanted, yielded, putsL, Act.put, f12, f16]
      refine fac_skip 18 rfl rfl rfl cK Ext.refl ?_ ?_
      ·intro sv w' hw' hfa
       obtain ⟨(f0 : sv 0 = _), (f1 : sv 1 = _), (f2 : sv 2 = _), (f3 : sv 3 = _), (f4 : sv 4 = _), (f5 : sv 5 = _), (f6 : sv 6 = _), (f7 : sv 7 = _), (f8 : sv 8 = _), (f9 : sv 9 = _), (f10 : sv 10 = _), (f11 : sv 11 = _), (f12 : sv 12 = _), -⟩ := hfa; (try dsimp only at f0 f1 f2 f3 f4 f5 f6 f7 f8 f9 f10 f11 f12)
       simp [Region.wanted, yielded, putsL, Act.put, f12]
      refine fac_skip 19 rfl rfl rfl cK Ext.refl ?_ ?_
      ·intro sv w' hw' hfa
       obtain ⟨(f0 : sv 0 = _), (f1 : sv 1 = _), (f2 : sv 2 = _), (f3 : sv 3 = _), (f4 : sv 4 = _), (f5 : sv 5 = _), (f6 : sv 6 = _), (f7 : sv 7 = _), (f8 : sv 8 = _), (f9 : sv 9 = _), (f10 : sv 10 = _), (f11 : sv 11 = _), (f12 : sv 12 = _), -⟩ := hfa; (try dsimp only at f0 f1 f2 f3 f4 f5 f6 f7 f8 f9 f10 f11 f12)
       simp [Region.wanted, yielded, putsL, Act.put, f12]
      refine fac_skip 20 rfl rfl rfl cK Ext.refl ?_ ?_
      ·intro sv w' hw' hfa
       obtain ⟨(f0 : sv 0 = _), (f1 : sv 1 = _), (f2 : sv 2 = _), (f3 : sv 3 = _), (f4 : sv 4 = _), (f5 : sv 5 = _), (f6 : sv 6 = _), (f7 : sv 7 = _), (f8 : sv 8 = _), (f9 : sv 9 = _), (f10 : sv 10 = _), (f11 : sv 11 = _), (f12 : sv 12 = _), (f19 : sv 19 = _), -⟩ := hfa; (try dsimp only at f0 f1 f2 f3 f4 f5 f6 f7 f8 f9 f10 f11 f12 f19)
       simp [Region.wanted, yielded, putsL, Act.put, f12, f19]
      refine fac_skip 21 rfl rfl rfl cK Ext.refl ?_ ?_
      ·intro sv w' hw' hfa
       obtain ⟨(f0 : sv 0 = _), (f1 : sv 1 = _), (f2 : sv 2 = _), (f3 : sv 3 = _), (f4 : sv 4 = _), (f5 : sv 5 = _), (f6 : sv 6 = _), (f7 : sv 7 = _), (f8 : sv 8 = _), (f9 : sv 9 = _), (f10 : sv 10 = _), (f11 : sv 11 = _), (f12 : sv 12 = _), (f18 : sv 18 = _), (f19 : sv 19 = _), (f20 : sv 20 = _), -⟩ := hfa; (try dsimp only at f0 f1 f2 f3 f4 f5 f6 f7 f8 f9 f10 f11 f12 f18 f19 f20)
       simp [Region.wanted, yielded, putsL, Act.put, f12, f18, f20]
      refine fac_skip 22 rfl rfl rfl cK Ext.refl ?_ ?_
      ·intro sv w' hw' hfa
       obtain ⟨(f0 : sv 0 = _), (f1 : sv 1 = _), (f2 : sv 2 = _), (f3 : sv 3 = _), (f4 : sv 4 = _), (f5 : sv 5 = _), (f6 : sv 6 = _), (f7 : sv 7 = _), (f8 : sv 8 = _), (f9 : sv 9 = _), (f10 : sv 10 = _), (f11 : sv 11 = _), (f12 : sv 12 = _), (f18 : sv 18 = _), (f19 : sv 19 = _), (f20 : sv 20 = _), (f21 : sv 21 = _), -⟩ := hfa; (try dsimp only at f0 f1 f2 f3 f4 f5 f6 f7 f8 f9 f10 f11 f12 f18 f19 f20 f21)
       simp [Region.wanted, yielded, putsL, Act.put, f12, f21]
      refine fac_skip 23 rfl rfl rfl cK Ext.refl ?_ ?_
      ·intro sv w' hw' hfa
       obtain ⟨(f0 : sv 0 = _), (f1 : sv 1 = _), (f2 : sv 2 = _), (f3 : sv 3 = _), (f4 : sv 4 = _), (f5 : sv 5 = _), (f6 : sv 6 = _), (f7 : sv 7 = _), (f8 : sv 8 = _), (f9 : sv 9 = _), (f10 : sv 10 = _), (f11 : sv 11 = _), (f12 : sv 12 = _), (f18 : sv 18 = _), (f19 : sv 19 = _), (f20 : sv 20 = _), (f21 : sv 21 = _), (f22 : sv 22 = _), -⟩ := hfa; (try dsimp only at f0 f1 f2 f3 f4 f5 f6 f7 f8 f9 f10 f11 f12 f18 f19 f20 f21 f22)
       simp [Region.wanted, yielded, putsL, Act.put, f12, f22]
      refine fac_skip 24 rfl rfl rfl cK Ext.refl ?_ ?_
      ·intro sv w' hw' hfa
       obtain ⟨(f0 : sv 0 = _), (f1 : sv 1 = _), (f2 : sv 2 = _), (f3 : sv 3 = _), (f4 : sv 4 = _), (f5 : sv 5 = _), (f6 : sv 6 = _), (f7 : sv 7 = _), (f8 : sv 8 = _), (f9 : sv 9 = _), (f10 : sv 10 = _), (f11 : sv 11 = _), (f12 : sv 12 = _), (f13 : sv 13 = _), (f14 : sv 14 = _), (f15 : sv 15 = _), (f16 : sv 16 = _), (f17 : sv 17 = _), (f18 : sv 18 = _), (f19 : sv 19 = _), (f20 : sv 20 = _), (f21 : sv 21 = _), (f22 : sv 22 = _), (f23 : sv 23 = _), -⟩ := hfa; (try dsimp only at f0 f1 f2 f3 f4 f5 f6 f7 f8 f9 f10 f11 f12 f13 f14 f15 f16 f17 f18 f19 f20 f21 f22 f23)
       simp [Region.wanted, yielded, putsL, Act.put, f12, f17, f23]
      refine fq 25 rfl rfl rfl cK rfl rfl ?_; apply Exists.intro; constructor
      ·rintro sv w' hw' ⟨_, _, _, _, _, _, _, _, _, _, _, _, (f12 : sv 12 = _), _, _, _, _, _, _, _, _, _, _, _, (f24 : sv 24 = _), -⟩; (try dsimp only at f12 f24)
       refine ⟨rfl, ?_⟩; simp only [putsL]; change qT (pT (pT (pT (pT (pT (pT (pT (pT (pT (pT (pT (pT (pT (pT (pT (pT (pT (pT (pT (pT (pT (pT (pT (pT (pT _ 51 (sv 24)) 50 (sv 23)) 49 (sv 22)) 48 (sv 21)) 47 (sv 20)) 46 (sv 19)) 45 (sv 18)) 44 (sv 17)) 43 (sv 16)) 42 (sv 15)) 41 (sv 14)) 40 (sv 13)) 39 (sv 12)) 38 (sv 11)) 37 (sv 10)) 36 (sv 9)) 35 (sv 8)) 34 (sv 7)) 33 (sv 6)) 32 (sv 5)) 31 (sv 4)) 30 (sv 3)) 29 (sv 2)) 28 (sv 1)) 27 (sv 0)); simp only [qT, pT, Act.put, sIA, sCS, sCZ]; simp [go_sem, quietTo, Ext.refl, ↓IntWalk.iteOmega, f12, f24]; (all_goals try simp (disch := omega) only [IntWalk.i64_in]); all_goals rfl
      refine fac_nil fun xa wra hera hfra hcra holda hapa => ?_
      obtain ⟨(f0 : xa 0 = _), (f1 : xa 1 = _), (f2 : xa 2 = _), (f3 : xa 3 = _), (f4 : xa 4 = _), (f5 : xa 5 = _), (f6 : xa 6 = _), (f7 : xa 7 = _), (f8 : xa 8 = _), (f9 : xa 9 = _), (f10 : xa 10 = _), (f11 : xa 11 = _), (f12 : xa 12 = _), (f13 : xa 13 = _), (f14 : xa 14 = _), (f15 : xa 15 = _), (f16 : xa 16 = _), (f17 : xa 17 = _), (f18 : xa 18 = _), (f19 : xa 19 = _), (f20 : xa 20 = _), (f21 : xa 21 = _), (f22 : xa 22 = _), (f23 : xa 23 = _), (f24 : xa 24 = _), (f25 : xa 25 = _), -⟩ := hfra; (try dsimp only at f0 f1 f2 f3 f4 f5 f6 f7 f8 f9 f10 f11 f12 f13 f14 f15 f16 f17 f18 f19 f20 f21 f22 f23 f24 f25)
      change wpList _ _ _ _ (pT (pT (pT (pT (pT (pT (pT (pT (pT (pT (pT (pT (pT (pT (pT (pT (pT (pT (pT (pT (pT (pT (pT (pT (pT (pT _ 27 (xa 0)) 28 (xa 1)) 29 (xa 2)) 30 (xa 3)) 31 (xa 4)) 32 (xa 5)) 33 (xa 6)) 34 (xa 7)) 35 (xa 8)) 36 (xa 9)) 37 (xa 10)) 38 (xa 11)) 39 (xa 12)) 40 (xa 13)) 41 (xa 14)) 42 (xa 15)) 43 (xa 16)) 44 (xa 17)) 45 (xa 18)) 46 (xa 19)) 47 (xa 20)) 48 (xa 21)) 49 (xa 22)) 50 (xa 23)) 51 (xa 24)) 52 (xa 25)) _
      simp only [putsL, Nat.reduceAdd, List.drop_succ_cons, List.drop_zero, List.drop_nil, pT, Act.put, sIA, sCS, sCZ]
      try simp only [f0, f1, f2, f3, f4, f5, f6, f7, f8, f9, f10, f11, f12, f13, f14, f15, f16, f17, f18, f19, f20, f21, f22, f23, f24, f25]
      clear f0 f1 f2 f3 f4 f5 f6 f7 f8 f9 f10 f11 f12 f13 f14 f15 f16 f17 f18 f19 f20 f21 f22 f23 f24 f25; clear holda hapa; clear c0 c2 d0 d2
      go_wp2
      go_roundw
      case rel => exact ⟨m + 1, by omega, .inl hlt, by go_num, hz.succ (by rw [hv.out, hne]; simp), hE2.trans ((Ext.refl _).drew.trans hera)⟩
      case measure => simp [intOf]; omega
     ·by_cases hat : x.at_ < y.at_
      all_goals
       refine wp_region_facts [] [([],false,false),([],false,false),([0,1],false,false),([0,1,2],false,false),([0,1,2,3],false,false),([],false,false),([],false,false),([6],false,false),([5,6,7],false,false),([5,6,7,8],false,false),([5,6,7,8,9],false,false),([0,1,2,3,4,5,6,7,8,9,10],false,false),([0,1,2,3,4,5,6,7,8,9,10,11],false,false),([0,1,2,3,4,5,6,7,8,9,10,11,12],false,false),([0,1,2,3,4,5,6,7,8,9,10,11,12],false,false),([0,1,2,3,4,5,6,7,8,9,10,11,12,13,14],false,false),([0,1,2,3,4,5,6,7,8,9,10,11,12,13,14,15],false,false),([0,1,2,3,4,5,6,7,8,9,10,11,12,13,14,15,16],false,false),([0,1,2,3,4,5,6,7,8,9,10,11,12],false,false),([0,1,2,3,4,5,6,7,8,9,10,11,12],false,false),([0,1,2,3,4,5,6,7,8,9,10,11,12,19],false,false),([0,1,2,3,4,5,6,7,8,9,10,11,12,18,19,20],false,false),([0,1,2,3,4,5,6,7,8,9,10,11,12,18,19,20,21],false,false),([0,1,2,3,4,5,6,7,8,9,10,11,12,18,19,20,21,22],false,false),([0,1,2,3,4,5,6,7,8,9,10,11,12,13,14,15,16,17,18,19,20,21,22,23],false,false),([0,1,2,3,4,5,6,7,8,9,10,11,12,13,14,15,16,17,18,19,20,21,22,23,24],false,false)] (Ext) Ext (fun _ => True) (by kernel_rfl) (by kernel_rfl) Ext.refl (fun _ _ _ => Ext.trans) (fun _ _ h => h) (fun _ _ h => h.size) (fun _ _ h _ => h) trivial ?_
       dsimp only [List.length_cons, List.length_nil, List.drop_succ_cons, List.drop_zero, List.drop_nil]
       refine fq 0 rfl rfl rfl cK rfl rfl ?_; apply Exists.intro; constructor
       ·intro sv w' hw' hfa
        refine ⟨rfl, ?_⟩; simp only [putsL]; change qT _; simp only [qT, Act.put, sIA, sCS, sCZ]; simp [go_sem, quietTo, Ext.refl]; all_goals rfl
       refine fq 1 rfl rfl rfl cK rfl rfl ?_; apply Exists.intro; constructor
       ·intro sv w' hw' hfa
        refine ⟨rfl, ?_⟩; simp only [putsL]; change qT _; simp only [qT, Act.put, sIA, sCS, sCZ]; simp [go_sem, quietTo, Ext.refl]; all_goals rfl
       refine fq 2 rfl rfl rfl cK rfl rfl ?_; apply Exists.intro; constructor
       ·rintro sv w' hw' ⟨(f0 : sv 0 = _), (f1 : sv 1 = _), -⟩; (try dsimp only at f0 f1)
        refine ⟨rfl, ?_⟩; simp only [putsL]; change qT (pT (pT _ 28 (sv 1)) 27 (sv 0)); simp only [qT, pT, Act.put, sIA, sCS, sCZ]; simp [go_sem, quietTo, Ext.refl, ↓IntWalk.iteOmega, f0, f1, hmI]; (all_goals try simp (disch := omega) only [IntWalk.i64_in]); all_goals rfl
       refine fq 3 rfl rfl rfl cK rfl rfl ?_; apply Exists.intro; constructor
       ·rintro sv w' hw' ⟨_, _, (f2 : sv 2 = _), -⟩; (try dsimp only at f2)
        refine ⟨rfl, ?_⟩; simp only [putsL]; change qT (pT (pT (pT _ 29 (sv 2)) 28 (sv 1)) 27 (sv 0)); simp only [qT, pT, Act.put, sIA, sCS, sCZ]; simp [go_sem, quietTo, Ext.refl, f2]; all_goals rfl
       refine fq 4 rfl rfl rfl cK rfl rfl ?_; apply Exists.intro; constructor
       ·rintro sv w' hw' ⟨_, _, _, (f3 : sv 3 = _), -⟩; (try dsimp only at f3)
        obtain ⟨hc, hf, hz9⟩ := (hE2.drew.trans hw').walk; have x0 := (hc _ (off + m * 7) hb).trans c0
        refine ⟨rfl, ?_⟩; simp only [putsL]; change qT (pT (pT (pT (pT _ 30 (sv 3)) 29 (sv 2)) 28 (sv 1)) 27 (sv 0)); simp only [qT, pT, Act.put, sIA, sCS, sCZ]; simp [go_sem, quietTo, Ext.refl, ↓IntWalk.iteOmega, f3, x0]; (all_goals try simp (disch := omega) only [IntWalk.i64_in]); all_goals rfl
       refine fq 5 rfl rfl rfl cK rfl rfl ?_; apply Exists.intro; constructor
       ·intro sv w' hw' hfa
        refine ⟨rfl, ?_⟩; simp only [putsL]; change qT _; simp only [qT, Act.put, sIA, sCS, sCZ]; simp [go_sem, quietTo, Ext.refl]; all_goals rfl
       refine fq 6 rfl rfl rfl cK rfl rfl ?_; apply Exists.intro; constructor
       ·intro sv w' hw' hfa
        refine ⟨rfl, ?_⟩; simp only [putsL]; change qT _; simp only [qT, Act.put, sIA, sCS, sCZ]; simp [go_sem, quietTo, Ext.refl]; all_goals rfl
       refine fq 7 rfl rfl rfl cK rfl rfl ?_; apply Exists.intro; constructor
       ·rintro sv w' hw' ⟨(f6 : sv 6 = _), -⟩; (try dsimp only at f6)
        refine ⟨rfl, ?_⟩; simp only [putsL]; change qT (pT _ 33 (sv 6)); simp only [qT, pT, Act.put, sIA, sCS, sCZ]; simp [go_sem, quietTo, Ext.refl, ↓IntWalk.iteOmega, f6, hwj]; (all_goals try simp (disch := omega) only [IntWalk.i64_in]); all_goals rfl
       refine fq 8 rfl rfl rfl cK rfl rfl ?_; apply Exists.intro; constructor
       ·rintro sv w' hw' ⟨(f5 : sv 5 = _), _, (f7 : sv 7 = _), -⟩; (try dsimp only at f5 f7)
        refine ⟨rfl, ?_⟩; simp only [putsL]; change qT (pT (pT (pT _ 34 (sv 7)) 33 (sv 6)) 32 (sv 5)); simp only [qT, pT, Act.put, sIA, sCS, sCZ]; simp [go_sem, quietTo, Ext.refl, ↓IntWalk.iteOmega, f5, f7, hjI]; (all_goals try simp (disch := omega) only [IntWalk.i64_in]); all_goals rfl
       refine fq 9 rfl rfl rfl cK rfl rfl ?_; apply Exists.intro; constructor
       ·rintro sv w' hw' ⟨_, _, _, (f8 : sv 8 = _), -⟩; (try dsimp only at f8)
        refine ⟨rfl, ?_⟩; simp only [putsL]; change qT (pT (pT (pT (pT _ 35 (sv 8)) 34 (sv 7)) 33 (sv 6)) 32 (sv 5)); simp only [qT, pT, Act.put, sIA, sCS, sCZ]; simp [go_sem, quietTo, Ext.refl, f8]; all_goals rfl
       refine fq 10 rfl rfl rfl cK rfl rfl ?_; apply Exists.intro; constructor
       ·rintro sv w' hw' ⟨_, _, _, _, (f9 : sv 9 = _), -⟩; (try dsimp only at f9)
        obtain ⟨hc, hf, hz9⟩ := (hE2.drew.trans hw').walk; have y0 := (hc _ (off + j * 7) hb).trans d0
        refine ⟨rfl, ?_⟩; simp only [putsL]; change qT (pT (pT (pT (pT (pT _ 36 (sv 9)) 35 (sv 8)) 34 (sv 7)) 33 (sv 6)) 32 (sv 5)); simp only [qT, pT, Act.put, sIA, sCS, sCZ]; simp [go_sem, quietTo, Ext.refl, ↓IntWalk.iteOmega, f9, y0]; (all_goals try simp (disch := omega) only [IntWalk.i64_in]); all_goals rfl
       refine fq 11 rfl rfl rfl cK rfl rfl ?_; apply Exists.intro; constructor
       ·rintro sv w' hw' ⟨_, _, _, _, (f4 : sv 4 = _), _, _, _, _, _, (f10 : sv 10 = _), -⟩; (try dsimp only at f4 f10)
        refine ⟨rfl, ?_⟩; simp only [putsL]; change qT (pT (pT (pT (pT (pT (pT (pT (pT (pT (pT (pT _ 37 (sv 10)) 36 (sv 9)) 35 (sv 8)) 34 (sv 7)) 33 (sv 6)) 32 (sv 5)) 31 (sv 4)) 30 (sv 3)) 29 (sv 2)) 28 (sv 1)) 27 (sv 0)); simp only [qT, pT, Act.put, sIA, sCS, sCZ]; simp [go_sem, quietTo, Ext.refl, ↓IntWalk.iteOmega, f4, f10, hne]; (all_goals try simp (disch := omega) only [IntWalk.i64_in]); all_goals rfl
       refine fq 12 rfl rfl rfl cK rfl rfl ?_; apply Exists.intro; constructor
       ·rintro sv w' hw' ⟨_, _, _, _, _, _, _, _, _, _, _, (f11 : sv 11 = _), -⟩; (try dsimp only at f11)
        refine ⟨rfl, ?_⟩; simp only [putsL]; change qT (pT (pT (pT (pT (pT (pT (pT (pT (pT (pT (pT (pT _ 38 (sv 11)) 37 (sv 10)) 36 (sv 9)) 35 (sv 8)) 34 (sv 7)) 33 (sv 6)) 32 (sv 5)) 31 (sv 4)) 30 (sv 3)) 29 (sv 2)) 28 (sv 1)) 27 (sv 0)); simp only [qT, pT, Act.put, sIA, sCS, sCZ]; simp [go_sem, quietTo, Ext.refl, f11]; all_goals rfl
       refine fq 13 rfl rfl rfl cK rfl rfl ?_; apply Exists.intro; constructor
       ·rintro sv w' hw' ⟨_, _, _, _, _, _, _, _, _, _, _, _, (f12 : sv 12 = _), -⟩; (try dsimp only at f12)
        refine ⟨by simp [Region.wanted, yielded, putsL, Act.put, f12], ?_⟩; simp only [putsL]; change qT (pT (pT (pT (pT (pT (pT (pT (pT (pT (pT (pT (pT (pT _ 39 (sv 12)) 38 (sv 11)) 37 (sv 10)) 36 (sv 9)) 35 (sv 8)) 34 (sv 7)) 33 (sv 6)) 32 (sv 5)) 31 (sv 4)) 30 (sv 3)) 29 (sv 2)) 28 (sv 1)) 27 (sv 0)); simp only [qT, pT, Act.put, sIA, sCS, sCZ]; simp [go_sem, quietTo, Ext.refl, f12]; all_goals rfl
       refine fq 14 rfl rfl rfl cK rfl rfl ?_; apply Exists.intro; constructor
       ·rintro sv w' hw' ⟨_, _, _, _, _, _, _, _, _, _, _, _, (f12 : sv 12 = _), -⟩; (try dsimp only at f12)
        refine ⟨by simp [Region.wanted, yielded, putsL, Act.put, f12], ?_⟩; simp only [putsL]; change qT (pT (pT (pT (pT (pT (pT (pT (pT (pT (pT (pT (pT (pT _ 39 (sv 12)) 38 (sv 11)) 37 (sv 10)) 36 (sv 9)) 35 (sv 8)) 34 (sv 7)) 33 (sv 6)) 32 (sv 5)) 31 (sv 4)) 30 (sv 3)) 29 (sv 2)) 28 (sv 1)) 27 (sv 0)); simp only [qT, pT, Act.put, sIA, sCS, sCZ]; simp [go_sem, quietTo, Ext.refl, f12]; all_goals rfl
       refine fq 15 rfl rfl rfl cK rfl rfl ?_; apply Exists.intro; constructor
       ·rintro sv w' hw' ⟨_, _, _, _, _, _, _, _, _, _, _, _, (f12 : sv 12 = _), (f13 : sv 13 = _), (f14 : sv 14 = _), -⟩; (try dsimp only at f12 f13 f14)
        refine ⟨by simp [Region.wanted, yielded, putsL, Act.put, f12, f13, f14], ?_⟩; simp only [putsL]; change qT (pT (pT (pT (pT (pT (pT (pT (pT (pT (pT (pT (pT (pT (pT (pT _ 41 (sv 14)) 40 (sv 13)) 39 (sv 12)) 38 (sv 11)) 37 (sv 10)) 36 (sv 9)) 35 (sv 8)) 34 (sv 7)) 33 (sv 6)) 32 (sv 5)) 31 (sv 4)) 30 (sv 3)) 29 (sv 2)) 28 (sv 1)) 27 (sv 0)); simp only [qT, pT, Act.put, sIA, sCS, sCZ]; simp [go_sem, quietTo, Ext.refl, ↓IntWalk.iteOmega, f12, f13, f14, hmI]; (all_goals try simp (disch := omega) only [IntWalk.i64_in]); all_goals rfl
       refine fq 16 rfl rfl rfl cK rfl rfl ?_; apply Exists.intro; constructor
       ·rintro sv w' hw' ⟨_, _, _, _, _, _, _, _, _, _, _, _, (f12 : sv 12 = _), _, _, (f15 : sv 15 = _), -⟩; (try dsimp only at f12 f15)
        refine ⟨by simp [Region.wanted, yielded, putsL, Act.put, f12, f15], ?_⟩; simp only [putsL]; change qT (pT (pT (pT (pT (pT (pT (pT (pT (pT (pT (pT (pT (pT (pT (pT (pT _ 42 (sv 15)) 41 (sv 14)) 40 (sv 13)) 39 (sv 12)) 38 (sv 11)) 37 (sv 10)) 36 (sv 9)) 35 (sv 8)) 34 (sv 7)) 33 (sv 6)) 32 (sv 5)) 31 (sv 4)) 30 (sv 3)) 29 (sv 2)) 28 (sv 1)) 27 (sv 0)); simp only [qT, pT, Act.put, sIA, sCS, sCZ]; simp [go_sem, quietTo, Ext.refl, f12, f15]; all_goals rfl
       refine fq 17 rfl rfl rfl cK rfl rfl ?_; apply Exists.intro; constructor
       ·rintro sv w' hw' ⟨_, _, _, _, _, _, _, _, _, _, _, _, (f12 : sv 12 = _), _, _, _, (f16 : sv 16 = _), -⟩; (try dsimp only at f12 f16)
        obtain ⟨hc, hf, hz9⟩ := (hE2.drew.trans hw').walk; have x2 := (hc _ (off + m * 7 + 2) hb).trans c2
        refine ⟨by simp [Region.wanted, yielded, putsL, Act.put, f12, f16], ?_⟩; simp only [putsL]; change qT (pT (pT (pT (pT (pT (pT (pT (pT (pT (pT (pT (pT (pT (pT (pT (pT (pT _ 43 (sv 16)) 42 (sv 15)) 41 (sv 14)) 40 (sv 13)) 39 (sv 12)) 38 (sv 11)) 37 (sv 10)) 36 (sv 9)) 35 (sv 8)) 34 (sv 7)) 33 (sv 6)) 32 (sv 5)) 31 (sv 4)) 30 (sv 3)) 29 (sv 2)) 28 (sv 1)) 27 (sv 0)); simp only [qT, pT, Act.put, sIA, sCS, sCZ]; simp [go_sem, quietTo, Ext.refl, ↓IntWalk.iteOmega, f12, f16, x2]; (all_goals try simp (disch := omega) only [IntWalk.i64_in]); all_goals rfl
       refine fq 18 rfl rfl rfl cK rfl rfl ?_; apply Exists.intro; constructor
       ·rintro sv w' hw' ⟨_, _, _, _, _, _, _, _, _, _, _, _, (f12 : sv 12 = _), -⟩; (try dsimp only at f12)
        refine ⟨by simp [Region.wanted, yielded, putsL, Act.put, f12], ?_⟩; simp only [putsL]; change qT (pT (pT (pT (pT (pT (pT (pT (pT (pT (pT (pT (pT (pT _ 39 (sv 12)) 38 (sv 11)) 37 (sv 10)) 36 (sv 9)) 35 (sv 8)) 34 (sv 7)) 33 (sv 6)) 32 (sv 5)) 31 (sv 4)) 30 (sv 3)) 29 (sv 2)) 28 (sv 1)) 27 (sv 0)); simp only [qT, pT, Act.put, sIA, sCS, sCZ]; simp [go_sem, quietTo, Ext.refl, f12]; all_goals rfl
       refine fq 19 rfl rfl rfl cK rfl rfl ?_; apply Exists.intro; constructor
       ·rintro sv w' hw' ⟨_, _, _, _, _, _, _, _, _, _, _, _, (f12 : sv 12 = _), -⟩; (try dsimp only at f12)
        refine ⟨by simp [Region.wanted, yielded, putsL, Act.put, f12], ?_⟩; simp only [putsL]; change qT (pT (pT (pT (pT (pT (pT (pT (pT (pT (pT (pT (pT (pT _ 39 (sv 12)) 38 (sv 11)) 37 (sv 10)) 36 (sv 9)) 35 (sv 8)) 34 (sv 7)) 33 (sv 6)) 32 (sv 5)) 31 (sv 4)) 30 (sv 3)) 29 (sv 2)) 28 (sv 1)) 27 (sv 0)); simp only [qT, pT, Act.put, sIA, sCS, sCZ]; simp [go_sem, quietTo, Ext.refl, f12]; all_goals rfl
       refine fq 20 rfl rfl rfl cK rfl rfl ?_; apply Exists.intro; constructor
       ·rintro sv w' hw' ⟨_, _, _, _, _, _, _, _, _, _, _, _, (f12 : sv 12 = _), (f19 : sv 19 = _), -⟩; (try dsimp only at f12 f19)
        refine ⟨by simp [Region.wanted, yielded, putsL, Act.put, f12, f19], ?_⟩; simp only [putsL]; change qT (pT (pT (pT (pT (pT (pT (pT (pT (pT (pT (pT (pT (pT (pT _ 46 (sv 19)) 39 (sv 12)) 38 (sv 11)) 37 (sv 10)) 36 (sv 9)) 35 (sv 8)) 34 (sv 7)) 33 (sv 6)) 32 (sv 5)) 31 (sv 4)) 30 (sv 3)) 29 (sv 2)) 28 (sv 1)) 27 (sv 0)); simp only [qT, pT, Act.put, sIA, sCS, sCZ]; simp [go_sem, quietTo, Ext.refl, ↓IntWalk.iteOmega, f12, f19, hwj]; (all_goals try simp (disch := omega) only [IntWalk.i64_in]); all_goals rfl
       refine fq 21 rfl rfl rfl cK rfl rfl ?_; apply Exists.intro; constructor
       ·rintro sv w' hw' ⟨_, _, _, _, _, _, _, _, _, _, _, _, (f12 : sv 12 = _), (f18 : sv 18 = _), _, (f20 : sv 20 = _), -⟩; (try dsimp only at f12 f18 f20)
        refine ⟨by simp [Region.wanted, yielded, putsL, Act.put, f12, f18, f20], ?_⟩; simp only [putsL]; change qT (pT (pT (pT (pT (pT (pT (pT (pT (pT (pT (pT (pT (pT (pT (pT (pT _ 47 (sv 20)) 46 (sv 19)) 45 (sv 18)) 39 (sv 12)) 38 (sv 11)) 37 (sv 10)) 36 (sv 9)) 35 (sv 8)) 34 (sv 7)) 33 (sv 6)) 32 (sv 5)) 31 (sv 4)) 30 (sv 3)) 29 (sv 2)) 28 (sv 1)) 27 (sv 0)); simp only [qT, pT, Act.put, sIA, sCS, sCZ]; simp [go_sem, quietTo, Ext.refl, ↓IntWalk.iteOmega, f12, f18, f20, hjI]; (all_goals try simp (disch := omega) only [IntWalk.i64_in]); all_goals rfl
       refine fq 22 rfl rfl rfl cK rfl rfl ?_; apply Exists.intro; constructor
       ·rintro sv w' hw' ⟨_, _, _, _, _, _, _, _, _, _, _, _, (f12 : sv 12 = _), _, _, _, (f21 : sv 21 = _), -⟩; (try dsimp only at f12 f21)
        refine ⟨by simp [Region.wanted, yielded, putsL, Act.put, f12, f21], ?_⟩; simp only [putsL]; change qT (pT (pT (pT (pT (pT (pT (pT (pT (pT (pT (pT (pT (pT (pT (pT (pT (pT _ 48 (sv 21)) 47 (sv 20)) 46 (sv 19)) 45 (sv 18)) 39 (sv 12)) 38 (sv 11)) 37 (sv 10)) 36 (sv 9)) 35 (sv 8)) 34 (sv 7)) 33 (sv 6)) 32 (sv 5)) 31 (sv 4)) 30 (sv 3)) 29 (sv 2)) 28 (sv 1)) 27 (sv 0)); simp only [qT, pT, Act.put, sIA, sCS, sCZ]; simp [go_sem, quietTo, Ext.refl, f12, f21]; all_goals rfl
       refine fq 23 rfl rfl rfl cK rfl rfl ?_; apply Exists.intro; constructor
       ·rintro sv w' hw' ⟨_, _, _, _, _, _, _, _, _, _, _, _, (f12 : sv 12 = _), _, _, _, _, (f22 : sv 22 = _), -⟩; (try dsimp only at f12 f22)
        obtain ⟨hc, hf, hz9⟩ := (hE2.drew.trans hw').walk; have y2 := (hc _ (off + j * 7 + 2) hb).trans d2
        refine ⟨by simp [Region.wanted, yielded, putsL, Act.put, f12, f22], ?_⟩; simp only [putsL]; change qT (pT (pT (pT (pT (pT (pT (pT (pT (pT (pT (pT (pT (pT (pT (pT (pT (pT (pT _ 49 (sv 22)) 48 (sv 21)) 47 (sv 20)) 46 (sv 19)) 45 (sv 18)) 39 (sv 12)) 38 (sv 11)) 37 (sv 10)) 36 (sv 9)) 35 (sv 8)) 34 (sv 7)) 33 (sv 6)) 32 (sv 5)) 31 (sv 4)) 30 (sv 3)) 29 (sv 2)) 28 (sv 1)) 27 (sv 0)); simp only [qT, pT, Act.put, sIA, sCS, sCZ]; simp [go_sem, quietTo, Ext.refl, ↓IntWalk.iteOmega, f12, f22, y2]; (all_goals try simp (disch := omega) only [IntWalk.i64_in]); all_goals rfl
       refine fq 24 rfl rfl rfl cK rfl rfl ?_; apply Exists.intro; constructor
       ·rintro sv w' hw' ⟨_, _, _, _, _, _, _, _, _, _, _, _, (f12 : sv 12 = _), _, _, _, _, (f17 : sv 17 = _), _, _, _, _, _, (f23 : sv 23 = _), -⟩; (try dsimp only at f12 f17 f23)
        refine ⟨by simp [Region.wanted, yielded, putsL, Act.put, f12, f17, f23], ?_⟩; simp only [putsL]; change qT (pT (pT (pT (pT (pT (pT (pT (pT (pT (pT (pT (pT (pT (pT (pT (pT (pT (pT (pT (pT (pT (pT (pT (pT _ 50 (sv 23)) 49 (sv 22)) 48 (sv 21)) 47 (sv 20)) 46 (sv 19)) 45 (sv 18)) 44 (sv 17)) 43 (sv 16)) 42 (sv 15)) 41 (sv 14)) 40 (sv 13)) 39 (sv 12)) 38 (sv 11)) 37 (sv 10)) 36 (sv 9)) 35 (sv 8)) 34 (sv 7)) 33 (sv 6)) 32 (sv 5)) 31 (sv 4)) 30 (sv 3)) 29 (sv 2)) 28 (sv 1)) 27 (sv 0)); simp only [qT, pT, Act.put, sIA, sCS, sCZ]; simp [go_sem, quietTo, Ext.refl, ↓IntWalk.iteOmega, f12, f17, f23, hat]; (all_goals try simp (disch := omega) only [IntWalk.i64_in]); all_goals rfl
       refine fq 25 rfl rfl rfl cK rfl rfl ?_; apply Exists.intro; constructor
       ·rintro sv w' hw' ⟨_, _, _, _, _, _, _, _, _, _, _, _, (f12 : sv 12 = _), _, _, _, _, _, _, _, _, _, _, _, (f24 : sv 24 = _), -⟩; (try dsimp only at f12 f24)
        refine ⟨rfl, ?_⟩; simp only [putsL]; change qT (pT (pT (pT (pT (pT (pT (pT (pT (pT (pT (pT (pT (pT (pT (pT (pT (pT (pT (pT (pT (pT (pT (pT (pT (pT _ 51 (sv 24)) 50 (sv 23)) 49 (sv 22)) 48 (sv 21)) 47 (sv 20)) 46 (sv 19)) 45 (sv 18)) 44 (sv 17)) 43 (sv 16)) 42 (sv 15)) 41 (sv 14)) 40 (sv 13)) 39 (sv 12)) 38 (sv 11)) 37 (sv 10)) 36 (sv 9)) 35 (sv 8)) 34 (sv 7)) 33 (sv 6)) 32 (sv 5)) 31 (sv 4)) 30 (sv 3)) 29 (sv 2)) 28 (sv 1)) 27 (sv 0)); simp only [qT, pT, Act.put, sIA, sCS, sCZ]; simp [go_sem, quietTo, Ext.refl, ↓IntWalk.iteOmega, f12, f24]; (all_goals try simp (disch := omega) only [IntWalk.i64_in]); all_goals rfl
       refine fac_nil fun xb wrb herb hfrb hcrb holdb hapb => ?_
       obtain ⟨(f0 : xb 0 = _), (f1 : xb 1 = _), (f2 : xb 2 = _), (f3 : xb 3 = _), (f4 : xb 4 = _), (f5 : xb 5 = _), (f6 : xb 6 = _), (f7 : xb 7 = _), (f8 : xb 8 = _), (f9 : xb 9 = _), (f10 : xb 10 = _), (f11 : xb 11 = _), (f12 : xb 12 = _), (f13 : xb 13 = _), (f14 : xb 14 = _), (f15 : xb 15 = _), (f16 : xb 16 = _), (f17 : xb 17 = _), (f18 : xb 18 = _), (f19 : xb 19 = _), (f20 : xb 20 = _), (f21 : xb 21 = _), (f22 : xb 22 = _), (f23 : xb 23 = _), (f24 : xb 24 = _), (f25 : xb 25 = _), -⟩ := hfrb; (try dsimp only at f0 f1 f2 f3 f4 f5 f6 f7 f8 f9 f10 f11 f12 f13 f14 f15 f16 f17 f18 f19 f20 f21 f22 f23 f24 f25)
       change wpList _ _ _ _ (pT (pT (pT (pT (pT (pT (pT (pT (pT (pT (pT (pT (pT (pT (pT (pT (pT (pT (pT (pT (pT (pT (pT (pT (pT (pT _ 27 (xb 0)) 28 (xb 1)) 29 (xb 2)) 30 (xb 3)) 31 (xb 4)) 32 (xb 5)) 33 (xb 6)) 34 (xb 7)) 35 (xb 8)) 36 (xb 9)) 37 (xb 10)) 38 (xb 11)) 39 (xb 12)) 40 (xb 13)) 41 (xb 14)) 42 (xb 15)) 43 (xb 16)) 44 (xb 17)) 45 (xb 18)) 46 (xb 19)) 47 (xb 20)) 48 (xb 21)) 49 (xb 22)) 50 (xb 23)) 51 (xb 24)) 52 (xb 25)) _
       simp only [putsL, Nat.reduceAdd, List.drop_succ_cons, List.drop_zero, List.drop_nil, pT, Act.put, sIA, sCS, sCZ]
       try simp only [f0, f1, f2, f3, f4, f5, f6, f7, f8, f9, f10, f11, f12, f13, f14, f15, f16, f17, f18, f19, f20, f21, f22, f23, f24, f25]
       clear f0 f1 f2 f3 f4 f5 f6 f7 f8 f9 f10 f11 f12 f13 f14 f15 f16 f17 f18 f19 f20 f21 f22 f23 f24 f25; clear holdb hapb; clear c0 c2 d0 d2
       go_wp2
       first
        | (go_ret
           exact ⟨ret_int (by rw [hF.out, if_neg h12, if_pos hsc.out]; exact (scan_late hlt (by rw [hv.out, hne]; simp [hat]; omega)).symm), hE2.trans ((Ext.refl _).drew.trans herb)⟩)
        | (go_roundw
           case rel => exact ⟨m + 1, by omega, .inl hlt, by go_num, hz.succ (by rw [hv.out, hne]; simp [hat]), hE2.trans ((Ext.refl _).drew.trans herb)⟩
           case measure => simp [intOf]; omega)
    ·go_wp2
     go_ret
     have h0 : Zeros (lateS xs) k := fun i hi => hz i (by omega)
     exact ⟨ret_int (by rw [hF.out, if_neg h12, if_pos hsc.out]; exact (scan_zero h0).symm), hE2⟩
set_option maxRecDepth 100000 in
set_option maxHeartbeats 6400000 in
theorem slipsFault_any (p : Option Addr) (n c : Nat) (xs : List SlipV) (w : World) (h : Sl 7 slipC w p n xs) (hs : ∀ x ∈ xs, x.Small) (hn : n ≤ 1000000) :
 Calls Tryz.prog 59 #[.slice p n c] w fun e w' => e = .returned (.int .i64 (slipsF xs)) ∧ Ext w w' := by
 have hl := h.1
 have hF : slipsF xs = if 3000 < n then 2 else if scanF n (chkSli xs) = 0 then scanF n (lateS xs) else scanF n (chkSli xs) := by unfold slipsF; rw [hl]
 replace hF := Lib.hid hF
 by_cases h12 : 3000 < n
 ·clear h hl hs
  go_enter Tryz.func59, Tryz.ntmps59
  go_wp2
  go_ret
  exact ⟨ret_int (by rw [hF.out, if_pos h12]), Ext.refl _⟩
 have hd : decide (3000 < (n : Int)) = false := by simp; omega
 replace hl := Lib.hid hl
 go_enter Tryz.func59, Tryz.ntmps59
 go_wp2
 go_loopw [3,12] (fun v3 i wr => ∃ (k : Nat) (fl : Bool), k ≤ n ∧ i = .int .i64 k ∧ v3 = .bool fl ∧ Zeros (chkSli xs) k ∧ (fl = false → Zeros (lateS xs) k) ∧ (fl = true → scanF n (lateS xs) = 7) ∧ Ext w wr) (fun _ i _ => n - (intOf i).toNat)
 case atStart => exact ⟨0, false, Nat.zero_le _, rfl, rfl, (fun j hj => by omega), (fun _ j hj => by omega), (fun e => by cases e), Ext.refl _⟩
 case round =>
  obtain ⟨k, fl, hk, rfl, rfl, hz, hf0, hf1, he⟩ := hrel
  by_cases hlt : k < n
  ·obtain ⟨b, off, rfl, hb, hE⟩ := h.2.2 (by omega)
   obtain ⟨x, hx⟩ := getD_some hl.out hlt
   have hbw := Nat.lt_of_lt_of_le hb he.size
   obtain ⟨c0, c1, c2, c3, c4, c5, c6⟩ := (hE.ext he hb).slip hx
   have hxs := hs x (List.mem_of_getElem? hx)
   have hv : chkSli xs k = if slipE x = 0 then (if 0 < k && decide (0 ≤ sliO (atL default xs (k - 1)) x) then 7 else 0) else slipE x := by unfold chkSli; rw [atL_of hx]
   have hkI : (k : Int) < n := by omega
   have hX := Lib.hid (Blk.new' (w := wr) (t := 101) (cs := #[.string x.by_, .int .i64 x.no, .int .i64 x.at_, .int .i64 x.kind, .string x.piece, .int .i64 x.copy, .string x.singer]) rfl)
   have hk9 : Ext wr (wr.alloc (.cells #[.string x.by_, .int .i64 x.no, .int .i64 x.at_, .int .i64 x.kind, .string x.piece, .int .i64 x.copy, .string x.singer] 101)) := (Ext.refl _).alloc _
   have hvk := slipFaultR_any x (wr.alloc (.cells #[.string x.by_, .int .i64 x.no, .int .i64 x.at_, .int .i64 x.kind, .string x.piece, .int .i64 x.copy, .string x.singer] 101)) hxs
   have hprev : ∀ j y, k = j + 1 → xs[j]? = some y → w.cell? ⟨b, off + j * 7, none⟩ = some (.string y.by_) ∧ w.cell? ⟨b, off + j * 7 + 1, none⟩ = some (.int .i64 y.no) ∧ w.cell? ⟨b, off + j * 7 + 2, none⟩ = some (.int .i64 y.at_) ∧ w.cell? ⟨b, off + j * 7 + 3, none⟩ = some (.int .i64 y.kind) ∧ w.cell? ⟨b, off + j * 7 + 4, none⟩ = some (.string y.piece) ∧ w.cell? ⟨b, off + j * 7 + 5, none⟩ = some (.int .i64 y.copy) ∧ w.cell? ⟨b, off + j * 7 + 6, none⟩ = some (.string y.singer) := fun j y _ hy => hE.slip hy
   have hl0 : k = 0 → lateS xs k = 0 := fun e => by rw [e]; rfl
   have hl1 : ∀ j y, k = j + 1 → xs[j]? = some y → lateS xs k = if ((x.by_.toList == y.by_.toList) && decide (x.at_ < y.at_)) = true then 7 else 0 := fun j y e hy => by
    unfold lateS
    rw [atL_of hx, show k - 1 = j by omega, atL_of hy, e]
    simp
   replace hl0 := Lib.hid hl0; replace hl1 := Lib.hid hl1; replace hx := Lib.hid hx; replace hv := Lib.hid hv; replace hprev := Lib.hid hprev; replace hf0 := Lib.hid hf0; replace hf1 := Lib.hid hf1; clear hE hxs
   by_cases hf : slipE x = 0
   rotate_left
   ·have hsc : slipE x = scanF n (chkSli xs) := scan_is hz hlt (by rw [hv.out, if_neg hf]) hf
    have hsc2 : scanF n (chkSli xs) ≠ 0 := hsc ▸ hf
    generalize slipE x = f at *
    replace hvk := Lib.hid hvk; replace hsc := Lib.hid hsc
    go_wp2_with (go_at_call 114; (with_reducible refine Calls.mono hvk.out ?_); rintro e w1 ⟨rfl, hb1⟩)
    go_ret
    exact ⟨ret_int (by rw [hF.out, if_neg h12, if_neg hsc2, hsc.out]), (he.trans hk9).trans hb1⟩
   rw [hf] at hvk
   replace hf := Lib.hid hf; replace hvk := Lib.hid hvk
   rcases Nat.eq_zero_or_pos k with hk0 | hk0
   ·subst hk0
    simp only [Nat.zero_mul, Nat.add_zero] at c0 c1 c2 c3 c4 c5 c6
    go_wp2_with (go_at_call 114; (with_reducible refine Calls.mono hvk.out ?_); rintro e w1 ⟨rfl, hb1⟩)
    go_roundw
    case rel => exact ⟨1, fl, by omega, rfl, rfl, hz.succ (by rw [hv.out, hf.out]; rfl), fun e => (hf0.out e).succ (hl0.out (by simp)), hf1.out, (he.trans hk9).trans hb1⟩
    case measure => simp [intOf]; omega
   ·obtain ⟨j, hj⟩ : ∃ j, k = j + 1 := ⟨k - 1, by omega⟩
    obtain ⟨y, hy⟩ := getD_some hl.out (show j < n by omega)
    obtain ⟨d0, d1, d2, d3, d4, d5, d6⟩ := hprev.out j y hj hy
    have hat : atL default xs (k - 1) = y := by rw [show k - 1 = j by omega]; exact atL_of hy
    have hlk := hl1.out j y hj hy
    have hv' := hv.out
    clear hv
    rw [hat] at hv'
    have hv := Lib.hid hv'
    clear hv'; replace hlk := Lib.hid hlk
    have hwj : IntKind.i64.wrap ((k : Int) - 1) = j := by rw [show (k : Int) - 1 = j by omega]; exact IntWalk.i64_in _ (by omega)
    have hjI : (j : Int) < n := by omega
    have hkp : 0 < (k : Int) := by omega
    replace hj := Lib.hid hj; clear hat hy hprev hl0 hl1 hx
    go_upto_region 11 with (go_at_call 114; (with_reducible refine Calls.mono hvk.out ?_); rintro e w1 ⟨rfl, hb1⟩)
    have hX1 := hX.out.ext hb1
    have hEw := (he.trans hk9).trans hb1
    have hEr := hk9.trans hb1
    clear c0 c1 c2 c3 c4 c5 c6 hX hvk hk9 hb1
    replace hbw := hb
    rcases sliO_three y x with hlc | hlc | hlc
    rotate_left
    ·skip
     refine wp_region_facts [] [([],false,false),([],false,false),([1],false,false),([0,1,2],false,false),([0,1,2,3],false,false),([],false,false),([0,1,2,3,4,5],false,false),([0,1,2,3,4,5,6],false,false)] (Ext) Ext (fun _ => True) (by kernel_rfl) (by kernel_rfl) Ext.refl (fun _ _ _ => Ext.trans) (fun _ _ h => h) (fun _ _ h => h.size) (fun _ _ h _ => h) trivial ?_
     dsimp only [List.length_cons, List.length_nil, List.drop_succ_cons, List.drop_zero, List.drop_nil]
     refine fq 0 rfl rfl rfl cK rfl rfl ?_; apply Exists.intro; constructor
     ·intro sv w' hw' hfa
      refine ⟨rfl, ?_⟩; simp only [putsL]; change qT _; simp only [qT, Act.put, sIA, sCS, sCZ]; simp [go_sem, quietTo, Ext.refl]; all_goals rfl
     refine fq 1 rfl rfl rfl cK rfl rfl ?_; apply Exists.intro; constructor
     ·intro sv w' hw' hfa
      refine ⟨rfl, ?_⟩; simp only [putsL]; change qT _; simp only [qT, Act.put, sIA, sCS, sCZ]; simp [go_sem, quietTo, Ext.refl]; all_goals rfl
     refine fq 2 rfl rfl rfl cK rfl rfl ?_; apply Exists.intro; constructor
     ·rintro sv w' hw' ⟨(f1 : sv 1 = _), -⟩; (try dsimp only at f1)
      refine ⟨rfl, ?_⟩; simp only [putsL]; change qT (pT _ 25 (sv 1)); simp only [qT, pT, Act.put, sIA, sCS, sCZ]; simp [go_sem, quietTo, Ext.refl, ↓IntWalk.iteOmega, f1, hwj]; (all_goals try simp (disch := omega) only [IntWalk.i64_in]); all_goals rfl
     refine fq 3 rfl rfl rfl cK rfl rfl ?_; apply Exists.intro; constructor
     ·rintro sv w' hw' ⟨(f0 : sv 0 = _), _, (f2 : sv 2 = _), -⟩; (try dsimp only at f0 f2)
      refine ⟨rfl, ?_⟩; simp only [putsL]; change qT (pT (pT (pT _ 26 (sv 2)) 25 (sv 1)) 24 (sv 0)); simp only [qT, pT, Act.put, sIA, sCS, sCZ]; simp [go_sem, quietTo, Ext.refl, ↓IntWalk.iteOmega, f0, f2, hjI]; (all_goals try simp (disch := omega) only [IntWalk.i64_in]); all_goals rfl
     refine fq 4 rfl rfl rfl cK rfl rfl ?_; apply Exists.intro; constructor
     ·rintro sv w' hw' ⟨_, _, _, (f3 : sv 3 = _), -⟩; (try dsimp only at f3)
      obtain ⟨hc, hf, hz9⟩ := (hEw.drew.trans hw').walk; have y0 := (hc _ (off + j * 7) hbw).trans d0; have y1 := (hc _ (off + j * 7 + 1) hbw).trans d1; have y2 := (hc _ (off + j * 7 + 2) hbw).trans d2; have y3 := (hc _ (off + j * 7 + 3) hbw).trans d3; have y4 := (hc _ (off + j * 7 + 4) hbw).trans d4; have y5 := (hc _ (off + j * 7 + 5) hbw).trans d5; have y6 := (hc _ (off + j * 7 + 6) hbw).trans d6
      refine ⟨rfl, ?_⟩; simp only [putsL]; change qT (pT (pT (pT (pT _ 27 (sv 3)) 26 (sv 2)) 25 (sv 1)) 24 (sv 0)); simp only [qT, pT, Act.put, sIA, sCS, sCZ]; simp [go_sem, quietTo, Ext.refl, ↓IntWalk.iteOmega, f3, y0, y1, y2, y3, y4, y5, y6]; (all_goals try simp (disch := omega) only [IntWalk.i64_in]); all_goals rfl
     refine fq 5 rfl rfl rfl cK rfl rfl ?_; apply Exists.intro; constructor
     ·intro sv w' hw' hfa
      obtain ⟨hc2, hf2, hz8⟩ := ((Ext.refl _).drew.trans hw').walk; have x0 := (hc2 _ 0 hX1.lt).trans (hX1.cell 0); have x1 := (hc2 _ 1 hX1.lt).trans (hX1.cell 1); have x2 := (hc2 _ 2 hX1.lt).trans (hX1.cell 2); have x3 := (hc2 _ 3 hX1.lt).trans (hX1.cell 3); have x4 := (hc2 _ 4 hX1.lt).trans (hX1.cell 4); have x5 := (hc2 _ 5 hX1.lt).trans (hX1.cell 5); have x6 := (hc2 _ 6 hX1.lt).trans (hX1.cell 6)
      refine ⟨rfl, ?_⟩; simp only [putsL]; change qT _; simp only [qT, Act.put, sIA, sCS, sCZ]; simp [go_sem, quietTo, Ext.refl, ↓IntWalk.iteOmega, x0, x1, x2, x3, x4, x5, x6]; (all_goals try simp (disch := omega) only [IntWalk.i64_in]); all_goals rfl
     refine fq 6 rfl rfl rfl cK rfl rfl ?_; apply Exists.intro; constructor
     ·rintro sv w' hw' ⟨(f0 : sv 0 = _), (f1 : sv 1 = _), (f2 : sv 2 = _), (f3 : sv 3 = _), (f4 : sv 4 = _), (f5 : sv 5 = _), -⟩; (try dsimp only at f0 f1 f2 f3 f4 f5)
      refine ⟨rfl, ?_⟩; simp only [putsL]; change qT (pT (pT (pT (pT (pT (pT _ 29 (sv 5)) 28 (sv 4)) 27 (sv 3)) 26 (sv 2)) 25 (sv 1)) 24 (sv 0)); simp only [qT, pT, Act.put, sIA, sCS, sCZ]; simp [go_sem, quietTo, Ext.refl, ↓IntWalk.iteOmega, f4, f5]; (all_goals try simp (disch := omega) only [IntWalk.i64_in]); all_goals first | rfl | (exact sliBy_any y x _)
     refine fq 7 rfl rfl rfl cK rfl rfl ?_; apply Exists.intro; constructor
     ·rintro sv w' hw' ⟨_, _, _, _, _, _, (f6 : sv 6 = _), -⟩; (try dsimp only at f6)
      refine ⟨rfl, ?_⟩; simp only [putsL]; change qT (pT (pT (pT (pT (pT (pT (pT _ 30 (sv 6)) 29 (sv 5)) 28 (sv 4)) 27 (sv 3)) 26 (sv 2)) 25 (sv 1)) 24 (sv 0)); simp only [qT, pT, Act.put, sIA, sCS, sCZ]; simp [go_sem, quietTo, Ext.refl, ↓IntWalk.iteOmega, f6, hlc]; (all_goals try simp (disch := omega) only [IntWalk.i64_in]); all_goals rfl
     refine fac_nil fun xa wra hera hfra hcra holda hapa => ?_
     obtain ⟨(f0 : xa 0 = _), (f1 : xa 1 = _), (f2 : xa 2 = _), (f3 : xa 3 = _), (f4 : xa 4 = _), (f5 : xa 5 = _), (f6 : xa 6 = _), (f7 : xa 7 = _), -⟩ := hfra; (try dsimp only at f0 f1 f2 f3 f4 f5 f6 f7)
     change wpList _ _ _ _ (pT (pT (pT (pT (pT (pT (pT (pT _ 24 (xa 0)) 25 (xa 1)) 26 (xa 2)) 27 (xa 3)) 28 (xa 4)) 29 (xa 5)) 30 (xa 6)) 31 (xa 7)) _
     simp only [putsL, Nat.reduceAdd, List.drop_succ_cons, List.drop_zero, List.drop_nil, pT, Act.put, sIA, sCS, sCZ]
     try simp only [f0, f1, f2, f3, f4, f5, f6, f7]
     clear f0 f1 f2 f3 f4 f5 f6 f7; clear holda hapa; clear hX1 d0 d1 d2 d3 d4 d5 d6
     go_wp2
     go_ret
     have h7 : 7 = scanF n (chkSli xs) := scan_is hz hlt (by rw [hv.out, hf.out, hlc]; simp; omega) (by decide)
     exact ⟨ret_int (by rw [hF.out, if_neg h12, ← h7]; rfl), hEw.trans ((Ext.refl _).drew.trans hera)⟩
    ·skip
     refine wp_region_facts [] [([],false,false),([],false,false),([1],false,false),([0,1,2],false,false),([0,1,2,3],false,false),([],false,false),([0,1,2,3,4,5],false,false),([0,1,2,3,4,5,6],false,false)] (Ext) Ext (fun _ => True) (by kernel_rfl) (by kernel_rfl) Ext.refl (fun _ _ _ => Ext.trans) (fun _ _ h => h) (fun _ _ h => h.size) (fun _ _ h _ => h) trivial ?_
     dsimp only [List.length_cons, List.length_nil, List.drop_succ_cons, List.drop_zero, List.drop_nil]
     refine fq 0 rfl rfl rfl cK rfl rfl ?_; apply Exists.intro; constructor
     ·intro sv w' hw' hfa
      refine ⟨rfl, ?_⟩; simp only [putsL]; change qT _; simp only [qT, Act.put, sIA, sCS, sCZ]; simp [go_sem, quietTo, Ext.refl]; all_goals rfl
     refine fq 1 rfl rfl rfl cK rfl rfl ?_; apply Exists.intro; constructor
     ·intro sv w' hw' hfa
      refine ⟨rfl, ?_⟩; simp only [putsL]; change qT _; simp only [qT, Act.put, sIA, sCS, sCZ]; simp [go_sem, quietTo, Ext.refl]; all_goals rfl
     refine fq 2 rfl rfl rfl cK rfl rfl ?_; apply Exists.intro; constructor
     ·rintro sv w' hw' ⟨(f1 : sv 1 = _), -⟩; (try dsimp only at f1)
      refine ⟨rfl, ?_⟩; simp only [putsL]; change qT (pT _ 25 (sv 1)); simp only [qT, pT, Act.put, sIA, sCS, sCZ]; simp [go_sem, quietTo, Ext.refl, ↓IntWalk.iteOmega, f1, hwj]; (all_goals try simp (disch := omega) only [IntWalk.i64_in]); all_goals rfl
     refine fq 3 rfl rfl rfl cK rfl rfl ?_; apply Exists.intro; constructor
     ·rintro sv w' hw' ⟨(f0 : sv 0 = _), _, (f2 : sv 2 = _), -⟩; (try dsimp only at f0 f2)
      refine ⟨rfl, ?_⟩; simp only [putsL]; change qT (pT (pT (pT _ 26 (sv 2)) 25 (sv 1)) 24 (sv 0)); simp only [qT, pT, Act.put, sIA, sCS, sCZ]; simp [go_sem, quietTo, Ext.refl, ↓IntWalk.iteOmega, f0, f2, hjI]; (all_goals try simp (disch := omega) only [IntWalk.i64_in]); all_goals rfl
     refine fq 4 rfl rfl rfl cK rfl rfl ?_; apply Exists.intro; constructor
     ·rintro sv w' hw' ⟨_, _, _, (f3 : sv 3 = _), -⟩; (try dsimp only at f3)
      obtain ⟨hc, hf, hz9⟩ := (hEw.drew.trans hw').walk; have y0 := (hc _ (off + j * 7) hbw).trans d0; have y1 := (hc _ (off + j * 7 + 1) hbw).trans d1; have y2 := (hc _ (off + j * 7 + 2) hbw).trans d2; have y3 := (hc _ (off + j * 7 + 3) hbw).trans d3; have y4 := (hc _ (off + j * 7 + 4) hbw).trans d4; have y5 := (hc _ (off + j * 7 + 5) hbw).trans d5; have y6 := (hc _ (off + j * 7 + 6) hbw).trans d6
      refine ⟨rfl, ?_⟩; simp only [putsL]; change qT (pT (pT (pT (pT _ 27 (sv 3)) 26 (sv 2)) 25 (sv 1)) 24 (sv 0)); simp only [qT, pT, Act.put, sIA, sCS, sCZ]; simp [go_sem, quietTo, Ext.refl, ↓IntWalk.iteOmega, f3, y0, y1, y2, y3, y4, y5, y6]; (all_goals try simp (disch := omega) only [IntWalk.i64_in]); all_goals rfl
     refine fq 5 rfl rfl rfl cK rfl rfl ?_; apply Exists.intro; constructor
     ·intro sv w' hw' hfa
      obtain ⟨hc2, hf2, hz8⟩ := ((Ext.refl _).drew.trans hw').walk; have x0 := (hc2 _ 0 hX1.lt).trans (hX1.cell 0); have x1 := (hc2 _ 1 hX1.lt).trans (hX1.cell 1); have x2 := (hc2 _ 2 hX1.lt).trans (hX1.cell 2); have x3 := (hc2 _ 3 hX1.lt).trans (hX1.cell 3); have x4 := (hc2 _ 4 hX1.lt).trans (hX1.cell 4); have x5 := (hc2 _ 5 hX1.lt).trans (hX1.cell 5); have x6 := (hc2 _ 6 hX1.lt).trans (hX1.cell 6)
      refine ⟨rfl, ?_⟩; simp only [putsL]; change qT _; simp only [qT, Act.put, sIA, sCS, sCZ]; simp [go_sem, quietTo, Ext.refl, ↓IntWalk.iteOmega, x0, x1, x2, x3, x4, x5, x6]; (all_goals try simp (disch := omega) only [IntWalk.i64_in]); all_goals rfl
     refine fq 6 rfl rfl rfl cK rfl rfl ?_; apply Exists.intro; constructor
     ·rintro sv w' hw' ⟨(f0 : sv 0 = _), (f1 : sv 1 = _), (f2 : sv 2 = _), (f3 : sv 3 = _), (f4 : sv 4 = _), (f5 : sv 5 = _), -⟩; (try dsimp only at f0 f1 f2 f3 f4 f5)
      refine ⟨rfl, ?_⟩; simp only [putsL]; change qT (pT (pT (pT (pT (pT (pT _ 29 (sv 5)) 28 (sv 4)) 27 (sv 3)) 26 (sv 2)) 25 (sv 1)) 24 (sv 0)); simp only [qT, pT, Act.put, sIA, sCS, sCZ]; simp [go_sem, quietTo, Ext.refl, ↓IntWalk.iteOmega, f4, f5]; (all_goals try simp (disch := omega) only [IntWalk.i64_in]); all_goals first | rfl | (exact sliBy_any y x _)
     refine fq 7 rfl rfl rfl cK rfl rfl ?_; apply Exists.intro; constructor
     ·rintro sv w' hw' ⟨_, _, _, _, _, _, (f6 : sv 6 = _), -⟩; (try dsimp only at f6)
      refine ⟨rfl, ?_⟩; simp only [putsL]; change qT (pT (pT (pT (pT (pT (pT (pT _ 30 (sv 6)) 29 (sv 5)) 28 (sv 4)) 27 (sv 3)) 26 (sv 2)) 25 (sv 1)) 24 (sv 0)); simp only [qT, pT, Act.put, sIA, sCS, sCZ]; simp [go_sem, quietTo, Ext.refl, ↓IntWalk.iteOmega, f6, hlc]; (all_goals try simp (disch := omega) only [IntWalk.i64_in]); all_goals rfl
     refine fac_nil fun xa wra hera hfra hcra holda hapa => ?_
     obtain ⟨(f0 : xa 0 = _), (f1 : xa 1 = _), (f2 : xa 2 = _), (f3 : xa 3 = _), (f4 : xa 4 = _), (f5 : xa 5 = _), (f6 : xa 6 = _), (f7 : xa 7 = _), -⟩ := hfra; (try dsimp only at f0 f1 f2 f3 f4 f5 f6 f7)
     change wpList _ _ _ _ (pT (pT (pT (pT (pT (pT (pT (pT _ 24 (xa 0)) 25 (xa 1)) 26 (xa 2)) 27 (xa 3)) 28 (xa 4)) 29 (xa 5)) 30 (xa 6)) 31 (xa 7)) _
     simp only [putsL, Nat.reduceAdd, List.drop_succ_cons, List.drop_zero, List.drop_nil, pT, Act.put, sIA, sCS, sCZ]
     try simp only [f0, f1, f2, f3, f4, f5, f6, f7]
     clear f0 f1 f2 f3 f4 f5 f6 f7; clear holda hapa; clear hX1 d0 d1 d2 d3 d4 d5 d6
     go_wp2
     go_ret
     have h7 : 7 = scanF n (chkSli xs) := scan_is hz hlt (by rw [hv.out, hf.out, hlc]; simp; omega) (by decide)
     exact ⟨ret_int (by rw [hF.out, if_neg h12, ← h7]; rfl), hEw.trans ((Ext.refl _).drew.trans hera)⟩
    ·skip
     refine wp_region_facts [] [([],false,false),([],false,false),([1],false,false),([0,1,2],false,false),([0,1,2,3],false,false),([],false,false),([0,1,2,3,4,5],false,false),([0,1,2,3,4,5,6],false,false)] (Ext) Ext (fun _ => True) (by kernel_rfl) (by kernel_rfl) Ext.refl (fun _ _ _ => Ext.trans) (fun _ _ h => h) (fun _ _ h => h.size) (fun _ _ h _ => h) trivial ?_
     dsimp only [List.length_cons, List.length_nil, List.drop_succ_cons, List.drop_zero, List.drop_nil]
     refine fq 0 rfl rfl rfl cK rfl rfl ?_; apply Exists.intro; constructor
     ·intro sv w' hw' hfa
      refine ⟨rfl, ?_⟩; simp only [putsL]; change qT _; simp only [qT, Act.put, sIA, sCS, sCZ]; simp [go_sem, quietTo, Ext.refl]; all_goals rfl
     refine fq 1 rfl rfl rfl cK rfl rfl ?_; apply Exists.intro; constructor
     ·intro sv w' hw' hfa
      refine ⟨rfl, ?_⟩; simp only [putsL]; change qT _; simp only [qT, Act.put, sIA, sCS, sCZ]; simp [go_sem, quietTo, Ext.refl]; all_goals rfl
     refine fq 2 rfl rfl rfl cK rfl rfl ?_; apply Exists.intro; constructor
     ·rintro sv w' hw' ⟨(f1 : sv 1 = _), -⟩; (try dsimp only at f1)
      refine ⟨rfl, ?_⟩; simp only [putsL]; change qT (pT _ 25 (sv 1)); simp only [qT, pT, Act.put, sIA, sCS, sCZ]; simp [go_sem, quietTo, Ext.refl, ↓IntWalk.iteOmega, f1, hwj]; (all_goals try simp (disch := omega) only [IntWalk.i64_in]); all_goals rfl
     refine fq 3 rfl rfl rfl cK rfl rfl ?_; apply Exists.intro; constructor
     ·rintro sv w' hw' ⟨(f0 : sv 0 = _), _, (f2 : sv 2 = _), -⟩; (try dsimp only at f0 f2)
      refine ⟨rfl, ?_⟩; simp only [putsL]; change qT (pT (pT (pT _ 26 (sv 2)) 25 (sv 1)) 24 (sv 0)); simp only [qT, pT, Act.put, sIA, sCS, sCZ]; simp [go_sem, quietTo, Ext.refl, ↓IntWalk.iteOmega, f0, f2, hjI]; (all_goals try simp (disch := omega) only [IntWalk.i64_in]); all_goals rfl
     refine fq 4 rfl rfl rfl cK rfl rfl ?_; apply Exists.intro; constructor
     ·rintro sv w' hw' ⟨_, _, _, (f3 : sv 3 = _), -⟩; (try dsimp only at f3)
      obtain ⟨hc, hf, hz9⟩ := (hEw.drew.trans hw').walk; have y0 := (hc _ (off + j * 7) hbw).trans d0; have y1 := (hc _ (off + j * 7 + 1) hbw).trans d1; have y2 := (hc _ (off + j * 7 + 2) hbw).trans d2; have y3 := (hc _ (off + j * 7 + 3) hbw).trans d3; have y4 := (hc _ (off + j * 7 + 4) hbw).trans d4; have y5 := (hc _ (off + j * 7 + 5) hbw).trans d5; have y6 := (hc _ (off + j * 7 + 6) hbw).trans d6
      refine ⟨rfl, ?_⟩; simp only [putsL]; change qT (pT (pT (pT (pT _ 27 (sv 3)) 26 (sv 2)) 25 (sv 1)) 24 (sv 0)); simp only [qT, pT, Act.put, sIA, sCS, sCZ]; simp [go_sem, quietTo, Ext.refl, ↓IntWalk.iteOmega, f3, y0, y1, y2, y3, y4, y5, y6]; (all_goals try simp (disch := omega) only [IntWalk.i64_in]); all_goals rfl
     refine fq 5 rfl rfl rfl cK rfl rfl ?_; apply Exists.intro; constructor
     ·intro sv w' hw' hfa
      obtain ⟨hc2, hf2, hz8⟩ := ((Ext.refl _).drew.trans hw').walk; have x0 := (hc2 _ 0 hX1.lt).trans (hX1.cell 0); have x1 := (hc2 _ 1 hX1.lt).trans (hX1.cell 1); have x2 := (hc2 _ 2 hX1.lt).trans (hX1.cell 2); have x3 := (hc2 _ 3 hX1.lt).trans (hX1.cell 3); have x4 := (hc2 _ 4 hX1.lt).trans (hX1.cell 4); have x5 := (hc2 _ 5 hX1.lt).trans (hX1.cell 5); have x6 := (hc2 _ 6 hX1.lt).trans (hX1.cell 6)
      refine ⟨rfl, ?_⟩; simp only [putsL]; change qT _; simp only [qT, Act.put, sIA, sCS, sCZ]; simp [go_sem, quietTo, Ext.refl, ↓IntWalk.iteOmega, x0, x1, x2, x3, x4, x5, x6]; (all_goals try simp (disch := omega) only [IntWalk.i64_in]); all_goals rfl
     refine fq 6 rfl rfl rfl cK rfl rfl ?_; apply Exists.intro; constructor
     ·rintro sv w' hw' ⟨(f0 : sv 0 = _), (f1 : sv 1 = _), (f2 : sv 2 = _), (f3 : sv 3 = _), (f4 : sv 4 = _), (f5 : sv 5 = _), -⟩; (try dsimp only at f0 f1 f2 f3 f4 f5)
      refine ⟨rfl, ?_⟩; simp only [putsL]; change qT (pT (pT (pT (pT (pT (pT _ 29 (sv 5)) 28 (sv 4)) 27 (sv 3)) 26 (sv 2)) 25 (sv 1)) 24 (sv 0)); simp only [qT, pT, Act.put, sIA, sCS, sCZ]; simp [go_sem, quietTo, Ext.refl, ↓IntWalk.iteOmega, f4, f5]; (all_goals try simp (disch := omega) only [IntWalk.i64_in]); all_goals first | rfl | (exact sliBy_any y x _)
     refine fq 7 rfl rfl rfl cK rfl rfl ?_; apply Exists.intro; constructor
     ·rintro sv w' hw' ⟨_, _, _, _, _, _, (f6 : sv 6 = _), -⟩; (try dsimp only at f6)
      refine ⟨rfl, ?_⟩; simp only [putsL]; change qT (pT (pT (pT (pT (pT (pT (pT _ 30 (sv 6)) 29 (sv 5)) 28 (sv 4)) 27 (sv 3)) 26 (sv 2)) 25 (sv 1)) 24 (sv 0)); simp only [qT, pT, Act.put, sIA, sCS, sCZ]; simp [go_sem, quietTo, Ext.refl, ↓IntWalk.iteOmega, f6, hlc]; (all_goals try simp (disch := omega) only [IntWalk.i64_in]); all_goals rfl
     refine fac_nil fun xa wra hera hfra hcra holda hapa => ?_
     obtain ⟨(f0 : xa 0 = _), (f1 : xa 1 = _), (f2 : xa 2 = _), (f3 : xa 3 = _), (f4 : xa 4 = _), (f5 : xa 5 = _), (f6 : xa 6 = _), (f7 : xa 7 = _), -⟩ := hfra; (try dsimp only at f0 f1 f2 f3 f4 f5 f6 f7)
     change wpList _ _ _ _ (pT (pT (pT (pT (pT (pT (pT (pT _ 24 (xa 0)) 25 (xa 1)) 26 (xa 2)) 27 (xa 3)) 28 (xa 4)) 29 (xa 5)) 30 (xa 6)) 31 (xa 7)) _
     simp only [putsL, Nat.reduceAdd, List.drop_succ_cons, List.drop_zero, List.drop_nil, pT, Act.put, sIA, sCS, sCZ]
     try simp only [f0, f1, f2, f3, f4, f5, f6, f7]
     clear f0 f1 f2 f3 f4 f5 f6 f7; clear holda hapa
     go_upto_region 13 with fail
     have hka := (Ext.refl w1).drew.trans hera
     have hX2 := hX1.ext hka
     replace hEw := hEw.trans hka
     have hzs := hz.succ (k := k) (by rw [hv.out, hf.out, hlc]; simp)
     clear hX1 d1 d3 d4 d5 d6 hera hka
     cases fl
     ·cases hne : (x.by_.toList == y.by_.toList)
      ·have hne2 : (y.by_.toList == x.by_.toList) = false := by rw [← hne]; exact Bool.beq_comm
       refine wp_region_facts [] [([],false,false),([0],false,false),([0,1],false,false),([0,1],false,false),([0,1,3],false,false),([0,1,2,3,4],false,false),([0,1,2,3,4,5],false,false),([0,1,2,3,4,5,6],false,false),([0,1],false,false),([0,1,8],false,false),([0,1,2,3,4,5,6,7,8,9],false,false),([0,1,2,3,4,5,6,7,8,9,10],false,false),([0,1,2,3,4,5,6,7,8,9,10,11],false,false),([0,1,2,3,4,5,6,7,8,9,10,11,12],false,false),([0,1,2,3,4,5,6,7,8,9,10,11],false,false),([0,1,2,3,4,5,6,7,8,9,10,11],false,false),([0,1,2,3,4,5,6,7,8,9,10,11,15],false,false),([0,1,2,3,4,5,6,7,8,9,10,11,14,15,16],false,false),([0,1,2,3,4,5,6,7,8,9,10,11,14,15,16,17],false,false),([0,1,2,3,4,5,6,7,8,9,10,11,14,15,16,17,18],false,false),([0,1,2,3,4,5,6,7,8,9,10,11,12,13,14,15,16,17,18,19],false,false),([0,1,2,3,4,5,6,7,8,9,10,11,12,13,14,15,16,17,18,19,20],false,false),([0,1,2,3,4,5,6,7,8,9,10,11,12,13,14,15,16,17,18,19,20,21],false,false),([0,1,2,3,4,5,6,7,8,9,10,11,12,13,14,15,16,17,18,19,20,21,22],false,false)] (Ext) Ext (fun _ => True) (by kernel_rfl) (by kernel_rfl) Ext.refl (fun _ _ _ => Ext.trans) (fun _ _ h => h) (fun _ _ h => h.size) (fun _ _ h _ => h) trivial ?_
       dsimp only [List.length_cons, List.length_nil, List.drop_succ_cons, List.drop_zero, List.drop_nil]
       refine fq 0 rfl rfl rfl cK rfl rfl ?_; apply Exists.intro; constructor
       ·intro sv w' hw' hfa
        refine ⟨rfl, ?_⟩; simp only [putsL]; change qT _; simp only [qT, Act.put, sIA, sCS, sCZ]; simp [go_sem, quietTo, Ext.refl]; all_goals rfl
       refine fq 1 rfl rfl rfl cK rfl rfl ?_; apply Exists.intro; constructor
       ·rintro sv w' hw' ⟨(f0 : sv 0 = _), -⟩; (try dsimp only at f0)
        refine ⟨rfl, ?_⟩; simp only [putsL]; change qT (pT _ 32 (sv 0)); simp only [qT, pT, Act.put, sIA, sCS, sCZ]; simp [go_sem, quietTo, Ext.refl, f0]; all_goals rfl
       refine fq 2 rfl rfl rfl cK rfl rfl ?_; apply Exists.intro; constructor
       ·rintro sv w' hw' ⟨_, (f1 : sv 1 = _), -⟩; (try dsimp only at f1)
        refine ⟨by simp [Region.wanted, yielded, putsL, Act.put, f1], ?_⟩; simp only [putsL]; change qT (pT (pT _ 33 (sv 1)) 32 (sv 0)); simp only [qT, pT, Act.put, sIA, sCS, sCZ]; simp [go_sem, quietTo, Ext.refl, f1]; all_goals rfl
       refine fq 3 rfl rfl rfl cK rfl rfl ?_; apply Exists.intro; constructor
       ·rintro sv w' hw' ⟨_, (f1 : sv 1 = _), -⟩; (try dsimp only at f1)
        refine ⟨by simp [Region.wanted, yielded, putsL, Act.put, f1], ?_⟩; simp only [putsL]; change qT (pT (pT _ 33 (sv 1)) 32 (sv 0)); simp only [qT, pT, Act.put, sIA, sCS, sCZ]; simp [go_sem, quietTo, Ext.refl, f1]; all_goals rfl
       refine fq 4 rfl rfl rfl cK rfl rfl ?_; apply Exists.intro; constructor
       ·rintro sv w' hw' ⟨_, (f1 : sv 1 = _), (f3 : sv 3 = _), -⟩; (try dsimp only at f1 f3)
        refine ⟨by simp [Region.wanted, yielded, putsL, Act.put, f1, f3], ?_⟩; simp only [putsL]; change qT (pT (pT (pT _ 35 (sv 3)) 33 (sv 1)) 32 (sv 0)); simp only [qT, pT, Act.put, sIA, sCS, sCZ]; simp [go_sem, quietTo, Ext.refl, ↓IntWalk.iteOmega, f1, f3, hwj]; (all_goals try simp (disch := omega) only [IntWalk.i64_in]); all_goals rfl
       refine fq 5 rfl rfl rfl cK rfl rfl ?_; apply Exists.intro; constructor
       ·rintro sv w' hw' ⟨_, (f1 : sv 1 = _), (f2 : sv 2 = _), _, (f4 : sv 4 = _), -⟩; (try dsimp only at f1 f2 f4)
        refine ⟨by simp [Region.wanted, yielded, putsL, Act.put, f1, f2, f4], ?_⟩; simp only [putsL]; change qT (pT (pT (pT (pT (pT _ 36 (sv 4)) 35 (sv 3)) 34 (sv 2)) 33 (sv 1)) 32 (sv 0)); simp only [qT, pT, Act.put, sIA, sCS, sCZ]; simp [go_sem, quietTo, Ext.refl, ↓IntWalk.iteOmega, f1, f2, f4, hjI]; (all_goals try simp (disch := omega) only [IntWalk.i64_in]); all_goals rfl
       refine fq 6 rfl rfl rfl cK rfl rfl ?_; apply Exists.intro; constructor
       ·rintro sv w' hw' ⟨_, (f1 : sv 1 = _), _, _, _, (f5 : sv 5 = _), -⟩; (try dsimp only at f1 f5)
        refine ⟨by simp [Region.wanted, yielded, putsL, Act.put, f1, f5], ?_⟩; simp only [putsL]; change qT (pT (pT (pT (pT (pT (pT _ 37 (sv 5)) 36 (sv 4)) 35 (sv 3)) 34 (sv 2)) 33 (sv 1)) 32 (sv 0)); simp only [qT, pT, Act.put, sIA, sCS, sCZ]; simp [go_sem, quietTo, Ext.refl, f1, f5]; all_goals rfl
       refine fq 7 rfl rfl rfl cK rfl rfl ?_; apply Exists.intro; constructor
       ·rintro sv w' hw' ⟨_, (f1 : sv 1 = _), _, _, _, _, (f6 : sv 6 = _), -⟩; (try dsimp only at f1 f6)
        obtain ⟨hc, hf, hz9⟩ := (hEw.drew.trans hw').walk; have y0 := (hc _ (off + j * 7) hbw).trans d0
        refine ⟨by simp [Region.wanted, yielded, putsL, Act.put, f1, f6], ?_⟩; simp only [putsL]; change qT (pT (pT (pT (pT (pT (pT (pT _ 38 (sv 6)) 37 (sv 5)) 36 (sv 4)) 35 (sv 3)) 34 (sv 2)) 33 (sv 1)) 32 (sv 0)); simp only [qT, pT, Act.put, sIA, sCS, sCZ]; simp [go_sem, quietTo, Ext.refl, ↓IntWalk.iteOmega, f1, f6, y0]; (all_goals try simp (disch := omega) only [IntWalk.i64_in]); all_goals rfl
       refine fq 8 rfl rfl rfl cK rfl rfl ?_; apply Exists.intro; constructor
       ·rintro sv w' hw' ⟨_, (f1 : sv 1 = _), -⟩; (try dsimp only at f1)
        refine ⟨by simp [Region.wanted, yielded, putsL, Act.put, f1], ?_⟩; simp only [putsL]; change qT (pT (pT _ 33 (sv 1)) 32 (sv 0)); simp only [qT, pT, Act.put, sIA, sCS, sCZ]; simp [go_sem, quietTo, Ext.refl, f1]; all_goals rfl
       refine fq 9 rfl rfl rfl cK rfl rfl ?_; apply Exists.intro; constructor
       ·rintro sv w' hw' ⟨_, (f1 : sv 1 = _), (f8 : sv 8 = _), -⟩; (try dsimp only at f1 f8)
        obtain ⟨hc2, hf2, hz8⟩ := ((Ext.refl _).drew.trans hw').walk; have x0 := (hc2 _ 0 hX2.lt).trans (hX2.cell 0)
        refine ⟨by simp [Region.wanted, yielded, putsL, Act.put, f1, f8], ?_⟩; simp only [putsL]; change qT (pT (pT (pT _ 40 (sv 8)) 33 (sv 1)) 32 (sv 0)); simp only [qT, pT, Act.put, sIA, sCS, sCZ]; simp [go_sem, quietTo, Ext.refl, ↓IntWalk.iteOmega, f1, f8, x0]; (all_goals try simp (disch := omega) only [IntWalk.i64_in]); all_goals rfl
       refine fq 10 rfl rfl rfl cK rfl rfl ?_; apply Exists.intro; constructor
       ·rintro sv w' hw' ⟨_, (f1 : sv 1 = _), _, _, _, _, _, (f7 : sv 7 = _), _, (f9 : sv 9 = _), -⟩; (try dsimp only at f1 f7 f9)
        refine ⟨by simp [Region.wanted, yielded, putsL, Act.put, f1, f7, f9], ?_⟩; simp only [putsL]; change qT (pT (pT (pT (pT (pT (pT (pT (pT (pT (pT _ 41 (sv 9)) 40 (sv 8)) 39 (sv 7)) 38 (sv 6)) 37 (sv 5)) 36 (sv 4)) 35 (sv 3)) 34 (sv 2)) 33 (sv 1)) 32 (sv 0)); simp only [qT, pT, Act.put, sIA, sCS, sCZ]; simp [go_sem, quietTo, Ext.refl, ↓IntWalk.iteOmega, f1, f7, f9, hne2]; (all_goals try simp (disch := omega) only [IntWalk.i64_in]); all_goals rfl
       refine fq 11 rfl rfl rfl cK rfl rfl ?_; apply Exists.intro; constructor
       ·rintro sv w' hw' ⟨_, (f1 : sv 1 = _), _, _, _, _, _, _, _, _, (f10 : sv 10 = _), -⟩; (try dsimp only at f1 f10)
        refine ⟨by simp [Region.wanted, yielded, putsL, Act.put, f1, f10], ?_⟩; simp only [putsL]; change qT (pT (pT (pT (pT (pT (pT (pT (pT (pT (pT (pT _ 42 (sv 10)) 41 (sv 9)) 40 (sv 8)) 39 (sv 7)) 38 (sv 6)) 37 (sv 5)) 36 (sv 4)) 35 (sv 3)) 34 (sv 2)) 33 (sv 1)) 32 (sv 0)); simp only [qT, pT, Act.put, sIA, sCS, sCZ]; simp [go_sem, quietTo, Ext.refl, f1, f10]; all_goals rfl
       refine fac_skip 12 rfl rfl rfl cK Ext.refl ?_ ?_
       ·intro sv w' hw' hfa
        obtain ⟨(f0 : sv 0 = _), (f1 : sv 1 = _), (f2 : sv 2 = _), (f3 : sv 3 = _), (f4 : sv 4 = _), (f5 : sv 5 = _), (f6 : sv 6 = _), (f7 : sv 7 = _), (f8 : sv 8 = _), (f9 : sv 9 = _), (f10 : sv 10 = _), (f11 : sv 11 = _), -⟩ := hfa; (try dsimp only at f0 f1 f2 f3 f4 f5 f6 f7 f8 f9 f10 f11)
        simp [Region.wanted, yielded, putsL, Act.put, f11]
       refine fac_skip 13 rfl rfl rfl cK Ext.refl ?_ ?_
       ·intro sv w' hw' hfa
        obtain ⟨(f0 : sv 0 = _), (f1 : sv 1 = _), (f2 : sv 2 = _), (f3 : sv 3 = _), (f4 : sv 4 = _), (f5 : sv 5 = _), (f6 : sv 6 = _), (f7 : sv 7 = _), (f8 : sv 8 = _), (f9 : sv 9 = _), (f10 : sv 10 = _), (f11 : sv 11 = _), (f12 : sv 12 = _), -⟩ := hfa; (try dsimp only at f0 f1 f2 f3 f4 f5 f6 f7 f8 f9 f10 f11 f12)
        simp [Region.wanted, yielded, putsL, Act.put, f11, f12]
       refine fac_skip 14 rfl rfl rfl cK Ext.refl ?_ ?_
       ·intro sv w' hw' hfa
        obtain ⟨(f0 : sv 0 = _), (f1 : sv 1 = _), (f2 : sv 2 = _), (f3 : sv 3 = _), (f4 : sv 4 = _), (f5 : sv 5 = _), (f6 : sv 6 = _), (f7 : sv 7 = _), (f8 : sv 8 = _), (f9 : sv 9 = _), (f10 : sv 10 = _), (f11 : sv 11 = _), -⟩ := hfa; (try dsimp only at f0 f1 f2 f3 f4 f5 f6 f7 f8 f9 f10 f11)
        simp [Region.wanted, yielded, putsL, Act.put, f11]
       refine fac_skip 15 rfl rfl rfl cK Ext.refl ?_ ?_
       ·intro sv w' hw' hfa
        obtain ⟨(f0 : sv 0 = _), (f1 : sv 1 = _), (f2 : sv 2 = _), (f3 : sv 3 = _), (f4 : sv 4 = _), (f5 : sv 5 = _), (f6 : sv 6 = _), (f7 : sv 7 = _), (f8 : sv 8 = _), (f9 : sv 9 = _), (f10 : sv 10 = _), (f11 : sv 11 = _), -⟩ := hfa; (try dsimp only at f0 f1 f2 f3 f4 f5 f6 f7 f8 f9 f10 f11)
        simp [Region.wanted, yielded, putsL, Act.put, f11]
       refine fac_skip 16 rfl rfl rfl cK Ext.refl ?_ ?_
       ·intro sv w' hw' hfa
        obtain ⟨(f0 : sv 0 = _), (f1 : sv 1 = _), (f2 : sv 2 = _), (f3 : sv 3 = _), (f4 : sv 4 = _), (f5 : sv 5 = _), (f6 : sv 6 = _), (f7 : sv 7 = _), (f8 : sv 8 = _), (f9 : sv 9 = _), (f10 : sv 10 = _), (f11 : sv 11 = _), (f15 : sv 15 = _), -⟩ := hfa; (try dsimp only at f0 f1 f2 f3 f4 f5 f6 f7 f8 f9 f10 f11 f15)
        simp [Region.wanted, yielded, putsL, Act.put, f11, f15]
       refine fac_skip 17 rfl rfl rfl cK Ext.refl ?_ ?_
       ·intro sv w' hw' hfa
        obtain ⟨(f0 : sv 0 = _), (f1 : sv 1 = _), (f2 : sv 2 = _), (f3 : sv 3 = _), (f4 : sv 4 = _), (f5 : sv 5 = _), (f6 : sv 6 = _), (f7 : sv 7 = _), (f8 : sv 8 = _), (f9 : sv 9 = _), (f10 : sv 10 = _), (f11 : sv 11 = _), (f14 : sv 14 = _), (f15 : sv 15 = _), (f16 : sv 16 = _), -⟩ := hfa; (try dsimp only at f0 f1 f2 f3 f4 f5 f6 f7 f8 f9 f10 f11 f14 f15 f16)
        simp [Region.wanted, yielded, putsL, Act.put, f11, f14, f16]
       refine fac_skip 18 rfl rfl rfl cK Ext.refl ?_ ?_
       ·intro sv w' hw' hfa
        obtain ⟨(f0 : sv 0 = _), (f1 : sv 1 = _), (f2 : sv 2 = _), (f3 : sv 3 = _), (f4 : sv 4 = _), (f5 : sv 5 = _), (f6 : sv 6 = _), (f7 : sv 7 = _), (f8 : sv 8 = _), (f9 : sv 9 = _), (f10 : sv 10 = _), (f11 : sv 11 = _), (f14 : sv 14 = _), (f15 : sv 15 = _), (f16 : sv 16 = _), (f17 : sv 17 = _), -⟩ := hfa; (try dsimp only at f0 f1 f2 f3 f4 f5 f6 f7 f8 f9 f10 f11 f14 f15 f16 f17)
        simp [Region.wanted, yielded, putsL, Act.put, f11, f17]
       refine fac_skip 19 rfl rfl rfl cK Ext.refl ?_ ?_
       ·intro sv w' hw' hfa
        obtain ⟨(f0 : sv 0 = _), (f1 : sv 1 = _), (f2 : sv 2 = _), (f3 : sv 3 = _), (f4 : sv 4 = _), (f5 : sv 5 = _), (f6 : sv 6 = _), (f7 : sv 7 = _), (f8 : sv 8 = _), (f9 : sv 9 = _), (f10 : sv 10 = _), (f11 : sv 11 = _), (f14 : sv 14 = _), (f15 : sv 15 = _), (f16 : sv 16 = _), (f17 : sv 17 = _), (f18 : sv 18 = _), -⟩ := hfa; (try dsimp only at f0 f1 f2 f3 f4 f5 f6 f7 f8 f9 f10 f11 f14 f15 f16 f17 f18)
        simp [Region.wanted, yielded, putsL, Act.put, f11, f18]
       refine fac_skip 20 rfl rfl rfl cK Ext.refl ?_ ?_
       ·intro sv w' hw' hfa
        obtain ⟨(f0 : sv 0 = _), (f1 : sv 1 = _), (f2 : sv 2 = _), (f3 : sv 3 = _), (f4 : sv 4 = _), (f5 : sv 5 = _), (f6 : sv 6 = _), (f7 : sv 7 = _), (f8 : sv 8 = _), (f9 : sv 9 = _), (f10 : sv 10 = _), (f11 : sv 11 = _), (f12 : sv 12 = _), (f13 : sv 13 = _), (f14 : sv 14 = _), (f15 : sv 15 = _), (f16 : sv 16 = _), (f17 : sv 17 = _), (f18 : sv 18 = _), (f19 : sv 19 = _), -⟩ := hfa; (try dsimp only at f0 f1 f2 f3 f4 f5 f6 f7 f8 f9 f10 f11 f12 f13 f14 f15 f16 f17 f18 f19)
        simp [Region.wanted, yielded, putsL, Act.put, f11, f13, f19]
       refine fq 21 rfl rfl rfl cK rfl rfl ?_; apply Exists.intro; constructor
       ·rintro sv w' hw' ⟨_, (f1 : sv 1 = _), _, _, _, _, _, _, _, _, _, (f11 : sv 11 = _), _, _, _, _, _, _, _, _, (f20 : sv 20 = _), -⟩; (try dsimp only at f1 f11 f20)
        refine ⟨by simp [Region.wanted, yielded, putsL, Act.put, f1, f11, f20], ?_⟩; simp only [putsL]; change qT (pT (pT (pT (pT (pT (pT (pT (pT (pT (pT (pT (pT (pT (pT (pT (pT (pT (pT (pT (pT (pT _ 52 (sv 20)) 51 (sv 19)) 50 (sv 18)) 49 (sv 17)) 48 (sv 16)) 47 (sv 15)) 46 (sv 14)) 45 (sv 13)) 44 (sv 12)) 43 (sv 11)) 42 (sv 10)) 41 (sv 9)) 40 (sv 8)) 39 (sv 7)) 38 (sv 6)) 37 (sv 5)) 36 (sv 4)) 35 (sv 3)) 34 (sv 2)) 33 (sv 1)) 32 (sv 0)); simp only [qT, pT, Act.put, sIA, sCS, sCZ]; simp [go_sem, quietTo, Ext.refl, ↓IntWalk.iteOmega, f1, f11, f20]; (all_goals try simp (disch := omega) only [IntWalk.i64_in]); all_goals rfl
       refine fq 22 rfl rfl rfl cK rfl rfl ?_; apply Exists.intro; constructor
       ·rintro sv w' hw' ⟨_, (f1 : sv 1 = _), _, _, _, _, _, _, _, _, _, _, _, _, _, _, _, _, _, _, _, (f21 : sv 21 = _), -⟩; (try dsimp only at f1 f21)
        refine ⟨rfl, ?_⟩; simp only [putsL]; change qT (pT (pT (pT (pT (pT (pT (pT (pT (pT (pT (pT (pT (pT (pT (pT (pT (pT (pT (pT (pT (pT (pT _ 53 (sv 21)) 52 (sv 20)) 51 (sv 19)) 50 (sv 18)) 49 (sv 17)) 48 (sv 16)) 47 (sv 15)) 46 (sv 14)) 45 (sv 13)) 44 (sv 12)) 43 (sv 11)) 42 (sv 10)) 41 (sv 9)) 40 (sv 8)) 39 (sv 7)) 38 (sv 6)) 37 (sv 5)) 36 (sv 4)) 35 (sv 3)) 34 (sv 2)) 33 (sv 1)) 32 (sv 0)); simp only [qT, pT, Act.put, sIA, sCS, sCZ]; simp [go_sem, quietTo, Ext.refl, ↓IntWalk.iteOmega, f1, f21]; (all_goals try simp (disch := omega) only [IntWalk.i64_in]); all_goals rfl
       refine fq 23 rfl rfl rfl cK rfl rfl ?_; apply Exists.intro; constructor
       ·rintro sv w' hw' ⟨_, _, _, _, _, _, _, _, _, _, _, _, _, _, _, _, _, _, _, _, _, _, (f22 : sv 22 = _), -⟩; (try dsimp only at f22)
        refine ⟨rfl, ?_⟩; simp only [putsL]; change qT (pT (pT (pT (pT (pT (pT (pT (pT (pT (pT (pT (pT (pT (pT (pT (pT (pT (pT (pT (pT (pT (pT (pT _ 54 (sv 22)) 53 (sv 21)) 52 (sv 20)) 51 (sv 19)) 50 (sv 18)) 49 (sv 17)) 48 (sv 16)) 47 (sv 15)) 46 (sv 14)) 45 (sv 13)) 44 (sv 12)) 43 (sv 11)) 42 (sv 10)) 41 (sv 9)) 40 (sv 8)) 39 (sv 7)) 38 (sv 6)) 37 (sv 5)) 36 (sv 4)) 35 (sv 3)) 34 (sv 2)) 33 (sv 1)) 32 (sv 0)); simp only [qT, pT, Act.put, sIA, sCS, sCZ]; simp [go_sem, quietTo, Ext.refl, f22]; all_goals rfl
       refine fac_nil fun xc wrc herc hfrc hcrc holdc hapc => ?_
       obtain ⟨(f0 : xc 0 = _), (f1 : xc 1 = _), (f2 : xc 2 = _), (f3 : xc 3 = _), (f4 : xc 4 = _), (f5 : xc 5 = _), (f6 : xc 6 = _), (f7 : xc 7 = _), (f8 : xc 8 = _), (f9 : xc 9 = _), (f10 : xc 10 = _), (f11 : xc 11 = _), (f12 : xc 12 = _), (f13 : xc 13 = _), (f14 : xc 14 = _), (f15 : xc 15 = _), (f16 : xc 16 = _), (f17 : xc 17 = _), (f18 : xc 18 = _), (f19 : xc 19 = _), (f20 : xc 20 = _), (f21 : xc 21 = _), (f22 : xc 22 = _), (f23 : xc 23 = _), -⟩ := hfrc; (try dsimp only at f0 f1 f2 f3 f4 f5 f6 f7 f8 f9 f10 f11 f12 f13 f14 f15 f16 f17 f18 f19 f20 f21 f22 f23)
       change wpList _ _ _ _ (pT (pT (pT (pT (pT (pT (pT (pT (pT (pT (pT (pT (pT (pT (pT (pT (pT (pT (pT (pT (pT (pT (pT (pT _ 32 (xc 0)) 33 (xc 1)) 34 (xc 2)) 35 (xc 3)) 36 (xc 4)) 37 (xc 5)) 38 (xc 6)) 39 (xc 7)) 40 (xc 8)) 41 (xc 9)) 42 (xc 10)) 43 (xc 11)) 44 (xc 12)) 45 (xc 13)) 46 (xc 14)) 47 (xc 15)) 48 (xc 16)) 49 (xc 17)) 50 (xc 18)) 51 (xc 19)) 52 (xc 20)) 53 (xc 21)) 54 (xc 22)) 3 (xc 23)) _
       simp only [putsL, Nat.reduceAdd, List.drop_succ_cons, List.drop_zero, List.drop_nil, pT, Act.put, sIA, sCS, sCZ]
       try simp only [f0, f1, f2, f3, f4, f5, f6, f7, f8, f9, f10, f11, f12, f13, f14, f15, f16, f17, f18, f19, f20, f21, f22, f23]
       clear f0 f1 f2 f3 f4 f5 f6 f7 f8 f9 f10 f11 f12 f13 f14 f15 f16 f17 f18 f19 f20 f21 f22 f23; clear holdc hapc; clear hX2 d0 d2
       go_wp2
       go_roundw
       case rel => exact ⟨k + 1, false, hlt, by go_num, rfl, hzs, fun e => (hf0.out rfl).succ (by rw [hlk.out, hne]; rfl), (fun e => by cases e), hEw.trans ((Ext.refl _).drew.trans herc)⟩
       case measure => simp [intOf]; omega
      ·have hne2 : (y.by_.toList == x.by_.toList) = true := by rw [← hne]; exact Bool.beq_comm
       by_cases hat : x.at_ < y.at_
       all_goals
        refine wp_region_facts [] [([],false,false),([0],false,false),([0,1],false,false),([0,1],false,false),([0,1,3],false,false),([0,1,2,3,4],false,false),([0,1,2,3,4,5],false,false),([0,1,2,3,4,5,6],false,false),([0,1],false,false),([0,1,8],false,false),([0,1,2,3,4,5,6,7,8,9],false,false),([0,1,2,3,4,5,6,7,8,9,10],false,false),([0,1,2,3,4,5,6,7,8,9,10,11],false,false),([0,1,2,3,4,5,6,7,8,9,10,11,12],false,false),([0,1,2,3,4,5,6,7,8,9,10,11],false,false),([0,1,2,3,4,5,6,7,8,9,10,11],false,false),([0,1,2,3,4,5,6,7,8,9,10,11,15],false,false),([0,1,2,3,4,5,6,7,8,9,10,11,14,15,16],false,false),([0,1,2,3,4,5,6,7,8,9,10,11,14,15,16,17],false,false),([0,1,2,3,4,5,6,7,8,9,10,11,14,15,16,17,18],false,false),([0,1,2,3,4,5,6,7,8,9,10,11,12,13,14,15,16,17,18,19],false,false),([0,1,2,3,4,5,6,7,8,9,10,11,12,13,14,15,16,17,18,19,20],false,false),([0,1,2,3,4,5,6,7,8,9,10,11,12,13,14,15,16,17,18,19,20,21],false,false),([0,1,2,3,4,5,6,7,8,9,10,11,12,13,14,15,16,17,18,19,20,21,22],false,false)] (Ext) Ext (fun _ => True) (by kernel_rfl) (by kernel_rfl) Ext.refl (fun _ _ _ => Ext.trans) (fun _ _ h => h) (fun _ _ h => h.size) (fun _ _ h _ => h) trivial ?_
        dsimp only [List.length_cons, List.length_nil, List.drop_succ_cons, List.drop_zero, List.drop_nil]
        refine fq 0 rfl rfl rfl cK rfl rfl ?_; apply Exists.intro; constructor
        ·intro sv w' hw' hfa
         refine ⟨rfl, ?_⟩; simp only [putsL]; change qT _; simp only [qT, Act.put, sIA, sCS, sCZ]; simp [go_sem, quietTo, Ext.refl]; all_goals rfl
        refine fq 1 rfl rfl rfl cK rfl rfl ?_; apply Exists.intro; constructor
        ·rintro sv w' hw' ⟨(f0 : sv 0 = _), -⟩; (try dsimp only at f0)
         refine ⟨rfl, ?_⟩; simp only [putsL]; change qT (pT _ 32 (sv 0)); simp only [qT, pT, Act.put, sIA, sCS, sCZ]; simp [go_sem, quietTo, Ext.refl, f0]; all_goals rfl
        refine fq 2 rfl rfl rfl cK rfl rfl ?_; apply Exists.intro; constructor
        ·rintro sv w' hw' ⟨_, (f1 : sv 1 = _), -⟩; (try dsimp only at f1)
         refine ⟨by simp [Region.wanted, yielded, putsL, Act.put, f1], ?_⟩; simp only [putsL]; change qT (pT (pT _ 33 (sv 1)) 32 (sv 0)); simp only [qT, pT, Act.put, sIA, sCS, sCZ]; simp [go_sem, quietTo, Ext.refl, f1]; all_goals rfl
        refine fq 3 rfl rfl rfl cK rfl rfl ?_; apply Exists.intro; constructor
        ·rintro sv w' hw' ⟨_, (f1 : sv 1 = _), -⟩; (try dsimp only at f1)
         refine ⟨by simp [Region.wanted, yielded, putsL, Act.put, f1], ?_⟩; simp only [putsL]; change qT (pT (pT _ 33 (sv 1)) 32 (sv 0)); simp only [qT, pT, Act.put, sIA, sCS, sCZ]; simp [go_sem, quietTo, Ext.refl, f1]; all_goals rfl
        refine fq 4 rfl rfl rfl cK rfl rfl ?_; apply Exists.intro; constructor
        ·rintro sv w' hw' ⟨_, (f1 : sv 1 = _), (f3 : sv 3 = _), -⟩; (try dsimp only at f1 f3)
         refine ⟨by simp [Region.wanted, yielded, putsL, Act.put, f1, f3], ?_⟩; simp only [putsL]; change qT (pT (pT (pT _ 35 (sv 3)) 33 (sv 1)) 32 (sv 0)); simp only [qT, pT, Act.put, sIA, sCS, sCZ]; simp [go_sem, quietTo, Ext.refl, ↓IntWalk.iteOmega, f1, f3, hwj]; (all_goals try simp (disch := omega) only [IntWalk.i64_in]); all_goals rfl
        refine fq 5 rfl rfl rfl cK rfl rfl ?_; apply Exists.intro; constructor
        ·rintro sv w' hw' ⟨_, (f1 : sv 1 = _), (f2 : sv 2 = _), _, (f4 : sv 4 = _), -⟩; (try dsimp only at f1 f2 f4)
         refine ⟨by simp [Region.wanted, yielded, putsL, Act.put, f1, f2, f4], ?_⟩; simp only [putsL]; change qT (pT (pT (pT (pT (pT _ 36 (sv 4)) 35 (sv 3)) 34 (sv 2)) 33 (sv 1)) 32 (sv 0)); simp only [qT, pT, Act.put, sIA, sCS, sCZ]; simp [go_sem, quietTo, Ext.refl, ↓IntWalk.iteOmega, f1, f2, f4, hjI]; (all_goals try simp (disch := omega) only [IntWalk.i64_in]); all_goals rfl
        refine fq 6 rfl rfl rfl cK rfl rfl ?_; apply Exists.intro; constructor
        ·rintro sv w' hw' ⟨_, (f1 : sv 1 = _), _, _, _, (f5 : sv 5 = _), -⟩; (try dsimp only at f1 f5)
         refine ⟨by simp [Region.wanted, yielded, putsL, Act.put, f1, f5], ?_⟩; simp only [putsL]; change qT (pT (pT (pT (pT (pT (pT _ 37 (sv 5)) 36 (sv 4)) 35 (sv 3)) 34 (sv 2)) 33 (sv 1)) 32 (sv 0)); simp only [qT, pT, Act.put, sIA, sCS, sCZ]; simp [go_sem, quietTo, Ext.refl, f1, f5]; all_goals rfl
        refine fq 7 rfl rfl rfl cK rfl rfl ?_; apply Exists.intro; constructor
        ·rintro sv w' hw' ⟨_, (f1 : sv 1 = _), _, _, _, _, (f6 : sv 6 = _), -⟩; (try dsimp only at f1 f6)
         obtain ⟨hc, hf, hz9⟩ := (hEw.drew.trans hw').walk; have y0 := (hc _ (off + j * 7) hbw).trans d0
         refine ⟨by simp [Region.wanted, yielded, putsL, Act.put, f1, f6], ?_⟩; simp only [putsL]; change qT (pT (pT (pT (pT (pT (pT (pT _ 38 (sv 6)) 37 (sv 5)) 36 (sv 4)) 35 (sv 3)) 34 (sv 2)) 33 (sv 1)) 32 (sv 0)); simp only [qT, pT, Act.put, sIA, sCS, sCZ]; simp [go_sem, quietTo, Ext.refl, ↓IntWalk.iteOmega, f1, f6, y0]; (all_goals try simp (disch := omega) only [IntWalk.i64_in]); all_goals rfl
        refine fq 8 rfl rfl rfl cK rfl rfl ?_; apply Exists.intro; constructor
        ·rintro sv w' hw' ⟨_, (f1 : sv 1 = _), -⟩; (try dsimp only at f1)
         refine ⟨by simp [Region.wanted, yielded, putsL, Act.put, f1], ?_⟩; simp only [putsL]; change qT (pT (pT _ 33 (sv 1)) 32 (sv 0)); simp only [qT, pT, Act.put, sIA, sCS, sCZ]; simp [go_sem, quietTo, Ext.refl, f1]; all_goals rfl
        refine fq 9 rfl rfl rfl cK rfl rfl ?_; apply Exists.intro; constructor
        ·rintro sv w' hw' ⟨_, (f1 : sv 1 = _), (f8 : sv 8 = _), -⟩; (try dsimp only at f1 f8)
         obtain ⟨hc2, hf2, hz8⟩ := ((Ext.refl _).drew.trans hw').walk; have x0 := (hc2 _ 0 hX2.lt).trans (hX2.cell 0)
         refine ⟨by simp [Region.wanted, yielded, putsL, Act.put, f1, f8], ?_⟩; simp only [putsL]; change qT (pT (pT (pT _ 40 (sv 8)) 33 (sv 1)) 32 (sv 0)); simp only [qT, pT, Act.put, sIA, sCS, sCZ]; simp [go_sem, quietTo, Ext.refl, ↓IntWalk.iteOmega, f1, f8, x0]; (all_goals try simp (disch := omega) only [IntWalk.i64_in]); all_goals rfl
        refine fq 10 rfl rfl rfl cK rfl rfl ?_; apply Exists.intro; constructor
        ·rintro sv w' hw' ⟨_, (f1 : sv 1 = _), _, _, _, _, _, (f7 : sv 7 = _), _, (f9 : sv 9 = _), -⟩; (try dsimp only at f1 f7 f9)
         refine ⟨by simp [Region.wanted, yielded, putsL, Act.put, f1, f7, f9], ?_⟩; simp only [putsL]; change qT (pT (pT (pT (pT (pT (pT (pT (pT (pT (pT _ 41 (sv 9)) 40 (sv 8)) 39 (sv 7)) 38 (sv 6)) 37 (sv 5)) 36 (sv 4)) 35 (sv 3)) 34 (sv 2)) 33 (sv 1)) 32 (sv 0)); simp only [qT, pT, Act.put, sIA, sCS, sCZ]; simp [go_sem, quietTo, Ext.refl, ↓IntWalk.iteOmega, f1, f7, f9, hne2]; (all_goals try simp (disch := omega) only [IntWalk.i64_in]); all_goals rfl
        refine fq 11 rfl rfl rfl cK rfl rfl ?_; apply Exists.intro; constructor
        ·rintro sv w' hw' ⟨_, (f1 : sv 1 = _), _, _, _, _, _, _, _, _, (f10 : sv 10 = _), -⟩; (try dsimp only at f1 f10)
         refine ⟨by simp [Region.wanted, yielded, putsL, Act.put, f1, f10], ?_⟩; simp only [putsL]; change qT (pT (pT (pT (pT (pT (pT (pT (pT (pT (pT (pT _ 42 (sv 10)) 41 (sv 9)) 40 (sv 8)) 39 (sv 7)) 38 (sv 6)) 37 (sv 5)) 36 (sv 4)) 35 (sv 3)) 34 (sv 2)) 33 (sv 1)) 32 (sv 0)); simp only [qT, pT, Act.put, sIA, sCS, sCZ]; simp [go_sem, quietTo, Ext.refl, f1, f10]; all_goals rfl
        refine fq 12 rfl rfl rfl cK rfl rfl ?_; apply Exists.intro; constructor
        ·rintro sv w' hw' ⟨_, _, _, _, _, _, _, _, _, _, _, (f11 : sv 11 = _), -⟩; (try dsimp only at f11)
         refine ⟨by simp [Region.wanted, yielded, putsL, Act.put, f11], ?_⟩; simp only [putsL]; change qT (pT (pT (pT (pT (pT (pT (pT (pT (pT (pT (pT (pT _ 43 (sv 11)) 42 (sv 10)) 41 (sv 9)) 40 (sv 8)) 39 (sv 7)) 38 (sv 6)) 37 (sv 5)) 36 (sv 4)) 35 (sv 3)) 34 (sv 2)) 33 (sv 1)) 32 (sv 0)); simp only [qT, pT, Act.put, sIA, sCS, sCZ]; simp [go_sem, quietTo, Ext.refl, f11]; all_goals rfl
        refine fq 13 rfl rfl rfl cK rfl rfl ?_; apply Exists.intro; constructor
        ·rintro sv w' hw' ⟨_, _, _, _, _, _, _, _, _, _, _, (f11 : sv 11 = _), (f12 : sv 12 = _), -⟩; (try dsimp only at f11 f12)
         obtain ⟨hc2, hf2, hz8⟩ := ((Ext.refl _).drew.trans hw').walk; have x2 := (hc2 _ 2 hX2.lt).trans (hX2.cell 2)
         refine ⟨by simp [Region.wanted, yielded, putsL, Act.put, f11, f12], ?_⟩; simp only [putsL]; change qT (pT (pT (pT (pT (pT (pT (pT (pT (pT (pT (pT (pT (pT _ 44 (sv 12)) 43 (sv 11)) 42 (sv 10)) 41 (sv 9)) 40 (sv 8)) 39 (sv 7)) 38 (sv 6)) 37 (sv 5)) 36 (sv 4)) 35 (sv 3)) 34 (sv 2)) 33 (sv 1)) 32 (sv 0)); simp only [qT, pT, Act.put, sIA, sCS, sCZ]; simp [go_sem, quietTo, Ext.refl, ↓IntWalk.iteOmega, f11, f12, x2]; (all_goals try simp (disch := omega) only [IntWalk.i64_in]); all_goals rfl
        refine fq 14 rfl rfl rfl cK rfl rfl ?_; apply Exists.intro; constructor
        ·rintro sv w' hw' ⟨_, _, _, _, _, _, _, _, _, _, _, (f11 : sv 11 = _), -⟩; (try dsimp only at f11)
         refine ⟨by simp [Region.wanted, yielded, putsL, Act.put, f11], ?_⟩; simp only [putsL]; change qT (pT (pT (pT (pT (pT (pT (pT (pT (pT (pT (pT (pT _ 43 (sv 11)) 42 (sv 10)) 41 (sv 9)) 40 (sv 8)) 39 (sv 7)) 38 (sv 6)) 37 (sv 5)) 36 (sv 4)) 35 (sv 3)) 34 (sv 2)) 33 (sv 1)) 32 (sv 0)); simp only [qT, pT, Act.put, sIA, sCS, sCZ]; simp [go_sem, quietTo, Ext.refl, f11]; all_goals rfl
        refine fq 15 rfl rfl rfl cK rfl rfl ?_; apply Exists.intro; constructor
        ·rintro sv w' hw' ⟨_, _, _, _, _, _, _, _, _, _, _, (f11 : sv 11 = _), -⟩; (try dsimp only at f11)
         refine ⟨by simp [Region.wanted, yielded, putsL, Act.put, f11], ?_⟩; simp only [putsL]; change qT (pT (pT (pT (pT (pT (pT (pT (pT (pT (pT (pT (pT _ 43 (sv 11)) 42 (sv 10)) 41 (sv 9)) 40 (sv 8)) 39 (sv 7)) 38 (sv 6)) 37 (sv 5)) 36 (sv 4)) 35 (sv 3)) 34 (sv 2)) 33 (sv 1)) 32 (sv 0)); simp only [qT, pT, Act.put, sIA, sCS, sCZ]; simp [go_sem, quietTo, Ext.refl, f11]; all_goals rfl
        refine fq 16 rfl rfl rfl cK rfl rfl ?_; apply Exists.intro; constructor
        ·rintro sv w' hw' ⟨_, _, _, _, _, _, _, _, _, _, _, (f11 : sv 11 = _), (f15 : sv 15 = _), -⟩; (try dsimp only at f11 f15)
         refine ⟨by simp [Region.wanted, yielded, putsL, Act.put, f11, f15], ?_⟩; simp only [putsL]; change qT (pT (pT (pT (pT (pT (pT (pT (pT (pT (pT (pT (pT (pT _ 47 (sv 15)) 43 (sv 11)) 42 (sv 10)) 41 (sv 9)) 40 (sv 8)) 39 (sv 7)) 38 (sv 6)) 37 (sv 5)) 36 (sv 4)) 35 (sv 3)) 34 (sv 2)) 33 (sv 1)) 32 (sv 0)); simp only [qT, pT, Act.put, sIA, sCS, sCZ]; simp [go_sem, quietTo, Ext.refl, ↓IntWalk.iteOmega, f11, f15, hwj]; (all_goals try simp (disch := omega) only [IntWalk.i64_in]); all_goals rfl
        refine fq 17 rfl rfl rfl cK rfl rfl ?_; apply Exists.intro; constructor
        ·rintro sv w' hw' ⟨_, _, _, _, _, _, _, _, _, _, _, (f11 : sv 11 = _), (f14 : sv 14 = _), _, (f16 : sv 16 = _), -⟩; (try dsimp only at f11 f14 f16)
         refine ⟨by simp [Region.wanted, yielded, putsL, Act.put, f11, f14, f16], ?_⟩; simp only [putsL]; change qT (pT (pT (pT (pT (pT (pT (pT (pT (pT (pT (pT (pT (pT (pT (pT _ 48 (sv 16)) 47 (sv 15)) 46 (sv 14)) 43 (sv 11)) 42 (sv 10)) 41 (sv 9)) 40 (sv 8)) 39 (sv 7)) 38 (sv 6)) 37 (sv 5)) 36 (sv 4)) 35 (sv 3)) 34 (sv 2)) 33 (sv 1)) 32 (sv 0)); simp only [qT, pT, Act.put, sIA, sCS, sCZ]; simp [go_sem, quietTo, Ext.refl, ↓IntWalk.iteOmega, f11, f14, f16, hjI]; (all_goals try simp (disch := omega) only [IntWalk.i64_in]); all_goals rfl
        refine fq 18 rfl rfl rfl cK rfl rfl ?_; apply Exists.intro; constructor
        ·rintro sv w' hw' ⟨_, _, _, _, _, _, _, _, _, _, _, (f11 : sv 11 = _), _, _, _, (f17 : sv 17 = _), -⟩; (try dsimp only at f11 f17)
         refine ⟨by simp [Region.wanted, yielded, putsL, Act.put, f11, f17], ?_⟩; simp only [putsL]; change qT (pT (pT (pT (pT (pT (pT (pT (pT (pT (pT (pT (pT (pT (pT (pT (pT _ 49 (sv 17)) 48 (sv 16)) 47 (sv 15)) 46 (sv 14)) 43 (sv 11)) 42 (sv 10)) 41 (sv 9)) 40 (sv 8)) 39 (sv 7)) 38 (sv 6)) 37 (sv 5)) 36 (sv 4)) 35 (sv 3)) 34 (sv 2)) 33 (sv 1)) 32 (sv 0)); simp only [qT, pT, Act.put, sIA, sCS, sCZ]; simp [go_sem, quietTo, Ext.refl, f11, f17]; all_goals rfl
        refine fq 19 rfl rfl rfl cK rfl rfl ?_; apply Exists.intro; constructor
        ·rintro sv w' hw' ⟨_, _, _, _, _, _, _, _, _, _, _, (f11 : sv 11 = _), _, _, _, _, (f18 : sv 18 = _), -⟩; (try dsimp only at f11 f18)
         obtain ⟨hc, hf, hz9⟩ := (hEw.drew.trans hw').walk; have y2 := (hc _ (off + j * 7 + 2) hbw).trans d2
         refine ⟨by simp [Region.wanted, yielded, putsL, Act.put, f11, f18], ?_⟩; simp only [putsL]; change qT (pT (pT (pT (pT (pT (pT (pT (pT (pT (pT (pT (pT (pT (pT (pT (pT (pT _ 50 (sv 18)) 49 (sv 17)) 48 (sv 16)) 47 (sv 15)) 46 (sv 14)) 43 (sv 11)) 42 (sv 10)) 41 (sv 9)) 40 (sv 8)) 39 (sv 7)) 38 (sv 6)) 37 (sv 5)) 36 (sv 4)) 35 (sv 3)) 34 (sv 2)) 33 (sv 1)) 32 (sv 0)); simp only [qT, pT, Act.put, sIA, sCS, sCZ]; simp [go_sem, quietTo, Ext.refl, ↓IntWalk.iteOmega, f11, f18, y2]; (all_goals try simp (disch := omega) only [IntWalk.i64_in]); all_goals rfl
        refine fq 20 rfl rfl rfl cK rfl rfl ?_; apply Exists.intro; constructor
        ·rintro sv w' hw' ⟨_, _, _, _, _, _, _, _, _, _, _, (f11 : sv 11 = _), _, (f13 : sv 13 = _), _, _, _, _, _, (f19 : sv 19 = _), -⟩; (try dsimp only at f11 f13 f19)
         refine ⟨by simp [Region.wanted, yielded, putsL, Act.put, f11, f13, f19], ?_⟩; simp only [putsL]; change qT (pT (pT (pT (pT (pT (pT (pT (pT (pT (pT (pT (pT (pT (pT (pT (pT (pT (pT (pT (pT _ 51 (sv 19)) 50 (sv 18)) 49 (sv 17)) 48 (sv 16)) 47 (sv 15)) 46 (sv 14)) 45 (sv 13)) 44 (sv 12)) 43 (sv 11)) 42 (sv 10)) 41 (sv 9)) 40 (sv 8)) 39 (sv 7)) 38 (sv 6)) 37 (sv 5)) 36 (sv 4)) 35 (sv 3)) 34 (sv 2)) 33 (sv 1)) 32 (sv 0)); simp only [qT, pT, Act.put, sIA, sCS, sCZ]; simp [go_sem, quietTo, Ext.refl, ↓IntWalk.iteOmega, f11, f13, f19, hat]; (all_goals try simp (disch := omega) only [IntWalk.i64_in]); all_goals rfl
        refine fq 21 rfl rfl rfl cK rfl rfl ?_; apply Exists.intro; constructor
        ·rintro sv w' hw' ⟨_, (f1 : sv 1 = _), _, _, _, _, _, _, _, _, _, (f11 : sv 11 = _), _, _, _, _, _, _, _, _, (f20 : sv 20 = _), -⟩; (try dsimp only at f1 f11 f20)
         refine ⟨by simp [Region.wanted, yielded, putsL, Act.put, f1, f11, f20], ?_⟩; simp only [putsL]; change qT (pT (pT (pT (pT (pT (pT (pT (pT (pT (pT (pT (pT (pT (pT (pT (pT (pT (pT (pT (pT (pT _ 52 (sv 20)) 51 (sv 19)) 50 (sv 18)) 49 (sv 17)) 48 (sv 16)) 47 (sv 15)) 46 (sv 14)) 45 (sv 13)) 44 (sv 12)) 43 (sv 11)) 42 (sv 10)) 41 (sv 9)) 40 (sv 8)) 39 (sv 7)) 38 (sv 6)) 37 (sv 5)) 36 (sv 4)) 35 (sv 3)) 34 (sv 2)) 33 (sv 1)) 32 (sv 0)); simp only [qT, pT, Act.put, sIA, sCS, sCZ]; simp [go_sem, quietTo, Ext.refl, ↓IntWalk.iteOmega, f1, f11, f20]; (all_goals try simp (disch := omega) only [IntWalk.i64_in]); all_goals rfl
        refine fq 22 rfl rfl rfl cK rfl rfl ?_; apply Exists.intro; constructor
        ·rintro sv w' hw' ⟨_, (f1 : sv 1 = _), _, _, _, _, _, _, _, _, _, _, _, _, _, _, _, _, _, _, _, (f21 : sv 21 = _), -⟩; (try dsimp only at f1 f21)
         refine ⟨rfl, ?_⟩; simp only [putsL]; change qT (pT (pT (pT (pT (pT (pT (pT (pT (pT (pT (pT (pT (pT (pT (pT (pT (pT (pT (pT (pT (pT (pT _ 53 (sv 21)) 52 (sv 20)) 51 (sv 19)) 50 (sv 18)) 49 (sv 17)) 48 (sv 16)) 47 (sv 15)) 46 (sv 14)) 45 (sv 13)) 44 (sv 12)) 43 (sv 11)) 42 (sv 10)) 41 (sv 9)) 40 (sv 8)) 39 (sv 7)) 38 (sv 6)) 37 (sv 5)) 36 (sv 4)) 35 (sv 3)) 34 (sv 2)) 33 (sv 1)) 32 (sv 0)); simp only [qT, pT, Act.put, sIA, sCS, sCZ]; simp [go_sem, quietTo, Ext.refl, ↓IntWalk.iteOmega, f1, f21]; (all_goals try simp (disch := omega) only [IntWalk.i64_in]); all_goals rfl
        refine fq 23 rfl rfl rfl cK rfl rfl ?_; apply Exists.intro; constructor
        ·rintro sv w' hw' ⟨_, _, _, _, _, _, _, _, _, _, _, _, _, _, _, _, _, _, _, _, _, _, (f22 : sv 22 = _), -⟩; (try dsimp only at f22)
         refine ⟨rfl, ?_⟩; simp only [putsL]; change qT (pT (pT (pT (pT (pT (pT (pT (pT (pT (pT (pT (pT (pT (pT (pT (pT (pT (pT (pT (pT (pT (pT (pT _ 54 (sv 22)) 53 (sv 21)) 52 (sv 20)) 51 (sv 19)) 50 (sv 18)) 49 (sv 17)) 48 (sv 16)) 47 (sv 15)) 46 (sv 14)) 45 (sv 13)) 44 (sv 12)) 43 (sv 11)) 42 (sv 10)) 41 (sv 9)) 40 (sv 8)) 39 (sv 7)) 38 (sv 6)) 37 (sv 5)) 36 (sv 4)) 35 (sv 3)) 34 (sv 2)) 33 (sv 1)) 32 (sv 0)); simp only [qT, pT, Act.put, sIA, sCS, sCZ]; simp [go_sem, quietTo, Ext.refl, f22]; all_goals rfl
        refine fac_nil fun xc wrc herc hfrc hcrc holdc hapc => ?_
        obtain ⟨(f0 : xc 0 = _), (f1 : xc 1 = _), (f2 : xc 2 = _), (f3 : xc 3 = _), (f4 : xc 4 = _), (f5 : xc 5 = _), (f6 : xc 6 = _), (f7 : xc 7 = _), (f8 : xc 8 = _), (f9 : xc 9 = _), (f10 : xc 10 = _), (f11 : xc 11 = _), (f12 : xc 12 = _), (f13 : xc 13 = _), (f14 : xc 14 = _), (f15 : xc 15 = _), (f16 : xc 16 = _), (f17 : xc 17 = _), (f18 : xc 18 = _), (f19 : xc 19 = _), (f20 : xc 20 = _), (f21 : xc 21 = _), (f22 : xc 22 = _), (f23 : xc 23 = _), -⟩ := hfrc; (try dsimp only at f0 f1 f2 f3 f4 f5 f6 f7 f8 f9 f10 f11 f12 f13 f14 f15 f16 f17 f18 f19 f20 f21 f22 f23)
        change wpList _ _ _ _ (pT (pT (pT (pT (pT (pT (pT (pT (pT (pT (pT (pT (pT (pT (pT (pT (pT (pT (pT (pT (pT (pT (pT (pT _ 32 (xc 0)) 33 (xc 1)) 34 (xc 2)) 35 (xc 3)) 36 (xc 4)) 37 (xc 5)) 38 (xc 6)) 39 (xc 7)) 40 (xc 8)) 41 (xc 9)) 42 (xc 10)) 43 (xc 11)) 44 (xc 12)) 45 (xc 13)) 46 (xc 14)) 47 (xc 15)) 48 (xc 16)) 49 (xc 17)) 50 (xc 18)) 51 (xc 19)) 52 (xc 20)) 53 (xc 21)) 54 (xc 22)) 3 (xc 23)) _
        simp only [putsL, Nat.reduceAdd, List.drop_succ_cons, List.drop_zero, List.drop_nil, pT, Act.put, sIA, sCS, sCZ]
        try simp only [f0, f1, f2, f3, f4, f5, f6, f7, f8, f9, f10, f11, f12, f13, f14, f15, f16, f17, f18, f19, f20, f21, f22, f23]
        clear f0 f1 f2 f3 f4 f5 f6 f7 f8 f9 f10 f11 f12 f13 f14 f15 f16 f17 f18 f19 f20 f21 f22 f23; clear holdc hapc; clear hX2 d0 d2
        go_wp2
        go_roundw
        case rel =>
         first
          | exact ⟨k + 1, false, hlt, by go_num, rfl, hzs, fun e => (hf0.out rfl).succ (by rw [hlk.out, hne]; simp [hat]), (fun e => by cases e), hEw.trans ((Ext.refl _).drew.trans herc)⟩
          | exact ⟨k + 1, true, hlt, by go_num, rfl, hzs, (fun e => by cases e), fun e => scan_late hlt (by rw [hlk.out, hne]; simp [hat]), hEw.trans ((Ext.refl _).drew.trans herc)⟩
        case measure => simp [intOf]; omega
     ·skip
      refine wp_region_facts [] [([],false,false),([0],false,false),([0,1],false,false),([0,1],false,false),([0,1,3],false,false),([0,1,2,3,4],false,false),([0,1,2,3,4,5],false,false),([0,1,2,3,4,5,6],false,false),([0,1],false,false),([0,1,8],false,false),([0,1,2,3,4,5,6,7,8,9],false,false),([0,1,2,3,4,5,6,7,8,9,10],false,false),([0,1,2,3,4,5,6,7,8,9,10,11],false,false),([0,1,2,3,4,5,6,7,8,9,10,11,12],false,false),([0,1,2,3,4,5,6,7,8,9,10,11],false,false),([0,1,2,3,4,5,6,7,8,9,10,11],false,false),([0,1,2,3,4,5,6,7,8,9,10,11,15],false,false),([0,1,2,3,4,5,6,7,8,9,10,11,14,15,16],false,false),([0,1,2,3,4,5,6,7,8,9,10,11,14,15,16,17],false,false),([0,1,2,3,4,5,6,7,8,9,10,11,14,15,16,17,18],false,false),([0,1,2,3,4,5,6,7,8,9,10,11,12,13,14,15,16,17,18,19],false,false),([0,1,2,3,4,5,6,7,8,9,10,11,12,13,14,15,16,17,18,19,20],false,false),([0,1,2,3,4,5,6,7,8,9,10,11,12,13,14,15,16,17,18,19,20,21],false,false),([0,1,2,3,4,5,6,7,8,9,10,11,12,13,14,15,16,17,18,19,20,21,22],false,false)] (Ext) Ext (fun _ => True) (by kernel_rfl) (by kernel_rfl) Ext.refl (fun _ _ _ => Ext.trans) (fun _ _ h => h) (fun _ _ h => h.size) (fun _ _ h _ => h) trivial ?_
      dsimp only [List.length_cons, List.length_nil, List.drop_succ_cons, List.drop_zero, List.drop_nil]
      refine fq 0 rfl rfl rfl cK rfl rfl ?_; apply Exists.intro; constructor
      ·intro sv w' hw' hfa
       refine ⟨rfl, ?_⟩; simp only [putsL]; change qT _; simp only [qT, Act.put, sIA, sCS, sCZ]; simp [go_sem, quietTo, Ext.refl]; all_goals rfl
      refine fq 1 rfl rfl rfl cK rfl rfl ?_; apply Exists.intro; constructor
      ·rintro sv w' hw' ⟨(f0 : sv 0 = _), -⟩; (try dsimp only at f0)
       refine ⟨rfl, ?_⟩; simp only [putsL]; change qT (pT _ 32 (sv 0)); simp only [qT, pT, Act.put, sIA, sCS, sCZ]; simp [go_sem, quietTo, Ext.refl, f0]; all_goals rfl
      refine fac_skip 2 rfl rfl rfl cK Ext.refl ?_ ?_
      ·intro sv w' hw' hfa
       obtain ⟨(f0 : sv 0 = _), (f1 : sv 1 = _), -⟩ := hfa; (try dsimp only at f0 f1)
       simp [Region.wanted, yielded, putsL, Act.put, f1]
      refine fac_skip 3 rfl rfl rfl cK Ext.refl ?_ ?_
      ·intro sv w' hw' hfa
       obtain ⟨(f0 : sv 0 = _), (f1 : sv 1 = _), -⟩ := hfa; (try dsimp only at f0 f1)
       simp [Region.wanted, yielded, putsL, Act.put, f1]
      refine fac_skip 4 rfl rfl rfl cK Ext.refl ?_ ?_
      ·intro sv w' hw' hfa
       obtain ⟨(f0 : sv 0 = _), (f1 : sv 1 = _), (f3 : sv 3 = _), -⟩ := hfa; (try dsimp only at f0 f1 f3)
       simp [Region.wanted, yielded, putsL, Act.put, f1, f3]
      refine fac_skip 5 rfl rfl rfl cK Ext.refl ?_ ?_
      ·intro sv w' hw' hfa
       obtain ⟨(f0 : sv 0 = _), (f1 : sv 1 = _), (f2 : sv 2 = _), (f3 : sv 3 = _), (f4 : sv 4 = _), -⟩ := hfa; (try dsimp only at f0 f1 f2 f3 f4)
       simp [Region.wanted, yielded, putsL, Act.put, f1, f2, f4]
      refine fac_skip 6 rfl rfl rfl cK Ext.refl ?_ ?_
      ·intro sv w' hw' hfa
       obtain ⟨(f0 : sv 0 = _), (f1 : sv 1 = _), (f2 : sv 2 = _), (f3 : sv 3 = _), (f4 : sv 4 = _), (f5 : sv 5 = _), -⟩ := hfa; (try dsimp only at f0 f1 f2 f3 f4 f5)
       simp [Region.wanted, yielded, putsL, Act.put, f1, f5]
      refine fac_skip 7 rfl rfl rfl cK Ext.refl ?_ ?_
      ·intro sv w' hw' hfa
       obtain ⟨(f0 : sv 0 = _), (f1 : sv 1 = _), (f2 : sv 2 = _), (f3 : sv 3 = _), (f4 : sv 4 = _), (f5 : sv 5 = _), (f6 : sv 6 = _), -⟩ := hfa; (try dsimp only at f0 f1 f2 f3 f4 f5 f6)
       simp [Region.wanted, yielded, putsL, Act.put, f1, f6]
      refine fac_skip 8 rfl rfl rfl cK Ext.refl ?_ ?_
      ·intro sv w' hw' hfa
       obtain ⟨(f0 : sv 0 = _), (f1 : sv 1 = _), -⟩ := hfa; (try dsimp only at f0 f1)
       simp [Region.wanted, yielded, putsL, Act.put, f1]
      refine fac_skip 9 rfl rfl rfl cK Ext.refl ?_ ?_
      ·intro sv w' hw' hfa
       obtain ⟨(f0 : sv 0 = _), (f1 : sv 1 = _), (f8 : sv 8 = _), -⟩ := hfa; (try dsimp only at f0 f1 f8)
       simp [Region.wanted, yielded, putsL, Act.put, f1, f8]
      refine fac_skip 10 rfl rfl rfl cK Ext.refl ?_ ?_
      ·intro sv w' hw' hfa
       obtain ⟨(f0 : sv 0 = _), (f1 : sv 1 = _), (f2 : sv 2 = _), (f3 : sv 3 = _), (f4 : sv 4 = _), (f5 : sv 5 = _), (f6 : sv 6 = _), (f7 : sv 7 = _), (f8 : sv 8 = _), (f9 : sv 9 = _), -⟩ := hfa; (try dsimp only at f0 f1 f2 f3 f4 f5 f6 f7 f8 f9)
       simp [Region.wanted, yielded, putsL, Act.put, f1, f7, f9]
      refine fac_skip 11 rfl rfl rfl cK Ext.refl ?_ ?_
      ·intro sv w' hw' hfa
       obtain ⟨(f0 : sv 0 = _), (f1 : sv 1 = _), (f2 : sv 2 = _), (f3 : sv 3 = _), (f4 : sv 4 = _), (f5 : sv 5 = _), (f6 : sv 6 = _), (f7 : sv 7 = _), (f8 : sv 8 = _), (f9 : sv 9 = _), (f10 : sv 10 = _), -⟩ := hfa; (try dsimp only at f0 f1 f2 f3 f4 f5 f6 f7 f8 f9 f10)
       simp [Region.wanted, yielded, putsL, Act.put, f1, f10]
      refine fac_skip 12 rfl rfl rfl cK Ext.refl ?_ ?_
      ·intro sv w' hw' hfa
       obtain ⟨(f0 : sv 0 = _), (f1 : sv 1 = _), (f2 : sv 2 = _), (f3 : sv 3 = _), (f4 : sv 4 = _), (f5 : sv 5 = _), (f6 : sv 6 = _), (f7 : sv 7 = _), (f8 : sv 8 = _), (f9 : sv 9 = _), (f10 : sv 10 = _), (f11 : sv 11 = _), -⟩ := hfa; (try dsimp only at f0 f1 f2 f3 f4 f5 f6 f7 f8 f9 f10 f11)
       simp [Region.wanted, yielded, putsL, Act.put, f11, undef]
      refine fac_skip 13 rfl rfl rfl cK Ext.refl ?_ ?_
      ·intro sv w' hw' hfa
       obtain ⟨(f0 : sv 0 = _), (f1 : sv 1 = _), (f2 : sv 2 = _), (f3 : sv 3 = _), (f4 : sv 4 = _), (f5 : sv 5 = _), (f6 : sv 6 = _), (f7 : sv 7 = _), (f8 : sv 8 = _), (f9 : sv 9 = _), (f10 : sv 10 = _), (f11 : sv 11 = _), (f12 : sv 12 = _), -⟩ := hfa; (try dsimp only at f0 f1 f2 f3 f4 f5 f6 f7 f8 f9 f10 f11 f12)
       simp [Region.wanted, yielded, putsL, Act.put, f11, f12, undef]
      refine fac_skip 14 rfl rfl rfl cK Ext.refl ?_ ?_
      ·intro sv w' hw' hfa
       obtain ⟨(f0 : sv 0 = _), (f1 : sv 1 = _), (f2 : sv 2 = _), (f3 : sv 3 = _), (f4 : sv 4 = _), (f5 : sv 5 = _), (f6 : sv 6 = _), (f7 : sv 7 = _), (f8 : sv 8 = _), (f9 : sv 9 = _), (f10 : sv 10 = _), (f11 : sv 11 = _), -⟩ := hfa; (try dsimp only at f0 f1 f2 f3 f4 f5 f6 f7 f8 f9 f10 f11)
       simp [Region.wanted, yielded, putsL, Act.put, f11, undef]
      refine fac_skip 15 rfl rfl rfl cK Ext.refl ?_ ?_
      ·intro sv w' hw' hfa
       obtain ⟨(f0 : sv 0 = _), (f1 : sv 1 = _), (f2 : sv 2 = _), (f3 : sv 3 = _), (f4 : sv 4 = _), (f5 : sv 5 = _), (f6 : sv 6 = _), (f7 : sv 7 = _), (f8 : sv 8 = _), (f9 : sv 9 = _), (f10 : sv 10 = _), (f11 : sv 11 = _), -⟩ := hfa; (try dsimp only at f0 f1 f2 f3 f4 f5 f6 f7 f8 f9 f10 f11)
       simp [Region.wanted, yielded, putsL, Act.put, f11, undef]
      refine fac_skip 16 rfl rfl rfl cK Ext.refl ?_ ?_
      ·intro sv w' hw' hfa
       obtain ⟨(f0 : sv 0 = _), (f1 : sv 1 = _), (f2 : sv 2 = _), (f3 : sv 3 = _), (f4 : sv 4 = _), (f5 : sv 5 = _), (f6 : sv 6 = _), (f7 : sv 7 = _), (f8 : sv 8 = _), (f9 : sv 9 = _), (f10 : sv 10 = _), (f11 : sv 11 = _), (f15 : sv 15 = _), -⟩ := hfa; (try dsimp only at f0 f1 f2 f3 f4 f5 f6 f7 f8 f9 f10 f11 f15)
       simp [Region.wanted, yielded, putsL, Act.put, f11, f15, undef]
      refine fac_skip 17 rfl rfl rfl cK Ext.refl ?_ ?_
      ·intro sv w' hw' hfa
       obtain ⟨(f0 : sv 0 = _), (f1 : sv 1 = _), (f2 : sv 2 = _), (f3 : sv 3 = _), (f4 : sv 4 = _), (f5 : sv 5 = _), (f6 : sv 6 = _), (f7 : sv 7 = _), (f8 : sv 8 = _), (f9 : sv 9 = _), (f10 : sv 10 = _), (f11 : sv 11 = _), (f14 : sv 14 = _), (f15 : sv 15 = _), (f16 : sv 16 = _), -⟩ := hfa; (try dsimp only at f0 f1 f2 f3 f4 f5 f6 f7 f8 f9 f10 f11 f14 f15 f16)
       simp [Region.wanted, yielded, putsL, Act.put, f11, f14, f16, undef]
      refine fac_skip 18 rfl rfl rfl cK Ext.refl ?_ ?_
      ·intro sv w' hw' hfa
       obtain ⟨(f0 : sv 0 = _), (f1 : sv 1 = _), (f2 : sv 2 = _), (f3 : sv 3 = _), (f4 : sv 4 = _), (f5 : sv 5 = _), (f6 : sv 6 = _), (f7 : sv 7 = _), (f8 : sv 8 = _), (f9 : sv 9 = _), (f10 : sv 10 = _), (f11 : sv 11 = _), (f14 : sv 14 = _), (f15 : sv 15 = _), (f16 : sv 16 = _), (f17 : sv 17 = _), -⟩ := hfa; (try dsimp only at f0 f1 f2 f3 f4 f5 f6 f7 f8 f9 f10 f11 f14 f15 f16 f17)
       simp [Region.wanted, yielded, putsL, Act.put, f11, f17, undef]
      refine fac_skip 19 rfl rfl rfl cK Ext.refl ?_ ?_
      ·intro sv w' hw' hfa
       obtain ⟨(f0 : sv 0 = _), (f1 : sv 1 = _), (f2 : sv 2 = _), (f3 : sv 3 = _), (f4 : sv 4 = _), (f5 : sv 5 = _), (f6 : sv 6 = _), (f7 : sv 7 = _), (f8 : sv 8 = _), (f9 : sv 9 = _), (f10 : sv 10 = _), (f11 : sv 11 = _), (f14 : sv 14 = _), (f15 : sv 15 = _), (f16 : sv 16 = _), (f17 : sv 17 = _), (f18 : sv 18 = _), -⟩ := hfa; (try dsimp only at f0 f1 f2 f3 f4 f5 f6 f7 f8 f9 f10 f11 f14 f15 f16 f17 f18)
       simp [Region.wanted, yielded, putsL, Act.put, f11, f18, undef]
      refine fac_skip 20 rfl rfl rfl cK Ext.refl ?_ ?_
      ·intro sv w' hw' hfa
       obtain ⟨(f0 : sv 0 = _), (f1 : sv 1 = _), (f2 : sv 2 = _), (f3 : sv 3 = _), (f4 : sv 4 = _), (f5 : sv 5 = _), (f6 : sv 6 = _), (f7 : sv 7 = _), (f8 : sv 8 = _), (f9 : sv 9 = _), (f10 : sv 10 = _), (f11 : sv 11 = _), (f12 : sv 12 = _), (f13 : sv 13 = _), (f14 : sv 14 = _), (f15 : sv 15 = _), (f16 : sv 16 = _), (f17 : sv 17 = _), (f18 : sv 18 = _), (f19 : sv 19 = _), -⟩ := hfa; (try dsimp only at f0 f1 f2 f3 f4 f5 f6 f7 f8 f9 f10 f11 f12 f13 f14 f15 f16 f17 f18 f19)
       simp [Region.wanted, yielded, putsL, Act.put, f11, f13, f19, undef]
      refine fac_skip 21 rfl rfl rfl cK Ext.refl ?_ ?_
      ·intro sv w' hw' hfa
       obtain ⟨(f0 : sv 0 = _), (f1 : sv 1 = _), (f2 : sv 2 = _), (f3 : sv 3 = _), (f4 : sv 4 = _), (f5 : sv 5 = _), (f6 : sv 6 = _), (f7 : sv 7 = _), (f8 : sv 8 = _), (f9 : sv 9 = _), (f10 : sv 10 = _), (f11 : sv 11 = _), (f12 : sv 12 = _), (f13 : sv 13 = _), (f14 : sv 14 = _), (f15 : sv 15 = _), (f16 : sv 16 = _), (f17 : sv 17 = _), (f18 : sv 18 = _), (f19 : sv 19 = _), (f20 : sv 20 = _), -⟩ := hfa; (try dsimp only at f0 f1 f2 f3 f4 f5 f6 f7 f8 f9 f10 f11 f12 f13 f14 f15 f16 f17 f18 f19 f20)
       simp [Region.wanted, yielded, putsL, Act.put, f1, f11, f20]
      refine fq 22 rfl rfl rfl cK rfl rfl ?_; apply Exists.intro; constructor
      ·rintro sv w' hw' ⟨_, (f1 : sv 1 = _), _, _, _, _, _, _, _, _, _, _, _, _, _, _, _, _, _, _, _, (f21 : sv 21 = _), -⟩; (try dsimp only at f1 f21)
       refine ⟨rfl, ?_⟩; simp only [putsL]; change qT (pT (pT (pT (pT (pT (pT (pT (pT (pT (pT (pT (pT (pT (pT (pT (pT (pT (pT (pT (pT (pT (pT _ 53 (sv 21)) 52 (sv 20)) 51 (sv 19)) 50 (sv 18)) 49 (sv 17)) 48 (sv 16)) 47 (sv 15)) 46 (sv 14)) 45 (sv 13)) 44 (sv 12)) 43 (sv 11)) 42 (sv 10)) 41 (sv 9)) 40 (sv 8)) 39 (sv 7)) 38 (sv 6)) 37 (sv 5)) 36 (sv 4)) 35 (sv 3)) 34 (sv 2)) 33 (sv 1)) 32 (sv 0)); simp only [qT, pT, Act.put, sIA, sCS, sCZ]; simp [go_sem, quietTo, Ext.refl, ↓IntWalk.iteOmega, f1, f21]; (all_goals try simp (disch := omega) only [IntWalk.i64_in]); all_goals rfl
      refine fq 23 rfl rfl rfl cK rfl rfl ?_; apply Exists.intro; constructor
      ·rintro sv w' hw' ⟨_, _, _, _, _, _, _, _, _, _, _, _, _, _, _, _, _, _, _, _, _, _, (f22 : sv 22 = _), -⟩; (try dsimp only at f22)
       refine ⟨rfl, ?_⟩; simp only [putsL]; change qT (pT (pT (pT (pT (pT (pT (pT (pT (pT (pT (pT (pT (pT (pT (pT (pT (pT (pT (pT (pT (pT (pT (pT _ 54 (sv 22)) 53 (sv 21)) 52 (sv 20)) 51 (sv 19)) 50 (sv 18)) 49 (sv 17)) 48 (sv 16)) 47 (sv 15)) 46 (sv 14)) 45 (sv 13)) 44 (sv 12)) 43 (sv 11)) 42 (sv 10)) 41 (sv 9)) 40 (sv 8)) 39 (sv 7)) 38 (sv 6)) 37 (sv 5)) 36 (sv 4)) 35 (sv 3)) 34 (sv 2)) 33 (sv 1)) 32 (sv 0)); simp only [qT, pT, Act.put, sIA, sCS, sCZ]; simp [go_sem, quietTo, Ext.refl, f22]; all_goals rfl
      refine fac_nil fun xc wrc herc hfrc hcrc holdc hapc => ?_
      obtain ⟨(f0 : xc 0 = _), (f1 : xc 1 = _), (f2 : xc 2 = _), (f3 : xc 3 = _), (f4 : xc 4 = _), (f5 : xc 5 = _), (f6 : xc 6 = _), (f7 : xc 7 = _), (f8 : xc 8 = _), (f9 : xc 9 = _), (f10 : xc 10 = _), (f11 : xc 11 = _), (f12 : xc 12 = _), (f13 : xc 13 = _), (f14 : xc 14 = _), (f15 : xc 15 = _), (f16 : xc 16 = _), (f17 : xc 17 = _), (f18 : xc 18 = _), (f19 : xc 19 = _), (f20 : xc 20 = _), (f21 : xc 21 = _), (f22 : xc 22 = _), (f23 : xc 23 = _), -⟩ := hfrc; (try dsimp only at f0 f1 f2 f3 f4 f5 f6 f7 f8 f9 f10 f11 f12 f13 f14 f15 f16 f17 f18 f19 f20 f21 f22 f23)
      change wpList _ _ _ _ (pT (pT (pT (pT (pT (pT (pT (pT (pT (pT (pT (pT (pT (pT (pT (pT (pT (pT (pT (pT (pT (pT (pT (pT _ 32 (xc 0)) 33 (xc 1)) 34 (xc 2)) 35 (xc 3)) 36 (xc 4)) 37 (xc 5)) 38 (xc 6)) 39 (xc 7)) 40 (xc 8)) 41 (xc 9)) 42 (xc 10)) 43 (xc 11)) 44 (xc 12)) 45 (xc 13)) 46 (xc 14)) 47 (xc 15)) 48 (xc 16)) 49 (xc 17)) 50 (xc 18)) 51 (xc 19)) 52 (xc 20)) 53 (xc 21)) 54 (xc 22)) 3 (xc 23)) _
      simp only [putsL, Nat.reduceAdd, List.drop_succ_cons, List.drop_zero, List.drop_nil, pT, Act.put, sIA, sCS, sCZ]
      try simp only [f0, f1, f2, f3, f4, f5, f6, f7, f8, f9, f10, f11, f12, f13, f14, f15, f16, f17, f18, f19, f20, f21, f22, f23]
      clear f0 f1 f2 f3 f4 f5 f6 f7 f8 f9 f10 f11 f12 f13 f14 f15 f16 f17 f18 f19 f20 f21 f22 f23; clear holdc hapc; clear hX2 d0 d2
      go_wp2
      go_roundw
      case rel => exact ⟨k + 1, true, hlt, by go_num, rfl, hzs, (fun e => by cases e), hf1.out, hEw.trans ((Ext.refl _).drew.trans herc)⟩
      case measure => simp [intOf]; omega
  ·obtain rfl : k = n := by omega
   have hsc := scan_zero hz
   replace hsc := Lib.hid hsc
   cases fl
   ·have h0 := scan_zero (hf0 rfl)
    clear hf0 hf1 hz h
    go_wp2
    go_ret
    exact ⟨ret_int (by rw [hF.out, if_neg h12, if_pos hsc.out, h0]), he⟩
   ·have h0 := hf1 rfl
    clear hf0 hf1 hz h
    go_wp2
    go_ret
    exact ⟨ret_int (by rw [hF.out, if_neg h12, if_pos hsc.out, h0]), he⟩
end Go.Proofs.YtkjhbofbcmelgaaGreatDoor
