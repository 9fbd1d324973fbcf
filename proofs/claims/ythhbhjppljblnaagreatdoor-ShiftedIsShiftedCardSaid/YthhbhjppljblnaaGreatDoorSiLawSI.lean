/- The law ShiftedIsShifted. Conditions: as the theorem says. -/
import Derived.Test.YthhbhjppljblnaaGreatDoorSiJ45
import Derived.Test.YthhbhjppljblnaaGreatDoorSiJ47
set_option linter.unusedSimpArgs false
set_option linter.unusedVariables false
namespace Go.Proofs.YthhbhjppljblnaaGreatDoor
open Go Go.RowKit

theorem shiftOk_any (p : Option Addr) (c : Nat) (P : List PartV) (d : Int) (w : World) (h : Slc 5 partC w p P.length c P) (hn : P.length ≤ 1000) (hs : ∀ x ∈ P, x.Small) (hd : -1000 ≤ d ∧ d ≤ 1000) (hF : partsF P = 0) (hsh : shB P d = true) :
    Calls Tryz.prog 39 #[.slice p P.length c, .int .i64 d] w fun e w' => ∃ (q : Option Addr) (k : Nat), e = .returned (.tuple #[.slice q P.length k, .int .i64 0]) ∧ Slc 5 partC w' q P.length k (upL P d) ∧ Ext w w' := by
  refine (shiftedV_any p P.length c P d w h hn hs hd).mono fun e w' ⟨v, he, h1, h2, hE⟩ => ?_
  rw [if_pos hF, if_pos hsh] at he
  obtain ⟨q, k, rfl, hS⟩ := slc_of_own partC_len (h1 ⟨hF, hsh⟩) (by decide) (by omega)
  exact ⟨q, k, he, hS, hE⟩
theorem contains_any (p : Option Addr) (n c : Nat) (xs : List Int) (x : Int) (w : World) (h : Slc 1 intC w p n c xs) (hn : n ≤ 1000) :
    Calls Tryz.prog 41 #[.slice p n c, .int .i64 x] w fun e w' => e = .returned (.bool (xs.contains x)) ∧ Ext w w' := by
  obtain ⟨hl, ⟨rfl, rfl⟩ | ⟨b, off, rfl, hb, hE⟩⟩ := slcC h
  · subst hl
    refine (Tryz.slices_Contains_int_empty none c x w).mono fun e w' h => ?_
    exact ⟨by rw [h.1]; rfl, by rw [h.2]; exact Ext.refl _⟩
  · subst hl
    refine (Tryz.slices_Contains_int b off xs.length c xs x w (Nat.le_refl _) (by omega) (fun j hj => ?_)).mono fun e w' h => ?_
    · rw [List.getD_eq_getElem?_getD, List.getElem?_eq_getElem hj]
      exact hE.int (List.getElem?_eq_getElem hj)
    · exact ⟨by rw [h.1, List.take_length], by rw [h.2]; exact Ext.refl _⟩
set_option maxRecDepth 100000 in
set_option maxHeartbeats 12800000 in
theorem lawSI_any (B : Nat) (w : World) (p : Option Addr) (n c : Nat) (h : Lst w w.heap.size p n) (ht : Tab B w) :
    Calls Tryz.prog 6 #[.slice p n c] w fun e w' => e = .returned (.bool true) ∧ Ext w w' := by
  obtain ⟨xs, rfl, hL⟩ := lst_list h
  obtain ⟨L, hLd⟩ : ∃ L : Src, L = ⟨xs, w.heap.size⟩ := ⟨_, rfl⟩
  have hE0 : Ext w (w.alloc (.cells #[.slice p xs.length c, .int .i64 0] 25)) := (Ext.refl w).alloc _
  have hS0 : StrL (w.alloc (.cells #[.slice p xs.length c, .int .i64 0] 25)) w.heap.size L 0 := by
    subst hLd
    exact ⟨Nat.le_refl _, p, c, Blk.new' rfl, hL.low fun j hj => hE0.block j hj⟩
  have hvo := rightVoices_det w.heap.size 0 5 L _ (by omega) (by omega) hS0
  replace hvo := Lib.hid hvo
  clear h hL hLd hS0
  go_enter Tryz.func6, Tryz.ntmps6
  go_upto_region 3 with (first
    | (go_at_call 30; (with_reducible refine Calls.mono hvo.out ?_); rintro e w1 ⟨vp, n1, vc, V, k1, rfl, hV10, hoV, hVl, hVs, hvF, hF1, hk1, hS1, hE1⟩)
    | (go_at_call 31; (with_reducible refine Calls.mono (rightParts_det w.heap.size k1 L _ (by omega) hS1) ?_); rintro e w2 ⟨pp, n2, pc, P, k2, rfl, hP3, hoP, hPl, hPs, hpF, hF2, hk2, hS2, hE2⟩)
    | (go_at_call 32; (with_reducible refine Calls.mono (range_det w.heap.size k2 0 200 L _ (by omega) (by omega) (by omega) (by omega) (by omega) hS2) ?_); rintro e w3 ⟨rfl, hS3, hE3⟩)
    | (go_at_call 32; (with_reducible refine Calls.mono (range_det w.heap.size (k2 + 1) (-12) 12 L _ (by omega) (by omega) (by omega) (by omega) (by omega) hS3) ?_); rintro e w4 ⟨rfl, hS4, hE4⟩))
  subst hVl
  subst hPl
  have hz0 : w.heap.size + 1 ≤ (w.alloc (.cells #[.slice p xs.length c, .int .i64 0] 25)).heap.size := by simp
  have hl1 := hS1.lt
  have hoV4 := own_extS hE4 (by omega) (own_extS hE3 (by omega) (own_extS hE2 (by omega) hoV))
  have hoP4 := own_extS hE4 (by omega) (own_extS hE3 (by omega) hoP)
  have hX4 := ExtS.back (ExtS.back (ExtS.back (ExtS.back hE0 (Nat.le_refl _) hE1) (Nat.le_refl _) hE2) (Nat.le_refl _) hE3) (Nat.le_refl _) hE4
  have hlo : ∀ x ∈ P, 42 ≤ x.lo := by have := rpF_low L 6 k1; rw [hF2] at this; exact this
  have ht1 := rgF_in (L := L) (a := k2) (lo := 0) (hi := 200) (by omega)
  have hd1 := rgF_in (L := L) (a := k2 + 1) (lo := -12) (hi := 12) (by omega)
  clear hvo hoV hoP hE1 hE2 hE3 hE4 hE0 hF1 hF2 hS1 hS2 hS3 hS4 hz0 hl1
  generalize rgF L k2 0 200 = t at *
  generalize rgF L (k2 + 1) (-12) 12 = d at *
  obtain ⟨vp', vc', e9, hV4⟩ := slc_of_own voiC_len hoV4 (by decide) (by omega)
  cases e9
  obtain ⟨pp', pc', e9, hP4⟩ := slc_of_own partC_len hoP4 (by decide) (by omega)
  cases e9
  have hok := okUp_low hd1 hpF hlo (fun x hx => (hPs x hx).2)
  have hsB := shB_of hd1 hok
  have hqF := partsF_up hpF hok
  have hqb := okUp_back (d := d) hpF
  have hsB2 := shB_of (P := upL P d) (d := -d) (by omega) hqb
  have hmo : momB t = true := inB_iff.2 (by omega)
  have hz : errL V P t = 0 := errL_zero.2 ⟨hvF, hpF, hmo⟩
  have hz2 : errL V (upL P d) t = 0 := errL_zero.2 ⟨hvF, hqF, hmo⟩
  have hM : VpM w4 vp vc V pp pc P := ⟨hV4, hP4, hVs, fun x hx => (hPs x hx).1, by omega, by omega⟩
  have hqs := up_small hM.sP hok
  have hul := up_len P d
  have c1 := shiftOk_any pp pc P d w4 hM.par hM.nP hM.sP (by omega) hpF hsB
  have c2 : ∀ u q k, Ext w4 u → Slc 5 partC u q P.length k (upL P d) → Calls Tryz.prog 39 #[.slice q P.length k, .int .i64 (-d)] u fun e w' => ∃ (q' : Option Addr) (k' : Nat), e = .returned (.tuple #[.slice q' P.length k', .int .i64 0]) ∧ Slc 5 partC w' q' P.length k' P ∧ Ext u w' := fun u q k hu hS => by
    have := shiftOk_any q k (upL P d) (-d) u (by rw [hul]; exact hS) (by rw [hul]; exact hM.nP) hqs (by omega) hqF hsB2
    rw [hul, up_back] at this
    exact this
  have c3 := fun u (hu : Ext w4 u) => shifts_good (hM.more hu) t hz
  have c4 : ∀ u q k, Ext w4 u → Slc 5 partC u q P.length k (upL P d) → Calls Tryz.prog 23 #[.slice vp V.length vc, .slice q P.length k, .int .i64 t] u fun e w' => e = .returned (.tuple #[.int .i64 (lackV V (upL P d) t), .int .i64 0]) ∧ Ext u w' := fun u q k hu hS => by
    have := lacking_good (w := u) (vp := vp) (pp := q) (vc := vc) (pc := k) (V := V) (P := upL P d) ⟨hM.voi.ext hu, by rw [hul]; exact hS, hM.sV, hqs, hM.nV, by rw [hul]; exact hM.nP⟩ t hz2
    rw [hul] at this
    exact this
  have hct : (shiftsV V P t).contains d = (lackV V (upL P d) t == 0) := by
    rw [shifts_has hd1]
    unfold fitB
    rw [hok]; rfl
  have hfl : (shiftsV V P t).length ≤ 1000 := Nat.le_trans (spanL_len V P t 25) (by omega)
  have c5 := fun u q m k (hS : Slc 1 intC u q m k (shiftsV V P t)) => contains_any q m k (shiftsV V P t) d u hS (by have := hS.1.1; omega)
  rw [hct] at c5
  have c6 := fun u (hu : Ext w4 u) => hM.par.ext hu
  have hPn : P.length ≤ 100000 := by omega
  have hneg : IntKind.i64.wrap (-d) = -d := IntWalk.i64_in _ (by omega)
  generalize lackV V (upL P d) t = lv at *
  obtain ⟨bz, hbz⟩ : ∃ b, (lv == 0) = b := ⟨_, rfl⟩
  rw [hbz] at c5
  have htw : ∀ u, Ext w4 u → Tab B u := fun u hu => ht.ext (hX4.trans hu)
  replace c1 := Lib.hid c1
  replace c2 := Lib.hid c2
  replace c3 := Lib.hid c3
  replace c4 := Lib.hid c4
  replace c5 := Lib.hid c5
  replace c6 := Lib.hid c6
  replace htw := Lib.hid htw
  replace hct := Lib.hid hct
  clear hM hqs hqF hqb hsB hsB2 hok hvF hpF hPs hVs hlo hV4 hP4 hoV4 hoP4 hz hz2 hmo hul
  cases bz
  all_goals
    go_wp2_with (first
      | (go_at_call 39; (with_reducible refine Calls.mono c1.out ?_); rintro e u1 ⟨q1, d1, rfl, hS1, hu1⟩; replace hS1 := Lib.hid hS1)
      | (go_at_call 39; (with_reducible refine Calls.mono (c2.out _ _ _ hu1 hS1.out) ?_); rintro e u2 ⟨q2, d2, rfl, hS2, hu2⟩; have E2 := hu1.trans hu2; replace hS2 := Lib.hid hS2)
      | (go_at_call 25; (with_reducible refine Calls.mono (c3.out _ E2) ?_); rintro e u3 ⟨q3, m3, d3, rfl, hS3, hu3⟩; have E3 := E2.trans hu3; replace hS3 := Lib.hid hS3)
      | (go_at_call 23; (with_reducible refine Calls.mono (c4.out _ _ _ E3 (hS1.out.ext (hu2.trans hu3))) ?_); rintro e u4 ⟨rfl, hu4⟩; have E4 := E3.trans hu4)
      | (go_at_call 40; (with_reducible refine Calls.mono (eqPart_any _ _ _ _ _ _ _ ((hS2.out.ext hu3).ext hu4) (c6.out _ E4) hPn) ?_); rintro e u5 ⟨rfl, hu5⟩; have E5 := E4.trans hu5)
      | (go_at_call 41; (with_reducible refine Calls.mono (c5.out _ _ _ _ ((hS3.out.ext hu4).ext hu5)) ?_); rintro e u6 ⟨rfl, hu6⟩; have E6 := E5.trans hu6)
      | (go_at_call 34; (with_reducible refine Calls.mono (ready_any B _ (htw.out _ E6)) ?_); rintro e u7 ⟨rfl, hu7⟩))
    go_ret
    exact ⟨rfl, hX4.trans (E6.trans hu7)⟩
end Go.Proofs.YthhbhjppljblnaaGreatDoor
