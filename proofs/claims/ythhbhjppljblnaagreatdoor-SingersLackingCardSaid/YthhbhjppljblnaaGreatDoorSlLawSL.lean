/- The law SingersLacking. Conditions: as the theorem says. -/
import Derived.Test.YthhbhjppljblnaaGreatDoorSlGiS
set_option linter.unusedSimpArgs false
set_option linter.unusedVariables false
namespace Go.Proofs.YthhbhjppljblnaaGreatDoor
open Go Go.RowKit

set_option maxRecDepth 100000 in
set_option maxHeartbeats 12800000 in
theorem lawSL_any (w : World) (p : Option Addr) (n c : Nat) (h : Lst w w.heap.size p n) :
    Calls Tryz.prog 4 #[.slice p n c] w fun e w' => e = .returned (.bool true) ∧ Ext w w' := by
  obtain ⟨xs, rfl, hL⟩ := lst_list h
  obtain ⟨L, hLd⟩ : ∃ L : Src, L = ⟨xs, w.heap.size⟩ := ⟨_, rfl⟩
  have hE0 : Ext w (w.alloc (.cells #[.slice p xs.length c, .int .i64 0] 25)) := (Ext.refl w).alloc _
  have hS0 : StrL (w.alloc (.cells #[.slice p xs.length c, .int .i64 0] 25)) w.heap.size L 0 := by
    subst hLd
    exact ⟨Nat.le_refl _, p, c, Blk.new' rfl, hL.low fun j hj => hE0.block j hj⟩
  have hvo := voiceRows_det w.heap.size 0 5 L _ (by omega) (by omega) hS0
  replace hvo := Lib.hid hvo
  clear h hL hLd hS0
  go_enter Tryz.func4, Tryz.ntmps4
  go_upto_region 3 with (first
    | (go_at_call 8; (with_reducible refine Calls.mono hvo.out ?_); rintro e w1 ⟨vp, n1, vc, V, k1, rfl, hV10, hoV, hVl, hVs, hF1, hk1, hS1, hE1⟩)
    | (go_at_call 9; (with_reducible refine Calls.mono (partList_det w.heap.size k1 L _ (by omega) hS1) ?_); rintro e w2 ⟨pp, n2, pc, P, k2, rfl, hP3, hoP, hPl, hPs, hF2, hk2, hS2, hE2⟩)
    | (go_at_call 10; (with_reducible refine Calls.mono (sometime_det w.heap.size k2 L _ (by omega) hS2) ?_); rintro e w7 ⟨rfl, hS7, hE7⟩))
  subst hVl
  subst hPl
  have hz0 : w.heap.size + 1 ≤ (w.alloc (.cells #[.slice p xs.length c, .int .i64 0] 25)).heap.size := by simp
  have hoV4 := own_extS hE7 (by omega) (own_extS hE2 (by omega) hoV)
  have hl1 := hS1.lt
  have hoP4 := own_extS hE7 (by omega) hoP
  have hX4 := ExtS.back (ExtS.back (ExtS.back hE0 (Nat.le_refl _) hE1) (Nat.le_refl _) hE2) (Nat.le_refl _) hE7
  clear hvo hoV hoP hE1 hE2 hE7 hE0 hF1 hF2 hS1 hS2 hS7 hz0 hl1
  obtain ⟨vp', vc', e9, hV4⟩ := slc_of_own voiC_len hoV4 (by decide) (by omega)
  cases e9
  obtain ⟨pp', pc', e9, hP4⟩ := slc_of_own partC_len hoP4 (by decide) (by omega)
  cases e9
  have hM : VpM w7 vp vc V pp pc P := ⟨hV4, hP4, hVs, fun x hx => (hPs x hx).1, by omega, by omega⟩
  clear hV4 hP4 hVs hPs hoV4 hoP4
  generalize smtF L k2 = t at *
  have c1 := fun u (hu : Ext w7 u) => voicesFault_any vp V.length vc V u (hM.more hu).voi.1 hM.sV hM.nV
  have c2 := fun u (hu : Ext w7 u) => faultParts_any pp P.length pc P u (hM.more hu).par.1 hM.sP hM.nP hM.par.2.1
  have c3 := fun u => momF_any t u
  have herr := errL_or V P t
  obtain ⟨fm, hfm⟩ : ∃ f : Int, (if momB t then 0 else 1) = f := ⟨_, rfl⟩
  simp only [hfm] at c3 herr
  replace hfm := Lib.hid hfm
  have c7 : ∀ u, Calls Tryz.prog 17 #[] u fun e w' => e = .returned (.bool true) ∧ Ext u w' := voiced_any
  by_cases hz : errL V P t = 0
  · obtain ⟨z1, z2, z3⟩ := errL_zero.1 hz
    obtain ⟨hP12, hN⟩ := parts_need z2
    have c4 := fun u (hu : Ext w7 u) => lacking_good (hM.more hu) t hz
    have c5 := fun u (hu : Ext w7 u) => short_good (hM.more hu) t hz hP3
    have c6 := fun u (hu : Ext w7 u) => shifts_good (hM.more hu) t hz
    have d4 := fun u (hu : Ext w7 u) => lackingOf_any (hM.more hu) t hP12 hN
    have d5 := fun u (hu : Ext w7 u) => shortOf_any (hM.more hu) t hP3 hN
    have d6 := fun u (hu : Ext w7 u) => shiftsOf_any (hM.more hu) t hP12 hN
    rw [hz] at herr
    have hsl : (shortV V P t).length ≤ 1000 := by
      unfold shortV
      split
      · simp
      · unfold namesF; rw [List.length_map]; exact Nat.le_trans (numL_len _) (by omega)
    have hfl : (shiftsV V P t).length ≤ 1000 := Nat.le_trans (spanL_len V P t 25) (by omega)
    generalize hlv : lackV V P t = lv at *
    replace herr := Lib.hid herr
    replace hlv := Lib.hid hlv
    replace c1 := Lib.hid c1
    replace c2 := Lib.hid c2
    replace c3 := Lib.hid c3
    replace c4 := Lib.hid c4
    replace c5 := Lib.hid c5
    replace c6 := Lib.hid c6
    replace c7 := Lib.hid c7
    replace d4 := Lib.hid d4
    replace d5 := Lib.hid d5
    replace d6 := Lib.hid d6
    clear hM hN hz z1 z2 z3
    go_wp2_with (first
      | (go_at_call 12; (with_reducible refine Calls.mono (c1.out _ (by exact Ext.refl _)) ?_); rintro e u1 ⟨rfl, hu1⟩)
      | (go_at_call 13; (with_reducible refine Calls.mono (c2.out _ (by exact hu1)) ?_); rintro e u2 ⟨rfl, hu2⟩)
      | (go_at_call 22; (with_reducible refine Calls.mono (c3.out _) ?_); rintro e u3 ⟨rfl, hu3⟩; have E3 := (hu1.trans hu2).trans hu3)
      | (go_at_call 11; (refine (orErr_blk _ _ _ [voicesF V, partsF P, fm] _ (by simp) (by exact Blk.new' rfl)).mono ?_; rintro e x4 ⟨rfl, rfl⟩; rw [herr.out]; have E4 := E3.alloc (.cells #[.int .i64 (voicesF V), .int .i64 (partsF P), .int .i64 fm] 31)))
      | (go_at_call 23; (with_reducible refine Calls.mono (c4.out _ E4) ?_); rintro e u5 ⟨rfl, hu5⟩; have E5 := E4.trans hu5)
      | (go_at_call 24; (with_reducible refine Calls.mono (c5.out _ E5) ?_); rintro e u6 ⟨q6, m6, d6x, rfl, hS6, hu6⟩; have E6 := E5.trans hu6)
      | (go_at_call 25; (with_reducible refine Calls.mono (c6.out _ E6) ?_); rintro e u7 ⟨q7, m7, d7x, rfl, hS7, hu7⟩; have E7 := E6.trans hu7; have hS67 := hS6.ext hu7)
      | (go_at_call 26; (with_reducible refine Calls.mono (d4.out _ E7) ?_); rintro e u8 ⟨rfl, hu8⟩; have E8 := E7.trans hu8)
      | (go_at_call 27; (with_reducible refine Calls.mono (d5.out _ E8) ?_); rintro e u9 ⟨q9, m9, d9x, rfl, hS9, hu9⟩; have E9 := E8.trans hu9; have hS69 := hS67.ext (hu8.trans hu9); obtain rfl : m9 = m6 := hS9.1.1.symm.trans hS69.1.1; have hm6 : m9 ≤ 1000 := by have := hS9.1.1; omega)
      | (go_at_call 21; (with_reducible refine Calls.mono (eqStrV_any _ _ _ _ _ _ _ hS69 hS9 hm6) ?_); rintro e u10 ⟨rfl, hu10⟩; have E10 := E9.trans hu10)
      | (go_at_call 29; (with_reducible refine Calls.mono (d6.out _ E10) ?_); rintro e u11 ⟨q11, m11, d11x, rfl, hS11, hu11⟩; have E11 := E10.trans hu11; have hS711 := hS7.ext (((hu8.trans hu9).trans hu10).trans hu11); obtain rfl : m11 = m7 := hS11.1.1.symm.trans hS711.1.1; have hm7 : m11 ≤ 100000 := by have := hS11.1.1; omega)
      | (go_at_call 28; (with_reducible refine Calls.mono (eqInt_any _ _ _ _ _ _ _ hS711 hS11 hm7) ?_); rintro e u12 ⟨rfl, hu12⟩; have E12 := E11.trans hu12)
      | (go_at_call 17; (with_reducible refine Calls.mono (c7.out _) ?_); rintro e u13 ⟨rfl, hu13⟩))
    go_ret
    exact ⟨rfl, hX4.trans (E12.trans hu13)⟩
  · have c4 := fun u (hu : Ext w7 u) => lacking_bad (hM.more hu) t hz
    have c5 := fun u (hu : Ext w7 u) => short_bad (hM.more hu) t hz
    have c6 := fun u (hu : Ext w7 u) => shifts_bad (hM.more hu) t hz
    generalize errL V P t = er at *
    have hne : (er == 0) = false := beq_false_of_ne hz
    replace herr := Lib.hid herr
    replace c1 := Lib.hid c1
    replace c2 := Lib.hid c2
    replace c3 := Lib.hid c3
    replace c4 := Lib.hid c4
    replace c5 := Lib.hid c5
    replace c6 := Lib.hid c6
    replace c7 := Lib.hid c7
    clear hM
    go_wp2_with (first
      | (go_at_call 12; (with_reducible refine Calls.mono (c1.out _ (by exact Ext.refl _)) ?_); rintro e u1 ⟨rfl, hu1⟩)
      | (go_at_call 13; (with_reducible refine Calls.mono (c2.out _ (by exact hu1)) ?_); rintro e u2 ⟨rfl, hu2⟩)
      | (go_at_call 22; (with_reducible refine Calls.mono (c3.out _) ?_); rintro e u3 ⟨rfl, hu3⟩; have E3 := (hu1.trans hu2).trans hu3)
      | (go_at_call 11; (refine (orErr_blk _ _ _ [voicesF V, partsF P, fm] _ (by simp) (by exact Blk.new' rfl)).mono ?_; rintro e x4 ⟨rfl, rfl⟩; rw [herr.out]; have E4 := E3.alloc (.cells #[.int .i64 (voicesF V), .int .i64 (partsF P), .int .i64 fm] 31)))
      | (go_at_call 23; (with_reducible refine Calls.mono (c4.out _ E4) ?_); rintro e u5 ⟨rfl, hu5⟩; have E5 := E4.trans hu5)
      | (go_at_call 24; (with_reducible refine Calls.mono (c5.out _ E5) ?_); rintro e u6 ⟨rfl, hu6⟩; have E6 := E5.trans hu6)
      | (go_at_call 25; (with_reducible refine Calls.mono (c6.out _ E6) ?_); rintro e u7 ⟨rfl, hu7⟩; have E7 := E6.trans hu7)
      | (go_at_call 17; (with_reducible refine Calls.mono (c7.out _) ?_); rintro e u13 ⟨rfl, hu13⟩))
    go_ret
    exact ⟨rfl, hX4.trans (E7.trans hu13)⟩
end Go.Proofs.YthhbhjppljblnaaGreatDoor
