/- The law LackingIsLess. Conditions: as the theorem says. -/
import Derived.Test.YthhbhjppljblnaaGreatDoorLiJ45
import Derived.Test.YthhbhjppljblnaaGreatDoorLiJ47
set_option linter.unusedSimpArgs false
set_option linter.unusedVariables false
namespace Go.Proofs.YthhbhjppljblnaaGreatDoor
open Go Go.RowKit

theorem cloneVoi_any (p : Option Addr) (n c : Nat) (xs : List VoiceV) (w : World) (h : Slc 4 voiC w p n c xs) (hn : n ≤ 1000) :
    Calls Tryz.prog 42 #[.slice p n c] w fun e w' => ∃ v, e = .returned v ∧ w'.ownsRow w.heap.size 82 4 v n (xs.flatMap voiC) ∧ Ext w w' := by
  obtain ⟨hS, hnc, hp0, hp⟩ := h
  cases p with
  | none =>
    obtain rfl := hp0 rfl
    have hx : xs = [] := List.eq_nil_of_length_eq_zero hS.1
    subst hx
    exact (AnyE.slices_Clone_nil Tryz.lecVoice 0 c w).mono fun e w' ⟨he, hw⟩ => by
      subst hw
      exact ⟨_, he, World.ownsRow_nil _ _ _ _, Ext.refl _⟩
  | some a =>
    obtain ⟨b, off, rfl, hb⟩ := hp a rfl
    obtain ⟨i0, hi, hz0, hz1, hz2⟩ := info_parts (P := Tryz.prog) (e := 82) (z := .agg #[.string ⟨#[]⟩, .int .i64 0, .int .i64 0, .int .i64 0]) (size := 4) (bytes := 40) (by kernel_rfl)
    refine (AnyE.slices_Clone Tryz.lecVoice i0 _ 4 40 hi hz0 hz1 hz2 rfl (by decide) Tryz.sizeOf82 b off n c (xs.flatMap voiC) w (by rw [voi_flat_len, hS.1]) (by unfold maxLen; omega) (by omega) (fun j u hj => ?_) (fun u hu => ?_)).mono fun e w' ⟨v', he, ho, _, hb'⟩ => ⟨v', he, ho, hb'⟩
    · have hj' : j < xs.length * 4 := by rw [← voi_flat_len]; exact (List.getElem?_eq_some_iff.1 hj).1
      have hn0 : n ≠ 0 := by have := hS.1; omega
      obtain ⟨b', off', hpe, hb', hE⟩ := hS.2.2 hn0
      cases hpe
      obtain ⟨x, hx⟩ : ∃ x, xs[j / 4]? = some x := ⟨_, List.getElem?_eq_getElem (by omega)⟩
      have hjm : j % 4 < 4 := Nat.mod_lt _ (by omega)
      obtain ⟨u', hu'⟩ : ∃ u', (voiC x)[j % 4]? = some u' := ⟨_, List.getElem?_eq_getElem (by rw [voiC_len]; exact hjm)⟩
      have h1 := flat_at voiC_len xs (j / 4) x hx (j % 4) u' hu'
      have e5 : j / 4 * 4 + j % 4 = j := by omega
      rw [e5, hj] at h1
      cases h1
      have h2 := hE (j / 4) x hx (j % 4) u hu'
      rw [Nat.add_assoc, e5] at h2
      exact h2
    · obtain ⟨x, _, hu⟩ := List.mem_flatMap.1 hu
      exact voi_one x u hu

theorem lackV_in {V : List VoiceV} {P : List PartV} {t : Int} (hP : P.length ≤ 12) (hV : V.length ≤ 200) (hN : ∀ x ∈ P, 0 ≤ x.least ∧ x.least ≤ 1000) : 0 ≤ lackV V P t ∧ lackV V P t ≤ 12000 := by
  rw [lackV_max]
  exact ⟨maxF_zero _, maxF_le (fun j _ => (needV_le hP hV hN j).2) (by omega)⟩
set_option maxRecDepth 100000 in
set_option maxHeartbeats 12800000 in
theorem lawLI_any (B : Nat) (w : World) (p : Option Addr) (n c : Nat) (h : Lst w w.heap.size p n) (ht : Tab B w) :
    Calls Tryz.prog 7 #[.slice p n c] w fun e w' => e = .returned (.bool true) ∧ Ext w w' := by
  obtain ⟨xs, rfl, hL⟩ := lst_list h
  obtain ⟨L, hLd⟩ : ∃ L : Src, L = ⟨xs, w.heap.size⟩ := ⟨_, rfl⟩
  have hE0 : Ext w (w.alloc (.cells #[.slice p xs.length c, .int .i64 0] 25)) := (Ext.refl w).alloc _
  have hS0 : StrL (w.alloc (.cells #[.slice p xs.length c, .int .i64 0] 25)) w.heap.size L 0 := by
    subst hLd
    exact ⟨Nat.le_refl _, p, c, Blk.new' rfl, hL.low fun j hj => hE0.block j hj⟩
  have hvo := rightVoices_det w.heap.size 0 5 L _ (by omega) (by omega) hS0
  replace hvo := Lib.hid hvo
  clear h hL hLd hS0
  go_enter Tryz.func7, Tryz.ntmps7
  go_upto_region 3 with (first
    | (go_at_call 30; (with_reducible refine Calls.mono hvo.out ?_); rintro e w1 ⟨vp, n1, vc, V, k1, rfl, hV10, hoV, hVl, hVs, hvF, hF1, hk1, hS1, hE1⟩)
    | (go_at_call 31; (with_reducible refine Calls.mono (rightParts_det w.heap.size k1 L _ (by omega) hS1) ?_); rintro e w2 ⟨pp, n2, pc, P, k2, rfl, hP3, hoP, hPl, hPs, hpF, hF2, hk2, hS2, hE2⟩)
    | (go_at_call 32; (with_reducible refine Calls.mono (range_det w.heap.size k2 0 200 L _ (by omega) (by omega) (by omega) (by omega) (by omega) hS2) ?_); rintro e w3 ⟨rfl, hS3, hE3⟩))
  subst hVl
  subst hPl
  have hz0 : w.heap.size + 1 ≤ (w.alloc (.cells #[.slice p xs.length c, .int .i64 0] 25)).heap.size := by simp
  have hl1 := hS1.lt
  have hoV4 := own_extS hE3 (by omega) (own_extS hE2 (by omega) hoV)
  have hoP4 := own_extS hE3 (by omega) hoP
  have hX4 := ExtS.back (ExtS.back (ExtS.back hE0 (Nat.le_refl _) hE1) (Nat.le_refl _) hE2) (Nat.le_refl _) hE3
  have hnm : ∀ x ∈ V, x.name ∈ nm6 := by have := rvF_names L 5 6 0; rw [hF1] at this; exact this
  have ht1 := rgF_in (L := L) (a := k2) (lo := 0) (hi := 200) (by omega)
  clear hvo hoV hoP hE1 hE2 hE3 hE0 hF1 hF2 hS1 hS2 hS3 hz0 hl1
  generalize rgF L k2 0 200 = t at *
  obtain ⟨vp', vc', e9, hV4⟩ := slc_of_own voiC_len hoV4 (by decide) (by omega)
  cases e9
  obtain ⟨pp', pc', e9, hP4⟩ := slc_of_own partC_len hoP4 (by decide) (by omega)
  cases e9
  have hmo : momB t = true := inB_iff.2 (by omega)
  have hz : errL V P t = 0 := errL_zero.2 ⟨hvF, hpF, hmo⟩
  have hz2 : errL (V ++ [zoeV]) P t = 0 := errL_zero.2 ⟨voicesF_zoe hvF hnm, hpF, hmo⟩
  obtain ⟨hP12, hN⟩ := parts_need hpF
  have hM : VpM w3 vp vc V pp pc P := ⟨hV4, hP4, hVs, fun x hx => (hPs x hx).1, by omega, by omega⟩
  have hzs : ∀ x ∈ V ++ [zoeV], x.Small := fun x hx => by
    rcases List.mem_append.1 hx with h1 | h1
    · exact hVs x h1
    · rw [List.mem_singleton.1 h1]
      refine ⟨by decide, ?_, ?_, ?_⟩ <;> decide
  have hzl : (V ++ [zoeV]).length = V.length + 1 := by simp
  have c1 := fun u (hu : Ext w3 u) => lacking_good (hM.more hu) t hz
  have c2 := fun u (hu : Ext w3 u) => short_good (hM.more hu) t hz hP3
  have c3 := fun u (hu : Ext w3 u) => cloneVoi_any vp V.length vc V u (hM.voi.ext hu) (by omega)
  have c4 : ∀ u q k, Ext w3 u → Slc 4 voiC u q (V.length + 1) k (V ++ [zoeV]) → Calls Tryz.prog 23 #[.slice q (V.length + 1) k, .slice pp P.length pc, .int .i64 t] u fun e w' => e = .returned (.tuple #[.int .i64 (lackV (V ++ [zoeV]) P t), .int .i64 0]) ∧ Ext u w' := fun u q k hu hS => by
    have := lacking_good (w := u) (vp := q) (pp := pp) (vc := k) (pc := pc) (V := V ++ [zoeV]) (P := P) ⟨by rw [hzl]; exact hS, hM.par.ext hu, hzs, hM.sP, by rw [hzl]; omega, hM.nP⟩ t hz2
    rw [hzl] at this
    exact this
  obtain ⟨hl1, hl2⟩ := lackV_zoe (P := P) hnm ht1.1 hpF
  have hsl := shortV_len (V := V) (t := t) hP3
  obtain ⟨hb0, hb1⟩ := lackV_in (V := V) (t := t) hP12 (by omega) hN
  have hSn : ∀ u q m k, Slc 1 strC u q m k (shortV V P t) → m = (shortV V P t).length := fun u q m k h => h.1.1.symm
  have htw : ∀ u, Ext w3 u → Tab B u := fun u hu => ht.ext (hX4.trans hu)
  have hVn : V.length ≤ 1000 := by omega
  generalize lackV (V ++ [zoeV]) P t = mv at *
  generalize hnv : lackV V P t = nv at *
  generalize (shortV V P t).length = sl at *
  replace c1 := Lib.hid c1
  replace c2 := Lib.hid c2
  replace c3 := Lib.hid c3
  replace c4 := Lib.hid c4
  replace hSn := Lib.hid hSn
  replace htw := Lib.hid htw
  replace hnv := Lib.hid hnv
  clear hM hvF hpF hPs hVs hV4 hP4 hoV4 hoP4 hz hz2 hmo hN hzs hzl hnm
  by_cases hn0 : nv = 0
  · obtain rfl := hn0
    have hm0 : mv = 0 := hl1 rfl
    subst hm0
    have hs0 : sl = 0 := hsl.2 rfl
    subst hs0
    clear hl1 hl2 hsl
    go_wp2_with (first
      | (go_at_call 23; (with_reducible refine Calls.mono (c1.out _ (by exact Ext.refl _)) ?_); rintro e u1 ⟨rfl, hu1⟩)
      | (go_at_call 24; (with_reducible refine Calls.mono (c2.out _ hu1) ?_); rintro e u2 ⟨q2, m2, d2, rfl, hS2, hu2⟩; obtain rfl := hSn.out _ _ _ _ hS2; have E2 := hu1.trans hu2; clear hS2)
      | (go_at_call 42; (with_reducible refine Calls.mono (c3.out _ E2) ?_); rintro e u3 ⟨v3, rfl, hown3, hu3⟩; have E3 := E2.trans hu3; have hz3 := hu3.size)
      | (at_builtin; go_loud (refine wp_app1 _ (.tmp 38) (.tmp 41) 26 82 4 40 _ rfl rfl Tryz.underlying26 voiInfo rfl (by decide) (by decide) u2.heap.size _ V.length _ rfl (hown3.alloc _) u3.heap.size (voiC zoeV) rfl rfl (Blk.new' rfl) (voi_one _) (by omega) (by simp; omega) ?_; intro v' u6 hown6 hgrow6 _; rw [← flat_snoc] at hown6; obtain ⟨q6, c6, rfl, hS6⟩ := slc_of_own voiC_len hown6 (by decide) (by omega); have E6 := E2.trans (((hu3.alloc _)).app (hown3.alloc _) (Nat.le_refl _) hgrow6); replace hS6 := Lib.hid hS6))
      | (go_at_call 23; (with_reducible refine Calls.mono (c4.out _ _ _ E6 hS6.out) ?_); rintro e u8 ⟨rfl, hu8⟩; have E9 := E6.trans hu8)
      | (go_at_call 34; (with_reducible refine Calls.mono (ready_any B _ (htw.out _ E9)) ?_); rintro e u9 ⟨rfl, hu9⟩))
    go_ret
    exact ⟨rfl, hX4.trans (E9.trans hu9)⟩
  · have hm1 : mv = nv - 1 := hl2 hn0
    subst hm1
    have hs1 : ¬ sl = 0 := fun e => hn0 (hsl.1 e)
    have hs2 : ((sl : Int) == 0) = false := beq_false_of_ne (by omega)
    have hg1 : 0 < nv := by omega
    have hw1 : IntKind.i64.wrap (nv - 1) = nv - 1 := IntWalk.i64_in _ (by omega)
    have hz1 : (nv == 0) = false := beq_false_of_ne hn0
    clear hl1 hl2 hsl hn0
    go_wp2_with (first
      | (go_at_call 23; (with_reducible refine Calls.mono (c1.out _ (by exact Ext.refl _)) ?_); rintro e u1 ⟨rfl, hu1⟩)
      | (go_at_call 24; (with_reducible refine Calls.mono (c2.out _ hu1) ?_); rintro e u2 ⟨q2, m2, d2, rfl, hS2, hu2⟩; obtain rfl := hSn.out _ _ _ _ hS2; have E2 := hu1.trans hu2; clear hS2)
      | (go_at_call 42; (with_reducible refine Calls.mono (c3.out _ E2) ?_); rintro e u3 ⟨v3, rfl, hown3, hu3⟩; have E3 := E2.trans hu3; have hz3 := hu3.size)
      | (at_builtin; go_loud (refine wp_app1 _ (.tmp 38) (.tmp 41) 26 82 4 40 _ rfl rfl Tryz.underlying26 voiInfo rfl (by decide) (by decide) u2.heap.size _ V.length _ rfl (hown3.alloc _) u3.heap.size (voiC zoeV) rfl rfl (Blk.new' rfl) (voi_one _) (by omega) (by simp; omega) ?_; intro v' u6 hown6 hgrow6 _; rw [← flat_snoc] at hown6; obtain ⟨q6, c6, rfl, hS6⟩ := slc_of_own voiC_len hown6 (by decide) (by omega); have E6 := E2.trans (((hu3.alloc _)).app (hown3.alloc _) (Nat.le_refl _) hgrow6); replace hS6 := Lib.hid hS6))
      | (go_at_call 23; (with_reducible refine Calls.mono (c4.out _ _ _ E6 hS6.out) ?_); rintro e u8 ⟨rfl, hu8⟩; have E9 := E6.trans hu8)
      | (go_at_call 34; (with_reducible refine Calls.mono (ready_any B _ (htw.out _ E9)) ?_); rintro e u9 ⟨rfl, hu9⟩))
    go_ret
    exact ⟨rfl, hX4.trans (E9.trans hu9)⟩
end Go.Proofs.YthhbhjppljblnaaGreatDoor
