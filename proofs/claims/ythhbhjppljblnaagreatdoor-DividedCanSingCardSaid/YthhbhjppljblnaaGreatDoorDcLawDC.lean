/- The law DividedCanSing. Conditions: as the theorem says. -/
import Derived.Test.YthhbhjppljblnaaGreatDoorDcJ45
import Derived.Test.YthhbhjppljblnaaGreatDoorDcVoF
import Derived.Test.YthhbhjppljblnaaGreatDoorDcJ47
set_option linter.unusedSimpArgs false
set_option linter.unusedVariables false
namespace Go.Proofs.YthhbhjppljblnaaGreatDoor
open Go Go.RowKit Go.Maps

set_option maxRecDepth 100000 in
set_option maxHeartbeats 12800000 in
theorem lawDC_any (B : Nat) (w : World) (p : Option Addr) (n c : Nat) (h : Lst w w.heap.size p n) (ht : Tab B w) :
    Calls Tryz.prog 5 #[.slice p n c] w fun e w' => e = .returned (.bool true) ∧ Ext w w' := by
  obtain ⟨xs, rfl, hL⟩ := lst_list h
  obtain ⟨L, hLd⟩ : ∃ L : Src, L = ⟨xs, w.heap.size⟩ := ⟨_, rfl⟩
  have hE0 : Ext w (w.alloc (.cells #[.slice p xs.length c, .int .i64 0] 25)) := (Ext.refl w).alloc _
  have hS0 : StrL (w.alloc (.cells #[.slice p xs.length c, .int .i64 0] 25)) w.heap.size L 0 := by
    subst hLd
    exact ⟨Nat.le_refl _, p, c, Blk.new' rfl, hL.low fun j hj => hE0.block j hj⟩
  have hvo := rightVoices_det w.heap.size 0 5 L _ (by omega) (by omega) hS0
  replace hvo := Lib.hid hvo
  clear h hL hLd hS0
  go_enter Tryz.func5, Tryz.ntmps5
  go_upto_region 3 with (first
    | (go_at_call 30; (with_reducible refine Calls.mono hvo.out ?_); rintro e w1 ⟨vp, n1, vc, V, k1, rfl, hV10, hoV, hVl, hVs, hvF, hF1, hk1, hS1, hE1⟩)
    | (go_at_call 31; (with_reducible refine Calls.mono (rightParts_det w.heap.size k1 L _ (by omega) hS1) ?_); rintro e w2 ⟨pp, n2, pc, P, k2, rfl, hP3, hoP, hPl, hPs, hpF, hF2, hk2, hS2, hE2⟩)
    | (go_at_call 32; (with_reducible refine Calls.mono (range_det w.heap.size k2 0 200 L _ (by omega) (by omega) (by omega) (by omega) (by omega) hS2) ?_); rintro e w3 ⟨rfl, hS3, hE3⟩))
  subst hVl
  subst hPl
  have hz0 : w.heap.size + 1 ≤ (w.alloc (.cells #[.slice p xs.length c, .int .i64 0] 25)).heap.size := by simp
  have hl1 := hS1.lt
  have hoV4 := own_extS hE3 (by omega) (own_extS hE2 (by omega) hoV)
  have hoP4 := own_extS hE3 (by omega) hoP
  have hX4 := ExtS.back (ExtS.back (ExtS.back hE0 (Nat.le_refl _) hE1) (Nat.le_refl _) hE2) (Nat.le_refl _) hE3
  have ht1 := rgF_in (L := L) (a := k2) (lo := 0) (hi := 200) (by omega)
  clear hvo hoV hoP hE1 hE2 hE3 hE0 hF1 hF2 hS1 hS2 hS3 hz0 hl1
  generalize rgF L k2 0 200 = t at *
  obtain ⟨vp', vc', e9, hV4⟩ := slc_of_own voiC_len hoV4 (by decide) (by omega)
  cases e9
  obtain ⟨pp', pc', e9, hP4⟩ := slc_of_own partC_len hoP4 (by decide) (by omega)
  cases e9
  have hmo : momB t = true := inB_iff.2 (by omega)
  have hM : VpM w3 vp vc V pp pc P := ⟨hV4, hP4, hVs, fun x hx => (hPs x hx).1, by omega, by omega⟩
  have hz : errV V P t = 0 := by
    unfold errV
    rw [if_pos (errL_zero.2 ⟨hvF, hpF, hmo⟩), if_pos ⟨by have := singers_len V t; omega, by omega⟩]
  have htw : ∀ u, Ext w3 u → Tab B u := fun u hu => ht.ext (hX4.trans hu)
  have hsg := fun u (hu : Ext w3 u) => singersV_good (hM.more hu) t hvF hmo
  have hSl := singers_len V t
  have hpar := hM.par
  replace htw := Lib.hid htw
  replace hsg := Lib.hid hsg
  clear hoV4 hoP4 hV4 hP4
  by_cases hf : fromF P (comL V t P) [0, 0, 0, 0] = -1
  · have hdn := divide_none hM t hz hf
    replace hdn := Lib.hid hdn
    clear hf hz hM hpar
    go_wp2_with (first
      | (go_at_call 15; (with_reducible refine Calls.mono hdn.out ?_); rintro e wd1 ⟨rfl, hu1⟩)
      | (go_at_call 33; (with_reducible refine Calls.mono (hsg.out _ hu1) ?_); rintro e wd2 ⟨sp, sc, rfl, hsS, hu2⟩; have E2 := hu1.trans hu2)
      | (go_at_call 34; (with_reducible refine Calls.mono (ready_any B _ (htw.out _ E2)) ?_); rintro e u9 ⟨rfl, hu9⟩))
    go_ret
    exact ⟨rfl, hX4.trans (E2.trans hu9)⟩
  · have hds := divide_some hM t hz hf
    have hCS := comL_len V t P
    have hmost : ∀ x ∈ P, 0 ≤ x.most := fun x hx => by
      have h3 := ((partsF_right hpF).2 x hx).2
      unfold rightP at h3
      simp only [Bool.and_eq_true] at h3
      have h4 := inB_iff.1 h3.1.2
      omega
    have hPr : ∀ x ∈ P, rightR x.lo x.hi = true := fun x hx => by
      have h3 := ((partsF_right hpF).2 x hx).2
      unfold rightP at h3
      simp only [Bool.and_eq_true] at h3
      exact h3.1.1
    have hcnt := fun p (x : PartV) (hx : P[p]? = some x) => divG_cnt hf (by omega) hmost hx
    have hPd := fun (i j : Nat) (a b : PartV) hi hj hij => parts_once (x := a) (y := b) hpF (i := i) (j := j) hi hj hij
    obtain ⟨hgl, hgk⟩ := divG_ok _ _ hf
    have hTl := divN_len hf hCS
    have hsum := divG_sum hf
    have hrat := fun u (hu : Ext w3 u) p hp hk a b hr => rangeAtV_good (hM.more hu) t hvF hmo p hp hk (a := a) (b := b) hr
    have hSk := singers_key (t := t) hvF
    have hSs := singers_small hVs t
    have hSr : ∀ s ∈ singersL V t, ∃ a b, rgS V t V.length s = some (a, b) ∧ rightR a b = true := fun s hs => by
      obtain ⟨⟨a, b⟩, hab⟩ := Option.isSome_iff_exists.1 ((singers_mem s).1 hs)
      exact ⟨a, b, hab, rgOf_right (fun x hx => (voices_right hvF x hx).2) V.length (Nat.le_refl _) a b hab⟩
    have hCr : ∀ i s k x a b, (singersL V t)[i]? = some s → P[k]? = some x → rgS V t V.length s = some (a, b) → ((comL V t P).getD i []).getD k (-1) = comfN a b x.lo x.hi := fun i s k x a b hs hx hab => by
      have h1 : (comL V t P).getD i [] = comRow V t P s := by rw [List.getD_eq_getElem?_getD, comL_at hs]; rfl
      rw [h1, List.getD_eq_getElem?_getD, comRow_at hx, hab]
      rfl
    have hTa := fun i s k x (hs : (singersL V t)[i]? = some s) (hk : (divG P (comL V t P) [0, 0, 0, 0])[i]? = some k) (hx : P[k]? = some x) => divN_at (S := singersL V t) hs hk hx
    have hcz := fun p (x : PartV) (hx : P[p]? = some x) => cnt_zip hx hPd (singersL V t) (divG P (comL V t P) [0, 0, 0, 0]) (by omega) (fun k hk => by
      obtain ⟨i, hi⟩ := List.getElem?_of_mem hk
      exact (hgk i k hi).1)
    have hCb := comL_bound hVs (fun x hx => (hPs x hx).1) t
    have hPn : ∀ x ∈ P, x.name.size ≤ 1000 ∧ (0 ≤ x.least ∧ x.least ≤ 1000) ∧ (0 ≤ x.most ∧ x.most ≤ 1000) := fun x hx => by
      have h1 := (parts_need hpF).2 x hx
      have h2 := (hPs x hx).1
      have h3 := hmost x hx
      exact ⟨h2.1, h1, h3, h2.2.2.2.2.2⟩
    obtain ⟨T, hT⟩ : ∃ T, divN P (singersL V t) (comL V t P) [0, 0, 0, 0] = T := ⟨_, rfl⟩
    have hcz2 : ∀ p (x : PartV), P[p]? = some x → cntP T x.name = cntG (divG P (comL V t P) [0, 0, 0, 0]) p := fun p x hx => by rw [← hT]; exact hcz p x hx
    rw [hT] at hds hTl
    simp only [hT] at hTa
    generalize divG P (comL V t P) [0, 0, 0, 0] = g at *
    generalize hbest : fromF P (comL V t P) [0, 0, 0, 0] = best at *
    have hsd := fun {i k : Nat} (hk : g[i]? = some k) => sumG_drop (C := comL V t P) (g := g) hgl hk
    generalize comL V t P = C at *
    generalize singersL V t = S at *
    replace hds := Lib.hid hds
    have hSC : S.length = C.length := hCS.symm
    have hC10 : C.length ≤ 10 := by omega
    replace hCS := Lib.hid hCS
    replace hcnt := Lib.hid hcnt
    replace hPd := Lib.hid hPd
    replace hgk := Lib.hid hgk
    replace hsum := Lib.hid hsum
    replace hrat := Lib.hid hrat
    replace hSk := Lib.hid hSk
    replace hSs := Lib.hid hSs
    replace hSr := Lib.hid hSr
    replace hCr := Lib.hid hCr
    replace hTa := Lib.hid hTa
    replace hcz2 := Lib.hid hcz2
    replace hCb := Lib.hid hCb
    replace hPn := Lib.hid hPn
    replace hPr := Lib.hid hPr
    replace hT := Lib.hid hT
    replace hbest := Lib.hid hbest
    clear hcz hmost hM hz hf
    have hmm := @run_makeMap Tryz.prog
    go_upto_region 13 with (first
      | (go_at_call 15; (with_reducible refine Calls.mono hds.out ?_); rintro e wd1 ⟨tp, tc, rfl, hsT, hu1⟩; replace hsT := Lib.hid hsT)
      | (go_at_call 33; (with_reducible refine Calls.mono (hsg.out _ hu1) ?_); rintro e wd2 ⟨sp, sc, rfl, hsS, hu2⟩; have E2 := hu1.trans hu2; replace hsS := Lib.hid hsS))
    have hO0 : OwnK strI (wd2.alloc (.map #[] 0)) wd2.heap.size 0 (fun _ => none) := OwnK.made wd2
    have hE9 : Ext wd2 (wd2.alloc (.map #[] 0)) := (Ext.refl _).alloc _
    have hgm0 : wd2.heap.size ≤ wd2.heap.size := Nat.le_refl _
    generalize wd2.alloc (.map #[] 0) = W1 at *
    generalize hgm : wd2.heap.size = gm at *
    replace hgm := Lib.hid hgm
    replace hO0 := Lib.hid hO0
    clear hmm hds hsg
    go_wp2
    go_loopw [75, 13] (fun v75 v13 wr => ∃ (i : Nat) (acc : Int) (f : ByteArray → Option Int), v75 = .int .i64 i ∧ v13 = .int .i64 acc ∧ i ≤ C.length ∧ acc + sumG (C.drop i) (g.drop i) = best ∧ (0 ≤ acc ∧ acc ≤ 2000 * i) ∧ OwnK strI wr gm i f ∧ (∀ nm, (f nm).getD 0 = (cntP (T.take i) nm : Int)) ∧ Ext wd2 wr) (fun v75 _ _ => C.length - (intOf v75).toNat)
    case atStart => exact ⟨0, 0, _, rfl, rfl, Nat.zero_le _, by rw [List.drop_zero, List.drop_zero, Int.zero_add]; exact hsum.out, ⟨by omega, by omega⟩, hO0.out, fun nm => rfl, hE9⟩
    case round =>
      clear hE9
      obtain ⟨i, acc, f, rfl, rfl, hi, hacc, ⟨ha1, ha2⟩, hO, hfc, hE⟩ := hrel
      by_cases hlt : i < C.length
      · obtain ⟨s, hs⟩ := getD_some hSC hlt
        obtain ⟨k, hk⟩ := getD_some hgl hlt
        obtain ⟨hkP, hk0⟩ := hgk.out i k hk
        obtain ⟨x, hx⟩ := getD_some (rfl : P.length = P.length) hkP
        have hTi := hTa.out i s k x hs hk hx
        obtain ⟨a, b, hab, hrr⟩ := hSr.out s (List.mem_of_getElem? hs)
        have hcr := hCr.out i s k x a b hs hx hab
        have hstep := hsd hk
        have hcfb : (C.getD i []).getD k (-1) ≤ 2000 := by
          obtain ⟨r, hr⟩ := getD_some (rfl : C.length = C.length) hlt
          have h1 : C.getD i [] = r := by rw [List.getD_eq_getElem?_getD, hr]; rfl
          rw [h1, List.getD_eq_getElem?_getD]
          cases e : r[k]? with
          | none => simp
          | some v => exact (hCb.out r (List.mem_of_getElem? hr) v (List.mem_of_getElem? e)).2
        have hxR := hPr.out x (List.mem_of_getElem? hx)
        have hxn := (hPn.out x (List.mem_of_getElem? hx)).1
        have hss := hSs.out s (List.mem_of_getElem? hs)
        have hsk := hSk.out s (List.mem_of_getElem? hs)
        rw [hcr] at hk0 hstep hcfb
        have hcm := fun u => comfortC_good a b x.lo x.hi u hrr hxR hk0
        obtain ⟨cf, hcf⟩ : ∃ cf, comfN a b x.lo x.hi = cf := ⟨_, rfl⟩
        rw [hcf] at hk0 hstep hcfb
        simp only [hcf] at hcm
        have hnx : acc + cf + sumG (C.drop (i + 1)) (g.drop (i + 1)) = best := by omega
        obtain ⟨-, ⟨_, e9⟩ | ⟨tb, toff, rfl, htb, htE⟩⟩ := slcC (hsT.out.ext (hu2.trans hE))
        · rw [e9] at hTi; cases hTi
        have e1 := htE i _ hTi 0 _ rfl
        have e2 := htE i _ hTi 1 _ rfl
        simp only [Nat.add_zero] at e1
        obtain ⟨-, ⟨_, e9⟩ | ⟨sb, soff, rfl, hsb, hsE⟩⟩ := slcC (hsS.out.ext hE)
        · rw [e9] at hs; cases hs
        have e3 := hsE.str hs
        obtain ⟨-, ⟨_, e9⟩ | ⟨pb, poff, rfl, hpb, hpE⟩⟩ := slcC (hpar.ext (E2.trans hE))
        · rw [e9] at hx; cases hx
        obtain ⟨c0, c1, c2, c3, c4⟩ := hpE.part hx
        have hiC : (i : Int) < C.length := by omega
        have hkI : (k : Int) < P.length := by omega
        have hkn : ¬ (k : Int) < 0 := by omega
        have hX : Blk (wr.alloc (.cells #[.string s, .string x.name] 49)) wr.heap.size 49 #[.string s, .string x.name] := Blk.new' rfl
        have hEx : Ext wr (wr.alloc (.cells #[.string s, .string x.name] 49)) := (Ext.refl _).alloc _
        have hidx := pairIdx s wr.heap.size pb poff pc P _ hX (by omega) (Nat.lt_of_lt_of_le hpb hEx.size) (hpE.ext hEx hpb) hx (fun j y hj hy => hPd.out j k y x hy hx hj)
        have hE4 := hE.trans hEx
        have hXl := hX.lt
        replace hs := Lib.hid hs
        replace hk := Lib.hid hk
        replace hx := Lib.hid hx
        replace hTi := Lib.hid hTi
        replace hstep := Lib.hid hstep
        replace hnx := Lib.hid hnx
        replace hidx := Lib.hid hidx
        replace hcm := Lib.hid hcm
        replace hfc := Lib.hid hfc
        replace hab := Lib.hid hab
        replace hO := Lib.hid hO
        clear hcr hcf hacc htE hsE hpE c0 c3 c4
        go_upto_region 16 with fail
        generalize wr.alloc (.cells #[.string s, .string x.name] 49) = W4 at *
        generalize hgP : wr.heap.size = gP at *
        replace hgP := Lib.hid hgP
        go_upto_region 18 with (first
          | (go_at_call 35; (with_reducible refine Calls.mono hidx.out ?_); rintro e w5 ⟨rfl, hb5⟩; have hE5 := hE4.trans hb5; obtain ⟨y1, -⟩ := (hX.ext hb5).walk; have hXl5 := (hX.ext hb5).lt)
          | (go_at_call 37; (with_reducible refine Calls.mono (hrat.out _ (E2.trans hE5) s hss hsk a b hab.out) ?_); rintro e w6 ⟨rfl, hb6⟩))
        have hE6 := hE5.trans hb6
        have hR7 : Blk (w6.alloc (.cells #[.int .i64 a, .int .i64 b] 68)) w6.heap.size 68 #[.int .i64 a, .int .i64 b] := Blk.new' rfl
        have hE67 : Ext w6 (w6.alloc (.cells #[.int .i64 a, .int .i64 b] 68)) := (Ext.refl _).alloc _
        have hX7 := ((hX.ext hb5).ext hb6).ext hE67
        have hE7 := hE6.trans hE67
        have h47 := hEx.trans (hb5.trans (hb6.trans hE67))
        rw [← hgP.out] at hsb hpb
        have hsb7 := Nat.lt_of_lt_of_le hsb h47.size
        have hpb7 := Nat.lt_of_lt_of_le hpb h47.size
        have e37 := (h47.walk.1 _ _ hsb).trans e3
        have c17 := (h47.walk.1 _ _ hpb).trans c1
        have c27 := (h47.walk.1 _ _ hpb).trans c2
        have hO7 := hO.out.ext h47
        generalize w6.alloc (.cells #[.int .i64 a, .int .i64 b] 68) = W7 at *
        generalize w6.heap.size = gR at *
        clear y1 hXl5 hb5 hb6 hE67 hE4 hE5 hE6 hEx hX e1 e2 e3 c1 c2 hidx hXl hsb hpb htb hO h47 hE
        refine wp_region_facts [] [([], false, false), ([0], false, false), ([0, 1], false, false), ([0, 1, 2], false, false), ([0, 1, 2, 3], false, false), ([0, 1, 2, 3, 4], false, false), ([0, 1, 2, 3, 4, 5], false, false), ([0, 1, 2, 3, 4, 5, 6], false, false), ([0, 1, 2, 3, 4, 5, 6, 7], false, false), ([0, 1, 2, 3, 4, 5, 6, 7, 8], false, false), ([0, 1, 2, 3, 4, 5, 6, 7, 8, 9], false, false), ([0, 1, 2, 3, 4, 5, 6, 7, 8, 9, 10], false, false), ([0, 1, 2, 3, 4, 5, 6, 7, 8, 9, 10, 11], false, false), ([0, 1, 2, 3, 4, 5, 6, 7, 8, 9, 10], false, false), ([0, 1, 2, 3, 4, 5, 6, 7, 8, 9, 10], false, false), ([0, 1, 2, 3, 4, 5, 6, 7, 8, 9, 10, 13, 14], false, false), ([0, 1, 2, 3, 4, 5, 6, 7, 8, 9, 10, 13, 14, 15], false, false), ([0, 1, 2, 3, 4, 5, 6, 7, 8, 9, 10, 11, 12, 13, 14, 15, 16], false, false), ([0, 1, 2, 3, 4, 5, 6, 7, 8, 9, 10, 11, 12, 13, 14, 15, 16, 17], false, false)] (Ext) Ext (fun _ => True) (by kernel_rfl) (by kernel_rfl) Ext.refl (fun _ _ _ => Ext.trans) (fun _ _ h => h) (fun _ _ h => h.size) (fun _ _ h _ => h) trivial ?_
        dsimp only [List.length_cons, List.length_nil, List.drop_succ_cons, List.drop_zero, List.drop_nil]
        refine fac_quiet 0 rfl rfl rfl (fun _ _ h _ => h) rfl rfl ?_
        apply Exists.intro
        refine ⟨fun sv w' hw' hfa => ?_, ?_⟩
        · refine ⟨rfl, ?_⟩
          simp only [putsL]
          change quietTo _ _ _ _ (Sem.run _ (execOp (Act.eval _) _) _)
          try simp only [Act.put, List.setIfInBounds_toArray, List.set_cons_succ, List.set_cons_zero]
          simp [go_sem, quietTo, Ext.refl]
          all_goals first
            | rfl
        refine fac_quiet 1 rfl rfl rfl (fun _ _ h _ => h) rfl rfl ?_
        apply Exists.intro
        refine ⟨fun sv w' hw' hfa => ?_, ?_⟩
        · obtain ⟨f0, -⟩ := hfa
          replace f0 : sv 0 = _ := f0
          try dsimp only at f0
          have hk9 := (Ext.refl W7).drew.trans hw'; obtain ⟨y1, -⟩ := (hX7.ext hk9).walk; have y2 := (hk9.walk.1 _ _ hsb7).trans e37
          refine ⟨rfl, ?_⟩
          simp only [putsL]
          change quietTo _ _ _ _ (Sem.run _ (execOp (Act.eval (Act.put _ (some 92) (sv 0))) _) _)
          try simp only [Act.put, List.setIfInBounds_toArray, List.set_cons_succ, List.set_cons_zero]
          simp [go_sem, quietTo, Ext.refl, ↓IntWalk.iteOmega, f0, hkn]
          all_goals try simp (disch := omega) only [IntWalk.i64_in]
          all_goals first
            | rfl
        refine fac_quiet 2 rfl rfl rfl (fun _ _ h _ => h) rfl rfl ?_
        apply Exists.intro
        refine ⟨fun sv w' hw' hfa => ?_, ?_⟩
        · obtain ⟨_, f1, -⟩ := hfa
          replace f1 : sv 1 = _ := f1
          try dsimp only at f1
          refine ⟨rfl, ?_⟩
          simp only [putsL]
          change quietTo _ _ _ _ (Sem.run _ (execOp (Act.eval (Act.put (Act.put _ (some 93) (sv 1)) (some 92) (sv 0))) _) _)
          try simp only [Act.put, List.setIfInBounds_toArray, List.set_cons_succ, List.set_cons_zero]
          simp [go_sem, quietTo, Ext.refl, f1]
          all_goals first
            | rfl
        refine fac_quiet 3 rfl rfl rfl (fun _ _ h _ => h) rfl rfl ?_
        apply Exists.intro
        refine ⟨fun sv w' hw' hfa => ?_, ?_⟩
        · obtain ⟨_, _, f2, -⟩ := hfa
          replace f2 : sv 2 = _ := f2
          try dsimp only at f2
          refine ⟨by simp [Region.wanted, yielded, putsL, Act.put, f2], ?_⟩
          simp only [putsL]
          change quietTo _ _ _ _ (Sem.run _ (execOp (Act.eval (Act.put (Act.put (Act.put _ (some 94) (sv 2)) (some 93) (sv 1)) (some 92) (sv 0))) _) _)
          try simp only [Act.put, List.setIfInBounds_toArray, List.set_cons_succ, List.set_cons_zero]
          simp [go_sem, quietTo, Ext.refl, f2]
          all_goals first
            | rfl
        refine fac_quiet 4 rfl rfl rfl (fun _ _ h _ => h) rfl rfl ?_
        apply Exists.intro
        refine ⟨fun sv w' hw' hfa => ?_, ?_⟩
        · obtain ⟨_, _, f2, f3, -⟩ := hfa
          replace f2 : sv 2 = _ := f2
          try dsimp only at f2
          replace f3 : sv 3 = _ := f3
          try dsimp only at f3
          refine ⟨by simp [Region.wanted, yielded, putsL, Act.put, f2, f3], ?_⟩
          simp only [putsL]
          change quietTo _ _ _ _ (Sem.run _ (execOp (Act.eval (Act.put (Act.put (Act.put (Act.put _ (some 95) (sv 3)) (some 94) (sv 2)) (some 93) (sv 1)) (some 92) (sv 0))) _) _)
          try simp only [Act.put, List.setIfInBounds_toArray, List.set_cons_succ, List.set_cons_zero]
          simp [go_sem, quietTo, Ext.refl, ↓IntWalk.iteOmega, f2, f3]
          all_goals try simp (disch := omega) only [IntWalk.i64_in]
          all_goals first
            | rfl
        refine fac_quiet 5 rfl rfl rfl (fun _ _ h _ => h) rfl rfl ?_
        apply Exists.intro
        refine ⟨fun sv w' hw' hfa => ?_, ?_⟩
        · obtain ⟨_, _, f2, _, f4, -⟩ := hfa
          replace f2 : sv 2 = _ := f2
          try dsimp only at f2
          replace f4 : sv 4 = _ := f4
          try dsimp only at f4
          refine ⟨rfl, ?_⟩
          simp only [putsL]
          change quietTo _ _ _ _ (Sem.run _ (execOp (Act.eval (Act.put (Act.put (Act.put (Act.put (Act.put _ (some 96) (sv 4)) (some 95) (sv 3)) (some 94) (sv 2)) (some 93) (sv 1)) (some 92) (sv 0))) _) _)
          try simp only [Act.put, List.setIfInBounds_toArray, List.set_cons_succ, List.set_cons_zero]
          simp [go_sem, quietTo, Ext.refl, ↓IntWalk.iteOmega, f2, f4]
          all_goals try simp (disch := omega) only [IntWalk.i64_in]
          all_goals first
            | rfl
        refine fac_quiet 6 rfl rfl rfl (fun _ _ h _ => h) rfl rfl ?_
        apply Exists.intro
        refine ⟨fun sv w' hw' hfa => ?_, ?_⟩
        · obtain ⟨_, _, _, _, _, f5, -⟩ := hfa
          replace f5 : sv 5 = _ := f5
          try dsimp only at f5
          refine ⟨rfl, ?_⟩
          simp only [putsL]
          change quietTo _ _ _ _ (Sem.run _ (execOp (Act.eval (Act.put (Act.put (Act.put (Act.put (Act.put (Act.put _ (some 97) (sv 5)) (some 96) (sv 4)) (some 95) (sv 3)) (some 94) (sv 2)) (some 93) (sv 1)) (some 92) (sv 0))) _) _)
          try simp only [Act.put, List.setIfInBounds_toArray, List.set_cons_succ, List.set_cons_zero]
          simp [go_sem, quietTo, Ext.refl, f5]
          all_goals first
            | rfl
        refine fac_quiet 7 rfl rfl rfl (fun _ _ h _ => h) rfl rfl ?_
        apply Exists.intro
        refine ⟨fun sv w' hw' hfa => ?_, ?_⟩
        · obtain ⟨_, _, _, _, _, _, f6, -⟩ := hfa
          replace f6 : sv 6 = _ := f6
          try dsimp only at f6
          refine ⟨by simp [Region.wanted, yielded, putsL, Act.put, f6], ?_⟩
          simp only [putsL]
          change quietTo _ _ _ _ (Sem.run _ (execOp (Act.eval (Act.put (Act.put (Act.put (Act.put (Act.put (Act.put (Act.put _ (some 98) (sv 6)) (some 97) (sv 5)) (some 96) (sv 4)) (some 95) (sv 3)) (some 94) (sv 2)) (some 93) (sv 1)) (some 92) (sv 0))) _) _)
          try simp only [Act.put, List.setIfInBounds_toArray, List.set_cons_succ, List.set_cons_zero]
          simp [go_sem, quietTo, Ext.refl, f6]
          all_goals first
            | rfl
        refine fac_quiet 8 rfl rfl rfl (fun _ _ h _ => h) rfl rfl ?_
        apply Exists.intro
        refine ⟨fun sv w' hw' hfa => ?_, ?_⟩
        · obtain ⟨_, _, _, _, _, _, f6, f7, -⟩ := hfa
          replace f6 : sv 6 = _ := f6
          try dsimp only at f6
          replace f7 : sv 7 = _ := f7
          try dsimp only at f7
          refine ⟨by simp [Region.wanted, yielded, putsL, Act.put, f6, f7], ?_⟩
          simp only [putsL]
          change quietTo _ _ _ _ (Sem.run _ (execOp (Act.eval (Act.put (Act.put (Act.put (Act.put (Act.put (Act.put (Act.put (Act.put _ (some 99) (sv 7)) (some 98) (sv 6)) (some 97) (sv 5)) (some 96) (sv 4)) (some 95) (sv 3)) (some 94) (sv 2)) (some 93) (sv 1)) (some 92) (sv 0))) _) _)
          try simp only [Act.put, List.setIfInBounds_toArray, List.set_cons_succ, List.set_cons_zero]
          simp [go_sem, quietTo, Ext.refl, ↓IntWalk.iteOmega, f6, f7]
          all_goals try simp (disch := omega) only [IntWalk.i64_in]
          all_goals first
            | rfl
        refine fac_quiet 9 rfl rfl rfl (fun _ _ h _ => h) rfl rfl ?_
        apply Exists.intro
        refine ⟨fun sv w' hw' hfa => ?_, ?_⟩
        · obtain ⟨_, _, _, _, _, _, f6, _, f8, -⟩ := hfa
          replace f6 : sv 6 = _ := f6
          try dsimp only at f6
          replace f8 : sv 8 = _ := f8
          try dsimp only at f8
          refine ⟨rfl, ?_⟩
          simp only [putsL]
          change quietTo _ _ _ _ (Sem.run _ (execOp (Act.eval (Act.put (Act.put (Act.put (Act.put (Act.put (Act.put (Act.put (Act.put (Act.put _ (some 100) (sv 8)) (some 99) (sv 7)) (some 98) (sv 6)) (some 97) (sv 5)) (some 96) (sv 4)) (some 95) (sv 3)) (some 94) (sv 2)) (some 93) (sv 1)) (some 92) (sv 0))) _) _)
          try simp only [Act.put, List.setIfInBounds_toArray, List.set_cons_succ, List.set_cons_zero]
          simp [go_sem, quietTo, Ext.refl, ↓IntWalk.iteOmega, f6, f8]
          all_goals try simp (disch := omega) only [IntWalk.i64_in]
          all_goals first
            | rfl
        refine fac_quiet 10 rfl rfl rfl (fun _ _ h _ => h) rfl rfl ?_
        apply Exists.intro
        refine ⟨fun sv w' hw' hfa => ?_, ?_⟩
        · obtain ⟨_, _, _, _, _, _, _, _, _, f9, -⟩ := hfa
          replace f9 : sv 9 = _ := f9
          try dsimp only at f9
          refine ⟨rfl, ?_⟩
          simp only [putsL]
          change quietTo _ _ _ _ (Sem.run _ (execOp (Act.eval (Act.put (Act.put (Act.put (Act.put (Act.put (Act.put (Act.put (Act.put (Act.put (Act.put _ (some 101) (sv 9)) (some 100) (sv 8)) (some 99) (sv 7)) (some 98) (sv 6)) (some 97) (sv 5)) (some 96) (sv 4)) (some 95) (sv 3)) (some 94) (sv 2)) (some 93) (sv 1)) (some 92) (sv 0))) _) _)
          try simp only [Act.put, List.setIfInBounds_toArray, List.set_cons_succ, List.set_cons_zero]
          simp [go_sem, quietTo, Ext.refl, f9]
          all_goals first
            | rfl
        refine fac_quiet 11 rfl rfl rfl (fun _ _ h _ => h) rfl rfl ?_
        apply Exists.intro
        refine ⟨fun sv w' hw' hfa => ?_, ?_⟩
        · obtain ⟨_, _, _, _, _, _, _, _, _, _, f10, -⟩ := hfa
          replace f10 : sv 10 = _ := f10
          try dsimp only at f10
          refine ⟨by simp [Region.wanted, yielded, putsL, Act.put, f10], ?_⟩
          simp only [putsL]
          change quietTo _ _ _ _ (Sem.run _ (execOp (Act.eval (Act.put (Act.put (Act.put (Act.put (Act.put (Act.put (Act.put (Act.put (Act.put (Act.put (Act.put _ (some 102) (sv 10)) (some 101) (sv 9)) (some 100) (sv 8)) (some 99) (sv 7)) (some 98) (sv 6)) (some 97) (sv 5)) (some 96) (sv 4)) (some 95) (sv 3)) (some 94) (sv 2)) (some 93) (sv 1)) (some 92) (sv 0))) _) _)
          try simp only [Act.put, List.setIfInBounds_toArray, List.set_cons_succ, List.set_cons_zero]
          simp [go_sem, quietTo, Ext.refl, f10]
          all_goals first
            | rfl
        refine fac_quiet 12 rfl rfl rfl (fun _ _ h _ => h) rfl rfl ?_
        apply Exists.intro
        refine ⟨fun sv w' hw' hfa => ?_, ?_⟩
        · obtain ⟨_, _, _, _, _, _, _, _, _, _, f10, f11, -⟩ := hfa
          replace f10 : sv 10 = _ := f10
          try dsimp only at f10
          replace f11 : sv 11 = _ := f11
          try dsimp only at f11
          have hk9 := (Ext.refl W7).drew.trans hw'; obtain ⟨y1, -⟩ := (hX7.ext hk9).walk; have y2 := (hk9.walk.1 _ _ hsb7).trans e37
          refine ⟨by simp [Region.wanted, yielded, putsL, Act.put, f10, f11], ?_⟩
          simp only [putsL]
          change quietTo _ _ _ _ (Sem.run _ (execOp (Act.eval (Act.put (Act.put (Act.put (Act.put (Act.put (Act.put (Act.put (Act.put (Act.put (Act.put (Act.put (Act.put _ (some 103) (sv 11)) (some 102) (sv 10)) (some 101) (sv 9)) (some 100) (sv 8)) (some 99) (sv 7)) (some 98) (sv 6)) (some 97) (sv 5)) (some 96) (sv 4)) (some 95) (sv 3)) (some 94) (sv 2)) (some 93) (sv 1)) (some 92) (sv 0))) _) _)
          try simp only [Act.put, List.setIfInBounds_toArray, List.set_cons_succ, List.set_cons_zero]
          simp [go_sem, quietTo, Ext.refl, ↓IntWalk.iteOmega, f10, f11, y1]
          all_goals try simp (disch := omega) only [IntWalk.i64_in]
          all_goals first
            | rfl
        refine fac_quiet 13 rfl rfl rfl (fun _ _ h _ => h) rfl rfl ?_
        apply Exists.intro
        refine ⟨fun sv w' hw' hfa => ?_, ?_⟩
        · obtain ⟨_, _, _, _, _, _, _, _, _, _, f10, -⟩ := hfa
          replace f10 : sv 10 = _ := f10
          try dsimp only at f10
          refine ⟨by simp [Region.wanted, yielded, putsL, Act.put, f10], ?_⟩
          simp only [putsL]
          change quietTo _ _ _ _ (Sem.run _ (execOp (Act.eval (Act.put (Act.put (Act.put (Act.put (Act.put (Act.put (Act.put (Act.put (Act.put (Act.put (Act.put _ (some 102) (sv 10)) (some 101) (sv 9)) (some 100) (sv 8)) (some 99) (sv 7)) (some 98) (sv 6)) (some 97) (sv 5)) (some 96) (sv 4)) (some 95) (sv 3)) (some 94) (sv 2)) (some 93) (sv 1)) (some 92) (sv 0))) _) _)
          try simp only [Act.put, List.setIfInBounds_toArray, List.set_cons_succ, List.set_cons_zero]
          simp [go_sem, quietTo, Ext.refl, f10]
          all_goals first
            | rfl
        refine fac_quiet 14 rfl rfl rfl (fun _ _ h _ => h) rfl rfl ?_
        apply Exists.intro
        refine ⟨fun sv w' hw' hfa => ?_, ?_⟩
        · obtain ⟨_, _, _, _, _, _, _, _, _, _, f10, -⟩ := hfa
          replace f10 : sv 10 = _ := f10
          try dsimp only at f10
          refine ⟨by simp [Region.wanted, yielded, putsL, Act.put, f10], ?_⟩
          simp only [putsL]
          change quietTo _ _ _ _ (Sem.run _ (execOp (Act.eval (Act.put (Act.put (Act.put (Act.put (Act.put (Act.put (Act.put (Act.put (Act.put (Act.put (Act.put _ (some 102) (sv 10)) (some 101) (sv 9)) (some 100) (sv 8)) (some 99) (sv 7)) (some 98) (sv 6)) (some 97) (sv 5)) (some 96) (sv 4)) (some 95) (sv 3)) (some 94) (sv 2)) (some 93) (sv 1)) (some 92) (sv 0))) _) _)
          try simp only [Act.put, List.setIfInBounds_toArray, List.set_cons_succ, List.set_cons_zero]
          simp [go_sem, quietTo, Ext.refl, f10]
          all_goals first
            | rfl
        refine fac_quiet 15 rfl rfl rfl (fun _ _ h _ => h) rfl rfl ?_
        apply Exists.intro
        refine ⟨fun sv w' hw' hfa => ?_, ?_⟩
        · obtain ⟨_, _, _, _, _, _, _, _, _, _, f10, f13, f14, -⟩ := hfa
          replace f10 : sv 10 = _ := f10
          try dsimp only at f10
          replace f13 : sv 13 = _ := f13
          try dsimp only at f13
          replace f14 : sv 14 = _ := f14
          try dsimp only at f14
          have hk9 := (Ext.refl W7).drew.trans hw'; obtain ⟨y1, -⟩ := (hX7.ext hk9).walk; have y2 := (hk9.walk.1 _ _ hsb7).trans e37
          refine ⟨by simp [Region.wanted, yielded, putsL, Act.put, f10, f13, f14], ?_⟩
          simp only [putsL]
          change quietTo _ _ _ _ (Sem.run _ (execOp (Act.eval (Act.put (Act.put (Act.put (Act.put (Act.put (Act.put (Act.put (Act.put (Act.put (Act.put (Act.put (Act.put (Act.put _ (some 106) (sv 14)) (some 105) (sv 13)) (some 102) (sv 10)) (some 101) (sv 9)) (some 100) (sv 8)) (some 99) (sv 7)) (some 98) (sv 6)) (some 97) (sv 5)) (some 96) (sv 4)) (some 95) (sv 3)) (some 94) (sv 2)) (some 93) (sv 1)) (some 92) (sv 0))) _) _)
          try simp only [Act.put, List.setIfInBounds_toArray, List.set_cons_succ, List.set_cons_zero]
          simp [go_sem, quietTo, Ext.refl, ↓IntWalk.iteOmega, f10, f13, f14, hiC]
          all_goals try simp (disch := omega) only [IntWalk.i64_in]
          all_goals first
            | rfl
        refine fac_quiet 16 rfl rfl rfl (fun _ _ h _ => h) rfl rfl ?_
        apply Exists.intro
        refine ⟨fun sv w' hw' hfa => ?_, ?_⟩
        · obtain ⟨_, _, _, _, _, _, _, _, _, _, f10, _, _, f15, -⟩ := hfa
          replace f10 : sv 10 = _ := f10
          try dsimp only at f10
          replace f15 : sv 15 = _ := f15
          try dsimp only at f15
          have hk9 := (Ext.refl W7).drew.trans hw'; obtain ⟨y1, -⟩ := (hX7.ext hk9).walk; have y2 := (hk9.walk.1 _ _ hsb7).trans e37
          refine ⟨by simp [Region.wanted, yielded, putsL, Act.put, f10, f15], ?_⟩
          simp only [putsL]
          change quietTo _ _ _ _ (Sem.run _ (execOp (Act.eval (Act.put (Act.put (Act.put (Act.put (Act.put (Act.put (Act.put (Act.put (Act.put (Act.put (Act.put (Act.put (Act.put (Act.put _ (some 107) (sv 15)) (some 106) (sv 14)) (some 105) (sv 13)) (some 102) (sv 10)) (some 101) (sv 9)) (some 100) (sv 8)) (some 99) (sv 7)) (some 98) (sv 6)) (some 97) (sv 5)) (some 96) (sv 4)) (some 95) (sv 3)) (some 94) (sv 2)) (some 93) (sv 1)) (some 92) (sv 0))) _) _)
          try simp only [Act.put, List.setIfInBounds_toArray, List.set_cons_succ, List.set_cons_zero]
          simp [go_sem, quietTo, Ext.refl, ↓IntWalk.iteOmega, f10, f15, y2]
          all_goals try simp (disch := omega) only [IntWalk.i64_in]
          all_goals first
            | rfl
        refine fac_quiet 17 rfl rfl rfl (fun _ _ h _ => h) rfl rfl ?_
        apply Exists.intro
        refine ⟨fun sv w' hw' hfa => ?_, ?_⟩
        · obtain ⟨_, _, _, _, _, _, _, _, _, _, f10, _, f12, _, _, _, f16, -⟩ := hfa
          replace f10 : sv 10 = _ := f10
          try dsimp only at f10
          replace f12 : sv 12 = _ := f12
          try dsimp only at f12
          replace f16 : sv 16 = _ := f16
          try dsimp only at f16
          refine ⟨by simp [Region.wanted, yielded, putsL, Act.put, f10, f12, f16], ?_⟩
          simp only [putsL]
          change quietTo _ _ _ _ (Sem.run _ (execOp (Act.eval (Act.put (Act.put (Act.put (Act.put (Act.put (Act.put (Act.put (Act.put (Act.put (Act.put (Act.put (Act.put (Act.put (Act.put (Act.put (Act.put (Act.put _ (some 108) (sv 16)) (some 107) (sv 15)) (some 106) (sv 14)) (some 105) (sv 13)) (some 104) (sv 12)) (some 103) (sv 11)) (some 102) (sv 10)) (some 101) (sv 9)) (some 100) (sv 8)) (some 99) (sv 7)) (some 98) (sv 6)) (some 97) (sv 5)) (some 96) (sv 4)) (some 95) (sv 3)) (some 94) (sv 2)) (some 93) (sv 1)) (some 92) (sv 0))) _) _)
          try simp only [Act.put, List.setIfInBounds_toArray, List.set_cons_succ, List.set_cons_zero]
          simp [go_sem, quietTo, Ext.refl, ↓IntWalk.iteOmega, f10, f12, f16]
          all_goals try simp (disch := omega) only [IntWalk.i64_in]
          all_goals first
            | rfl
        refine fac_quiet 18 rfl rfl rfl (fun _ _ h _ => h) rfl rfl ?_
        apply Exists.intro
        refine ⟨fun sv w' hw' hfa => ?_, ?_⟩
        · obtain ⟨_, _, _, _, _, _, _, _, _, _, f10, _, _, _, _, _, _, f17, -⟩ := hfa
          replace f10 : sv 10 = _ := f10
          try dsimp only at f10
          replace f17 : sv 17 = _ := f17
          try dsimp only at f17
          refine ⟨rfl, ?_⟩
          simp only [putsL]
          change quietTo _ _ _ _ (Sem.run _ (execOp (Act.eval (Act.put (Act.put (Act.put (Act.put (Act.put (Act.put (Act.put (Act.put (Act.put (Act.put (Act.put (Act.put (Act.put (Act.put (Act.put (Act.put (Act.put (Act.put _ (some 109) (sv 17)) (some 108) (sv 16)) (some 107) (sv 15)) (some 106) (sv 14)) (some 105) (sv 13)) (some 104) (sv 12)) (some 103) (sv 11)) (some 102) (sv 10)) (some 101) (sv 9)) (some 100) (sv 8)) (some 99) (sv 7)) (some 98) (sv 6)) (some 97) (sv 5)) (some 96) (sv 4)) (some 95) (sv 3)) (some 94) (sv 2)) (some 93) (sv 1)) (some 92) (sv 0))) _) _)
          try simp only [Act.put, List.setIfInBounds_toArray, List.set_cons_succ, List.set_cons_zero]
          simp [go_sem, quietTo, Ext.refl, ↓IntWalk.iteOmega, f10, f17]
          all_goals try simp (disch := omega) only [IntWalk.i64_in]
          all_goals first
            | rfl
        refine fac_nil fun xa wra hera hfra hcra holda hapa => ?_
        obtain ⟨f0, f1, f2, f3, f4, f5, f6, f7, f8, f9, f10, f11, f12, f13, f14, f15, f16, f17, f18, -⟩ := hfra
        replace f0 : xa 0 = _ := f0
        try dsimp only at f0
        replace f1 : xa 1 = _ := f1
        try dsimp only at f1
        replace f2 : xa 2 = _ := f2
        try dsimp only at f2
        replace f3 : xa 3 = _ := f3
        try dsimp only at f3
        replace f4 : xa 4 = _ := f4
        try dsimp only at f4
        replace f5 : xa 5 = _ := f5
        try dsimp only at f5
        replace f6 : xa 6 = _ := f6
        try dsimp only at f6
        replace f7 : xa 7 = _ := f7
        try dsimp only at f7
        replace f8 : xa 8 = _ := f8
        try dsimp only at f8
        replace f9 : xa 9 = _ := f9
        try dsimp only at f9
        replace f10 : xa 10 = _ := f10
        try dsimp only at f10
        replace f11 : xa 11 = _ := f11
        try dsimp only at f11
        replace f12 : xa 12 = _ := f12
        try dsimp only at f12
        replace f13 : xa 13 = _ := f13
        try dsimp only at f13
        replace f14 : xa 14 = _ := f14
        try dsimp only at f14
        replace f15 : xa 15 = _ := f15
        try dsimp only at f15
        replace f16 : xa 16 = _ := f16
        try dsimp only at f16
        replace f17 : xa 17 = _ := f17
        try dsimp only at f17
        replace f18 : xa 18 = _ := f18
        try dsimp only at f18
        change wpList _ _ _ _ (Act.put (Act.put (Act.put (Act.put (Act.put (Act.put (Act.put (Act.put (Act.put (Act.put (Act.put (Act.put (Act.put (Act.put (Act.put (Act.put (Act.put (Act.put (Act.put _ (some 92) (xa 0)) (some 93) (xa 1)) (some 94) (xa 2)) (some 95) (xa 3)) (some 96) (xa 4)) (some 97) (xa 5)) (some 98) (xa 6)) (some 99) (xa 7)) (some 100) (xa 8)) (some 101) (xa 9)) (some 102) (xa 10)) (some 103) (xa 11)) (some 104) (xa 12)) (some 105) (xa 13)) (some 106) (xa 14)) (some 107) (xa 15)) (some 108) (xa 16)) (some 109) (xa 17)) (some 110) (xa 18)) _
        simp only [putsL, Nat.reduceAdd, List.drop_succ_cons, List.drop_zero, List.drop_nil, Act.put, List.setIfInBounds_toArray, List.set_cons_succ, List.set_cons_zero]
        try simp only [f0, f1, f2, f3, f4, f5, f6, f7, f8, f9, f10, f11, f12, f13, f14, f15, f16, f17, f18]
        clear f0 f1 f2 f3 f4 f5 f6 f7 f8 f9 f10 f11 f12 f13 f14 f15 f16 f17 f18
        clear holda hapa
        have hE8 := (Ext.refl W7).drew.trans hera
        have hR8 := hR7.ext hE8
        have hX8 := hX7.ext hE8
        have hpb8 := Nat.lt_of_lt_of_le hpb7 hE8.size
        have c18 := (hE8.walk.1 _ _ hpb7).trans c17
        have c28 := (hE8.walk.1 _ _ hpb7).trans c27
        have hO8 := hO7.ext hE8
        have hEb := hE7.trans hE8
        clear hR7 hX7 hsb7 hpb7 e37 c17 c27 hO7 hE7
        go_upto_region 20 with fail
        refine wp_region_facts [9, 10] [([], false, false), ([], false, false), ([], false, false), ([1, 2], false, false), ([1, 2, 3], false, false), ([1, 2, 3, 4], false, false), ([0, 1, 2, 3, 4, 5], false, false), ([0, 1, 2, 3, 4, 5, 6], false, false), ([0, 1, 2, 3, 4, 5, 6, 7], false, false), ([0, 1, 2, 3, 4, 5, 6, 7], false, false), ([0, 1, 2, 3, 4, 5, 6, 7], false, false)] (Ext) Ext (fun _ => True) (by kernel_rfl) (by kernel_rfl) Ext.refl (fun _ _ _ => Ext.trans) (fun _ _ h => h) (fun _ _ h => h.size) (fun _ _ h _ => h) trivial ?_
        dsimp only [List.length_cons, List.length_nil, List.drop_succ_cons, List.drop_zero, List.drop_nil]
        refine fac_quiet 0 rfl rfl rfl (fun _ _ h _ => h) rfl rfl ?_
        apply Exists.intro
        refine ⟨fun sv w' hw' hfa => ?_, ?_⟩
        · have hk9 := (Ext.refl wra).drew.trans hw'; obtain ⟨y1, -⟩ := (hR8.ext hk9).walk; have y2 := (hk9.walk.1 _ _ hpb8).trans c18; have y3 := (hk9.walk.1 _ _ hpb8).trans c28
          refine ⟨rfl, ?_⟩
          simp only [putsL]
          change quietTo _ _ _ _ (Sem.run _ (execOp (Act.eval _) _) _)
          try simp only [Act.put, List.setIfInBounds_toArray, List.set_cons_succ, List.set_cons_zero]
          simp [go_sem, quietTo, Ext.refl, ↓IntWalk.iteOmega, y1]
          all_goals try simp (disch := omega) only [IntWalk.i64_in]
          all_goals first
            | rfl
        refine fac_quiet 1 rfl rfl rfl (fun _ _ h _ => h) rfl rfl ?_
        apply Exists.intro
        refine ⟨fun sv w' hw' hfa => ?_, ?_⟩
        · refine ⟨rfl, ?_⟩
          simp only [putsL]
          change quietTo _ _ _ _ (Sem.run _ (execOp (Act.eval _) _) _)
          try simp only [Act.put, List.setIfInBounds_toArray, List.set_cons_succ, List.set_cons_zero]
          simp [go_sem, quietTo, Ext.refl]
          all_goals first
            | rfl
        refine fac_quiet 2 rfl rfl rfl (fun _ _ h _ => h) rfl rfl ?_
        apply Exists.intro
        refine ⟨fun sv w' hw' hfa => ?_, ?_⟩
        · refine ⟨rfl, ?_⟩
          simp only [putsL]
          change quietTo _ _ _ _ (Sem.run _ (execOp (Act.eval _) _) _)
          try simp only [Act.put, List.setIfInBounds_toArray, List.set_cons_succ, List.set_cons_zero]
          simp [go_sem, quietTo, Ext.refl]
          all_goals first
            | rfl
        refine fac_quiet 3 rfl rfl rfl (fun _ _ h _ => h) rfl rfl ?_
        apply Exists.intro
        refine ⟨fun sv w' hw' hfa => ?_, ?_⟩
        · obtain ⟨f1, f2, -⟩ := hfa
          replace f1 : sv 1 = _ := f1
          try dsimp only at f1
          replace f2 : sv 2 = _ := f2
          try dsimp only at f2
          have hk9 := (Ext.refl wra).drew.trans hw'; obtain ⟨y1, -⟩ := (hR8.ext hk9).walk; have y2 := (hk9.walk.1 _ _ hpb8).trans c18; have y3 := (hk9.walk.1 _ _ hpb8).trans c28
          refine ⟨rfl, ?_⟩
          simp only [putsL]
          change quietTo _ _ _ _ (Sem.run _ (execOp (Act.eval (Act.put (Act.put _ (some 114) (sv 2)) (some 113) (sv 1))) _) _)
          try simp only [Act.put, List.setIfInBounds_toArray, List.set_cons_succ, List.set_cons_zero]
          simp [go_sem, quietTo, Ext.refl, ↓IntWalk.iteOmega, f1, f2, hkI]
          all_goals try simp (disch := omega) only [IntWalk.i64_in]
          all_goals first
            | rfl
        refine fac_quiet 4 rfl rfl rfl (fun _ _ h _ => h) rfl rfl ?_
        apply Exists.intro
        refine ⟨fun sv w' hw' hfa => ?_, ?_⟩
        · obtain ⟨_, _, f3, -⟩ := hfa
          replace f3 : sv 3 = _ := f3
          try dsimp only at f3
          refine ⟨rfl, ?_⟩
          simp only [putsL]
          change quietTo _ _ _ _ (Sem.run _ (execOp (Act.eval (Act.put (Act.put (Act.put _ (some 115) (sv 3)) (some 114) (sv 2)) (some 113) (sv 1))) _) _)
          try simp only [Act.put, List.setIfInBounds_toArray, List.set_cons_succ, List.set_cons_zero]
          simp [go_sem, quietTo, Ext.refl, f3]
          all_goals first
            | rfl
        refine fac_quiet 5 rfl rfl rfl (fun _ _ h _ => h) rfl rfl ?_
        apply Exists.intro
        refine ⟨fun sv w' hw' hfa => ?_, ?_⟩
        · obtain ⟨_, _, _, f4, -⟩ := hfa
          replace f4 : sv 4 = _ := f4
          try dsimp only at f4
          have hk9 := (Ext.refl wra).drew.trans hw'; obtain ⟨y1, -⟩ := (hR8.ext hk9).walk; have y2 := (hk9.walk.1 _ _ hpb8).trans c18; have y3 := (hk9.walk.1 _ _ hpb8).trans c28
          refine ⟨rfl, ?_⟩
          simp only [putsL]
          change quietTo _ _ _ _ (Sem.run _ (execOp (Act.eval (Act.put (Act.put (Act.put (Act.put _ (some 116) (sv 4)) (some 115) (sv 3)) (some 114) (sv 2)) (some 113) (sv 1))) _) _)
          try simp only [Act.put, List.setIfInBounds_toArray, List.set_cons_succ, List.set_cons_zero]
          simp [go_sem, quietTo, Ext.refl, ↓IntWalk.iteOmega, f4, y2, y3]
          all_goals try simp (disch := omega) only [IntWalk.i64_in]
          all_goals first
            | rfl
        refine fac_quiet 6 rfl rfl rfl (fun _ _ h _ => h) rfl rfl ?_
        apply Exists.intro
        refine ⟨fun sv w' hw' hfa => ?_, ?_⟩
        · obtain ⟨f0, f1, f2, f3, f4, f5, -⟩ := hfa
          replace f0 : sv 0 = _ := f0
          try dsimp only at f0
          replace f1 : sv 1 = _ := f1
          try dsimp only at f1
          replace f2 : sv 2 = _ := f2
          try dsimp only at f2
          replace f3 : sv 3 = _ := f3
          try dsimp only at f3
          replace f4 : sv 4 = _ := f4
          try dsimp only at f4
          replace f5 : sv 5 = _ := f5
          try dsimp only at f5
          have hk9 := (Ext.refl wra).drew.trans hw'; obtain ⟨y1, -⟩ := (hR8.ext hk9).walk; have y2 := (hk9.walk.1 _ _ hpb8).trans c18; have y3 := (hk9.walk.1 _ _ hpb8).trans c28
          refine ⟨rfl, ?_⟩
          simp only [putsL]
          change quietTo _ _ _ _ (Sem.run _ (execOp (Act.eval (Act.put (Act.put (Act.put (Act.put (Act.put (Act.put _ (some 117) (sv 5)) (some 116) (sv 4)) (some 115) (sv 3)) (some 114) (sv 2)) (some 113) (sv 1)) (some 112) (sv 0))) _) _)
          try simp only [Act.put, List.setIfInBounds_toArray, List.set_cons_succ, List.set_cons_zero]
          simp [go_sem, quietTo, Ext.refl, ↓IntWalk.iteOmega, f0, f5]
          all_goals try simp (disch := omega) only [IntWalk.i64_in]
          all_goals first
            | rfl
            | (exact hcm.out _)
        refine fac_quiet 7 rfl rfl rfl (fun _ _ h _ => h) rfl rfl ?_
        apply Exists.intro
        refine ⟨fun sv w' hw' hfa => ?_, ?_⟩
        · obtain ⟨_, _, _, _, _, _, f6, -⟩ := hfa
          replace f6 : sv 6 = _ := f6
          try dsimp only at f6
          refine ⟨rfl, ?_⟩
          simp only [putsL]
          change quietTo _ _ _ _ (Sem.run _ (execOp (Act.eval (Act.put (Act.put (Act.put (Act.put (Act.put (Act.put (Act.put _ (some 118) (sv 6)) (some 117) (sv 5)) (some 116) (sv 4)) (some 115) (sv 3)) (some 114) (sv 2)) (some 113) (sv 1)) (some 112) (sv 0))) _) _)
          try simp only [Act.put, List.setIfInBounds_toArray, List.set_cons_succ, List.set_cons_zero]
          simp [go_sem, quietTo, Ext.refl, f6]
          all_goals first
            | rfl
        refine fac_quiet 8 rfl rfl rfl (fun _ _ h _ => h) rfl rfl ?_
        apply Exists.intro
        refine ⟨fun sv w' hw' hfa => ?_, ?_⟩
        · obtain ⟨_, _, _, _, _, _, _, f7, -⟩ := hfa
          replace f7 : sv 7 = _ := f7
          try dsimp only at f7
          refine ⟨rfl, ?_⟩
          simp only [putsL]
          change quietTo _ _ _ _ (Sem.run _ (execOp (Act.eval (Act.put (Act.put (Act.put (Act.put (Act.put (Act.put (Act.put (Act.put _ (some 111) (sv 7)) (some 118) (sv 6)) (some 117) (sv 5)) (some 116) (sv 4)) (some 115) (sv 3)) (some 114) (sv 2)) (some 113) (sv 1)) (some 112) (sv 0))) _) _)
          try simp only [Act.put, List.setIfInBounds_toArray, List.set_cons_succ, List.set_cons_zero]
          simp [go_sem, quietTo, Ext.refl, f7]
          all_goals first
            | rfl
        refine fac_late 9 rfl rfl Ext.refl (fun _ _ h _ => h) rfl rfl (fun _ _ _ _ h => h) ?_
        apply Exists.intro
        refine ⟨fun sv w' hw' hfa => ?_, ?_⟩
        · obtain ⟨_, _, _, _, _, _, _, f7, -⟩ := hfa
          replace f7 : sv 7 = _ := f7
          try dsimp only at f7
          refine ⟨rfl, fun w2 => ?_⟩
          simp only [putsL]
          change pureTo _ _ (Sem.run _ (execOp (Act.eval (Act.put (Act.put (Act.put (Act.put (Act.put (Act.put (Act.put (Act.put _ (some 111) (sv 7)) (some 118) (sv 6)) (some 117) (sv 5)) (some 116) (sv 4)) (some 115) (sv 3)) (some 114) (sv 2)) (some 113) (sv 1)) (some 112) (sv 0))) _) _)
          try simp only [Act.put, List.setIfInBounds_toArray, List.set_cons_succ, List.set_cons_zero]
          simp [go_sem, pureTo, f7]
          all_goals try simp (disch := omega) only [IntWalk.i64_in]
          all_goals first
            | rfl
        refine fac_late 10 rfl rfl Ext.refl (fun _ _ h _ => h) rfl rfl (fun _ _ _ _ h => h) ?_
        apply Exists.intro
        refine ⟨fun sv w' hw' hfa => ?_, ?_⟩
        · obtain ⟨_, _, _, _, _, _, _, f7, -⟩ := hfa
          replace f7 : sv 7 = _ := f7
          try dsimp only at f7
          refine ⟨rfl, fun w2 => ?_⟩
          simp only [putsL]
          change pureTo _ _ (Sem.run _ (execOp (Act.eval (Act.put (Act.put (Act.put (Act.put (Act.put (Act.put (Act.put (Act.put _ (some 111) (sv 7)) (some 118) (sv 6)) (some 117) (sv 5)) (some 116) (sv 4)) (some 115) (sv 3)) (some 114) (sv 2)) (some 113) (sv 1)) (some 112) (sv 0))) _) _)
          try simp only [Act.put, List.setIfInBounds_toArray, List.set_cons_succ, List.set_cons_zero]
          simp [go_sem, pureTo, f7]
          all_goals try simp (disch := omega) only [IntWalk.i64_in]
          all_goals first
            | rfl
        refine fac_nil fun xb wrb herb hfrb hcrb holdb hapb => ?_
        obtain ⟨f0, f1, f2, f3, f4, f5, f6, f7, f8, f9, f10, -⟩ := hfrb
        replace f0 : xb 0 = _ := f0
        try dsimp only at f0
        replace f1 : xb 1 = _ := f1
        try dsimp only at f1
        replace f2 : xb 2 = _ := f2
        try dsimp only at f2
        replace f3 : xb 3 = _ := f3
        try dsimp only at f3
        replace f4 : xb 4 = _ := f4
        try dsimp only at f4
        replace f5 : xb 5 = _ := f5
        try dsimp only at f5
        replace f6 : xb 6 = _ := f6
        try dsimp only at f6
        replace f7 : xb 7 = _ := f7
        try dsimp only at f7
        replace f8 : xb 8 = _ := f8
        try dsimp only at f8
        replace f9 : xb 9 = _ := f9
        try dsimp only at f9
        replace f10 : xb 10 = _ := f10
        try dsimp only at f10
        change wpList _ _ _ _ (Act.put (Act.put (Act.put (Act.put (Act.put (Act.put (Act.put (Act.put (Act.put (Act.put (Act.put _ (some 112) (xb 0)) (some 113) (xb 1)) (some 114) (xb 2)) (some 115) (xb 3)) (some 116) (xb 4)) (some 117) (xb 5)) (some 118) (xb 6)) (some 111) (xb 7)) (some 119) (xb 8)) (some 120) (xb 9)) (some 121) (xb 10)) _
        simp only [putsL, Nat.reduceAdd, List.drop_succ_cons, List.drop_zero, List.drop_nil, Act.put, List.setIfInBounds_toArray, List.set_cons_succ, List.set_cons_zero]
        try simp only [f0, f1, f2, f3, f4, f5, f6, f7, f8, f9, f10]
        clear f0 f1 f2 f3 f4 f5 f6 f7 f8 f9 f10
        clear holdb hapb
        have hE9 := (Ext.refl wra).drew.trans herb
        have hX9 := hX8.ext hE9
        have hO9 := hO8.ext hE9
        have hEc := hEb.trans hE9
        obtain ⟨y1, -⟩ := hX9.walk
        have hXl := hX9.lt
        obtain ⟨cn, hcn⟩ : ∃ m : Nat, cntP (T.take i) x.name = m := ⟨_, rfl⟩
        have hcnl : cn ≤ 10 := by
          rw [← hcn]
          exact Nat.le_trans (cntP_le _ _) (by rw [List.length_take]; omega)
        have hfn := hfc.out x.name
        rw [hcn] at hfn
        have hlk := hO9.look (k := x.name) hxn
        have hlk2 : (Instr.lookup 65 (.map (some gm)) (.string x.name) false).run Tryz.prog wrb = .ok (.int .i64 (cn : Int)) wrb := by
          rw [← hfn]; exact hlk
        obtain ⟨w9, hrun, hOa, hg9⟩ := hO9.put (k := x.name) hxn (by omega) ((cn : Int) + 1)
        have hrun2 : (Instr.mapUpdate 65 (.map (some gm)) (.string x.name) (.int .i64 ((cn : Int) + 1))).run Tryz.prog wrb = .ok () w9 := hrun
        have hEd := hEc.grown hg9 (fun j e => by cases e; rw [hgm.out]; exact Nat.le_refl _)
        have hfc2 : ∀ nm, (updK f x.name ((cn : Int) + 1) nm).getD 0 = (cntP (T.take (i + 1)) nm : Int) := fun nm => by
          rw [take_snocL hTi.out, cntP_snoc]
          unfold updK
          by_cases e : nm = x.name
          · subst e
            rw [if_pos rfl, if_pos rfl, hcn]
            simp
          · rw [if_neg e, if_neg e, hfc.out nm]
            simp
        replace hlk2 := Lib.hid hlk2
        replace hrun2 := Lib.hid hrun2
        replace hOa := Lib.hid hOa
        replace hfc2 := Lib.hid hfc2
        clear hera herb hE8 hR8 hX8 hpb8 c18 c28 hO8 hEb hE9 hX9 hO9 hfc hfn hlk hrun hcn
        go_wp2_with (first
          | (refine wpList_lookV rfl _ _ 65 false rfl (.map (some gm)) (.string x.name) _ rfl rfl hlk2.out ?_)
          | (refine wpList_putV rfl _ _ _ 65 rfl (.map (some gm)) (.string x.name) (.int .i64 ((cn : Int) + 1)) rfl rfl rfl w9 hrun2.out ?_))
        go_roundw
        case rel => exact ⟨i + 1, acc + cf, _, by go_num, rfl, by omega, hnx.out, ⟨by omega, by omega⟩, hOa.out, hfc2.out, hEd⟩
        case measure => simp [intOf]; omega
      · obtain rfl : i = C.length := by omega
        have hb : acc = best := by
          have h1 : sumG (C.drop C.length) (g.drop C.length) = 0 := by rw [List.drop_length]; rfl
          omega
        subst hb
        have hfc2 : ∀ q (x : PartV), P[q]? = some x → (f x.name).getD 0 = (cntG g q : Int) := fun q x hx => by
          rw [hfc x.name, List.take_of_length_le (by omega), hcz2.out q x hx]
        replace hfc2 := Lib.hid hfc2
        clear hfc hacc
        go_wp2
        go_loopw [139] (fun v139 wr => ∃ q : Nat, v139 = .int .i64 q ∧ q ≤ P.length ∧ OwnK strI wr gm C.length f ∧ Ext wd2 wr) (fun v139 _ => P.length - (intOf v139).toNat)
        case atStart => exact ⟨0, rfl, Nat.zero_le _, hO, hE⟩
        case round =>
          clear hO hE
          obtain ⟨q, rfl, hq, hO, hE⟩ := hrel
          by_cases hlt2 : q < P.length
          · obtain ⟨x, hx⟩ := getD_some (rfl : P.length = P.length) hlt2
            have hfn := hfc2.out q x hx
            obtain ⟨hc1, hc2⟩ := hcnt.out q x hx
            obtain ⟨hxn, ⟨hx1, hx2⟩, hx3, hx4⟩ := hPn.out x (List.mem_of_getElem? hx)
            obtain ⟨-, ⟨_, e9⟩ | ⟨pb, poff, rfl, hpb, hpE⟩⟩ := slcC (hpar.ext (E2.trans hE))
            · rw [e9] at hx; cases hx
            obtain ⟨c0, c1, c2, c3, c4⟩ := hpE.part hx
            have hqI : (q : Int) < P.length := by omega
            have hX : Blk (wr.alloc (.cells #[.string x.name, .int .i64 x.lo, .int .i64 x.hi, .int .i64 x.least, .int .i64 x.most] 70)) wr.heap.size 70 #[.string x.name, .int .i64 x.lo, .int .i64 x.hi, .int .i64 x.least, .int .i64 x.most] := Blk.new' rfl
            have hEx : Ext wr (wr.alloc (.cells #[.string x.name, .int .i64 x.lo, .int .i64 x.hi, .int .i64 x.least, .int .i64 x.most] 70)) := (Ext.refl _).alloc _
            have hlk := (hO.ext hEx).look (k := x.name) hxn
            have hlk2 : (Instr.lookup 65 (.map (some gm)) (.string x.name) false).run Tryz.prog (wr.alloc (.cells #[.string x.name, .int .i64 x.lo, .int .i64 x.hi, .int .i64 x.least, .int .i64 x.most] 70)) = .ok (.int .i64 (cntG g q : Int)) (wr.alloc (.cells #[.string x.name, .int .i64 x.lo, .int .i64 x.hi, .int .i64 x.least, .int .i64 x.most] 70)) := by
              rw [← hfn]; exact hlk
            have hO2 := hO.ext hEx
            have hE2 := hE.trans hEx
            generalize cntG g q = cn at *
            have hc3 : ¬ (cn : Int) < x.least := by omega
            have hc4 : ¬ x.most < (cn : Int) := by omega
            replace hlk2 := Lib.hid hlk2
            replace hx := Lib.hid hx
            replace hO2 := Lib.hid hO2
            clear hO hE hEx hlk hpE hfn
            go_upto_region 29 with fail
            generalize wr.alloc (.cells #[.string x.name, .int .i64 x.lo, .int .i64 x.hi, .int .i64 x.least, .int .i64 x.most] 70) = W3 at *
            generalize wr.heap.size = gx at *
            obtain ⟨y1, -⟩ := hX.walk
            have hXl := hX.lt
            clear c0 c1 c2 c3 c4 hpb
            go_wp2_with (first
              | (refine wpList_lookV rfl _ _ 65 false rfl (.map (some gm)) (.string x.name) _ rfl rfl hlk2.out ?_)
              | (refine wpList_lookV_wanted rfl _ _ 65 false rfl (.map (some gm)) (.string x.name) _ rfl rfl hlk2.out ?_))
            go_roundw
            case rel => exact ⟨q + 1, by go_num, by omega, hO2.out, hE2⟩
            case measure => simp [intOf]; omega
          · obtain rfl : q = P.length := by omega
            have hEf := E2.trans hE
            clear hO
            go_wp2_with (go_at_call 34; (with_reducible refine Calls.mono (ready_any B _ (htw.out _ hEf)) ?_); rintro e u9 ⟨rfl, hu9⟩)
            go_ret
            exact ⟨rfl, hX4.trans (hEf.trans hu9)⟩
end Go.Proofs.YthhbhjppljblnaaGreatDoor
