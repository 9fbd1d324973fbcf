/- The law of stands that are changed: it answers true. Conditions: the argument is a list of ints that lies in memory. -/
import Derived.Test.YtakfanmoepiagaaGreatDoorSmMoO
import Derived.Test.YtakfanmoepiagaaGreatDoorSmMoP
import Derived.Test.YtakfanmoepiagaaGreatDoorSmJ40
import Derived.Test.YtakfanmoepiagaaGreatDoorSmMoD
import Derived.Test.YtakfanmoepiagaaGreatDoorSmMoE
import Derived.Test.YtakfanmoepiagaaGreatDoorSmJ41
import Derived.Deep.DeepCutAuto
set_option linter.unusedSimpArgs false
set_option linter.unusedVariables false
namespace Go.Proofs.YtakfanmoepiagaaGreatDoor
open Go Go.RowKit

set_option maxRecDepth 100000 in
set_option maxHeartbeats 25600000 in
theorem lawSM_any (w : World) (p : Option Addr) (n c : Nat) (h : Lst w w.heap.size p n) :
    Calls Tryz.prog 5 #[.slice p n c] w fun e w' => e = .returned (.bool true) ∧ Ext w w' := by
  have hS0 : Str (w.alloc (.cells #[.slice p n c, .int .i64 0] 25)) w.heap.size 0 := ⟨p, n, c, 0, Nat.le_refl _, Blk.new' rfl, h.low fun j hj => Below.heap_alloc w _ j hj⟩
  have hE0 : Ext w (w.alloc (.cells #[.slice p n c, .int .i64 0] 25)) := (Ext.refl w).alloc _
  have hbk : ∀ u, ExtS w.heap.size (w.alloc (.cells #[.slice p n c, .int .i64 0] 25)) u → Ext w u := fun u hu => ExtS.back hE0 (Nat.le_refl _) hu
  replace hbk := Lib.hid hbk
  clear h
  go_enter Tryz.func5, Tryz.ntmps5
  go_upto_region 3 with (go_at_call 26; (with_reducible refine Calls.mono (put2_any w.heap.size 0 9 _ (by omega) (by omega) (by exact hS0)) ?_); rintro e w1 ⟨pp, pc, P, wp, wcap, wide, hp, hc, high, lp, lc, S, rfl, hM1, ⟨hP9, hw4, hS9⟩, ⟨hpf, hwf, hhf, hlf⟩, hS1, hE1⟩)
  have hEa : Ext w1 (w1.alloc (.cells #[.slice wp wide.length wcap, .slice hp high.length hc] 29)) := (Ext.refl _).alloc _
  have hB : Blk (w1.alloc (.cells #[.slice wp wide.length wcap, .slice hp high.length hc] 29)) w1.heap.size 29 #[.slice wp wide.length wcap, .slice hp high.length hc] := Blk.new' rfl
  have hM := hM1.more hEa
  have hS := hS1.ext hEa
  have hE := hE1.ext hEa
  have hgb := hS1.lt
  clear hS0 hE0 hE1 hM1 hEa hS1
  generalize w1.alloc (.cells #[.slice wp wide.length wcap, .slice hp high.length hc] 29) = W at *
  generalize w1.heap.size = gB at *
  have hsW := hS.lt
  have hbW := hB.lt
  replace hM := Lib.hid hM
  generalize hsf : standsF P wide high S = sf at *
  replace hsf := Lib.hid hsf
  go_wp2
  go_loopw [8, 32] (fun v8 v32 wr => ∃ (k : Nat) (G : List ByteArray) (v : Value), v8 = v ∧ v32 = .int .i64 k ∧ k ≤ S.length ∧ G.length ≤ k ∧ (∀ nm ∈ G, nm.size ≤ 1000) ∧ wr.ownsRow W.heap.size 9 1 v G.length (G.flatMap strC) ∧ Str wr w.heap.size (0 + 2080 + k) ∧ ExtS w.heap.size W wr) (fun _ v32 _ => S.length - (intOf v32).toNat)
  case atStart => exact ⟨0, [], _, rfl, rfl, Nat.zero_le _, Nat.le_refl _, (fun nm h => by cases h), World.ownsRow_nil _ _ _ _, hS, ExtS.refl _ _⟩
  case round =>
    clear hS
    obtain ⟨k, G, v, rfl, rfl, hk, hGk, hGz, hown, hS, hX⟩ := hrel
    have hsw := hX.2.2.2.1
    by_cases hlt : k < S.length
    · obtain ⟨x, hx⟩ := getD_some (rfl : S.length = S.length) hlt
      have hxs := hM.out.sS x (List.mem_of_getElem? hx)
      have hkI : (k : Int) < S.length := by omega
      rcases (slcC (hM.out.sta.extS hX hlf)).2 with ⟨-, e⟩ | ⟨sb, so, rfl, hsb2, hEl⟩
      · rw [e] at hx; cases hx
      obtain ⟨c0, c1, c2⟩ := hEl.sta hx
      have hE1 : Ext wr (wr.alloc (.cells #[.string x.name, .int .i64 x.row, .int .i64 x.place] 46)) := (Ext.refl _).alloc _
      have hY : Blk (wr.alloc (.cells #[.string x.name, .int .i64 x.row, .int .i64 x.place] 46)) wr.heap.size 46 #[.string x.name, .int .i64 x.row, .int .i64 x.place] := Blk.new' rfl
      have hE2 := hX.ext hE1
      have hS2 := hS.ext hE1
      have hown2 := own_ext hE1 hown
      have hfl := flip_any w.heap.size (0 + 2080 + k) 3 _ (by omega) (by omega) (by omega) hS2
      have hnl : x.name.size ≤ 1000 := hxs.1
      replace hfl := Lib.hid hfl
      replace hown2 := Lib.hid hown2
      replace hGz := Lib.hid hGz
      clear hown hS hX hEl hx hS2
      go_upto_if 37 with (go_at_call 9; (with_reducible refine Calls.mono hfl.out ?_); rintro e w11 ⟨bb, rfl, hS11, hE11⟩)
      have hE12 := hE2.trans hE11
      have hown11 := own_extS hE11 (by omega) hown2.out
      have hY11 := hY.extS (by omega) hE11
      obtain ⟨y1, -⟩ := hY11.walk
      have yl := hY11.lt
      replace hS11 : Str w11 w.heap.size (0 + 2080 + (k + 1)) := hS11
      clear c0 c1 c2 hE2 hE11 hE1 hY hown2
      cases bb
      · replace hown11 := Lib.hid hown11
        go_wp2
        go_roundw
        case rel => exact ⟨k + 1, G, _, rfl, by go_num, by omega, by omega, hGz.out, hown11.out, hS11, hE12⟩
        case measure => simp [intOf]; omega
      · go_wp2_with (at_builtin; go_loud (refine wp_app1 _ (.tmp 38) (.tmp 41) 48 9 1 16 _ rfl rfl Tryz.underlying48 strInfo rfl (by decide) (by decide) W.heap.size _ _ _ rfl (hown11.alloc _) w11.heap.size (strC x.name) rfl rfl (Blk.new' rfl) (by simp [strC, Value.oneCell']) (by omega) (by simp; omega) ?_; intro v' w6 hown6 hgrow6 _))
        have hl6 : (G ++ [x.name]).length = G.length + 1 := by simp
        go_roundw
        case rel => exact ⟨k + 1, G ++ [x.name], v', rfl, by go_num, by omega, by omega, (fun nm hm => by rcases List.mem_append.1 hm with h | h; exact hGz.out nm h; rw [List.mem_singleton.1 h]; exact hnl), by rw [hl6, flat_snoc]; exact hown6, (hS11.ext ((Ext.refl _).alloc _)).app (hown11.alloc _) hsW hgrow6, (hE12.alloc _).app (hown11.alloc _) (Nat.le_refl _) hgrow6⟩
        case measure => simp [intOf]; omega
    · obtain rfl : k = S.length := by omega
      have hfl := flip_any w.heap.size (0 + 2080 + S.length) 12 _ (by omega) (by omega) (by omega) hS
      replace hfl := Lib.hid hfl
      replace hown := Lib.hid hown
      replace hGz := Lib.hid hGz
      have hlen9 : S.length ≤ 9 := hS9
      go_upto_if 45 with (go_at_call 9; (with_reducible refine Calls.mono hfl.out ?_); rintro e w11 ⟨bb, rfl, hS11, hE11⟩)
      have hE12 := hX.trans hE11
      have hown11 := own_extS hE11 (by omega) hown.out
      clear hfl hown hS hX hE11
      go_cut [8] (fun v8 w' => ∃ (G : List ByteArray), G.length ≤ 10 ∧ (∀ nm ∈ G, nm.size ≤ 1000) ∧ w'.ownsRow W.heap.size 9 1 v8 G.length (G.flatMap strC) ∧ Str w' w.heap.size (0 + 2080 + 20) ∧ ExtS w.heap.size W w')
      case first =>
        cases bb
        · replace hown11 := Lib.hid hown11
          go_wp2
          go_meet
          exact ⟨G, by omega, hGz.out, hown11.out, hS11.more (by omega), hE12⟩
        · replace hown11 := Lib.hid hown11
          have l1 := hS11.lt
          have hw11 := hE12.2.2.2.1
          go_wp2_with (first
            | (go_at_call 19; refine (somes_any w.heap.size (0 + 2080 + S.length + 1) _ _ 2 [⟨#[112, 48]⟩, ⟨#[122, 122]⟩] _ (by omega) (by simp) (by simp) (by exact hS11.ext (Ext.alloc (Ext.refl _) _)) (by exact Nat.ne_of_gt l1) (by exact Blk.new' rfl)).mono ?_; rintro e w4 ⟨nm, hnm, rfl, hS4, hE4⟩; have hX4 := (hE12.alloc _).trans hE4; have ho4 := own_extS hE4 (by omega) (hown11.out.alloc _); have l4 := hX4.2.2.2.1)
            | (at_builtin; go_loud (refine wp_app1 _ (.tmp 46) (.tmp 50) 48 9 1 16 _ rfl rfl Tryz.underlying48 strInfo rfl (by decide) (by decide) W.heap.size _ _ _ rfl (ho4.alloc _) w4.heap.size (strC nm) rfl rfl (Blk.new' rfl) (by simp [strC, Value.oneCell']) (by omega) (by simp; omega) ?_; intro v' w6 hown6 hgrow6 _)))
          have hl6 : (G ++ [nm]).length = G.length + 1 := by simp
          have hnz : nm.size ≤ 1000 := by
            rcases (by simpa using hnm : nm = ⟨#[112, 48]⟩ ∨ nm = ⟨#[122, 122]⟩) with rfl | rfl
            · decide
            · decide
          go_meet
          exact ⟨G ++ [nm], by omega, (fun q hm => by rcases List.mem_append.1 hm with h | h; exact hGz.out q h; rw [List.mem_singleton.1 h]; exact hnz), by rw [hl6, flat_snoc]; exact hown6, ((hS4.ext ((Ext.refl _).alloc _)).app (ho4.alloc _) hsW hgrow6).more (by omega), (hX4.alloc _).app (ho4.alloc _) (Nat.le_refl _) hgrow6⟩
      case rest =>
        clear hGz hS11 hE12 hown11 hGk
        obtain ⟨G, hGl, hGz, hown, hS, hX⟩ := hcut
        generalize wc = W3 at *
        obtain ⟨gp, gc, rfl, hG⟩ := slc_of_own (enc := strC) (fun _ => rfl) hown (by decide) (by omega)
        have hM3 : PsM W3 pp pc P wp wcap wide hp hc high lp lc S := ⟨hM.out.per.extS hX hpf, hM.out.wid.extS hX hwf, hM.out.hig.extS hX hhf, hM.out.sta.extS hX hlf, hM.out.sP, hM.out.sw, hM.out.sh, hM.out.sS, hM.out.nP, hM.out.nS⟩
        have hB3 := hB.extS (by omega) hX
        have hE3 := hE.trans hX
        obtain ⟨b0, -⟩ := hB3.walk
        have bl0 := hB3.lt
        have hmi := fun u (hu : Ext W3 u) => missing_any (hM3.sta.ext hu) (by omega) (hG.ext hu) (by omega)
        generalize hmf : missF S G = mf at *
        clear hown hM hB hE hX
        replace hmi := Lib.hid hmi
        replace hmf := Lib.hid hmf
        replace hGz := Lib.hid hGz
        replace hG := Lib.hid hG
        replace hM3 := Lib.hid hM3
        by_cases hs0 : sf = 0
        · subst hs0
          have hmr := fun u (hu : Ext W3 u) => mirror_any pp pc P wp wcap wide hp hc high lp lc S u (hM3.out.more hu) hsf.out
          have hmo := fun u (hu : Ext W3 u) => mirrorOf_any pp pc P wp wcap wide hp hc high lp lc S u (hM3.out.more hu) hsf.out
          replace hmr := Lib.hid hmr
          replace hmo := Lib.hid hmo
          by_cases hm0 : mf = 0
          · subst hm0
            obtain ⟨hGs, hGn⟩ := missF_zero hmf.out
            have hcl := closed_any pp pc P wp wcap wide hp hc high lp lc S W3 hM3.out hsf.out gp gc G hG.out hGn hGs (by omega)
            have hco := fun u (hu : Ext W3 u) => closedOf_any (hM3.out.sta.ext hu) (by omega) hM3.out.sS (hG.out.ext hu) (by omega)
            have hcn : (closeL S (inG G)).length ≤ S.length := by unfold closeL; rw [List.length_map]; exact List.length_filter_le _ _
            generalize closeL S (inG G) = CL at *
            replace hcl := Lib.hid hcl
            replace hco := Lib.hid hco
            clear hGs hGn
            go_upto_region 19 with (first
              | (go_at_call 27; (with_reducible refine Calls.mono hcl.out ?_); rintro e y1 ⟨q1, c1, rfl, hQ1, hy1⟩; clear b0 bl0; obtain ⟨b1, -⟩ := (hB3.ext hy1).walk; have bl1 := (hB3.ext hy1).lt)
              | (go_at_call 28; (with_reducible refine Calls.mono (hmr.out _ hy1) ?_); rintro e y2 ⟨q2, c2, T, rfl, hTp, hTs, hQ2, hy2⟩; replace hTp := Lib.hid hTp; replace hTs := Lib.hid hTs; clear b1 bl1; have Y2 := hy1.trans hy2)
              | (go_at_call 29; (with_reducible refine Calls.mono (hmi.out _ Y2) ?_); rintro e y3 ⟨rfl, hy3⟩; have Y3 := Y2.trans hy3; have Y4 := Y3.alloc (.cells #[.int .i64 0, .int .i64 0] 35); have hQ1' := ((hQ1.ext hy2).ext hy3).ext ((Ext.refl _).alloc (.cells #[.int .i64 0, .int .i64 0] 35)); have hQ2' := (hQ2.ext hy3).ext ((Ext.refl _).alloc (.cells #[.int .i64 0, .int .i64 0] 35)))
              | (go_at_call 13; refine (orErr_blk _ _ 2 [0, 0] _ (by simp) (Blk.new' rfl)).mono ?_; rw [show orF [0, 0] = 0 from rfl]; rintro e y4 ⟨rfl, rfl⟩)
              | (go_at_call 30; (with_reducible refine Calls.mono (hco.out _ Y4) ?_); rintro e y5 ⟨q5, c5, rfl, hQ5, hy5⟩; have Y5 := Y4.trans hy5)
              | (go_at_call 18; (with_reducible refine Calls.mono (eqSta_any q1 q5 _ c1 c5 _ _ (hQ1'.ext hy5) hQ5 (by omega)) ?_); rintro e y6 ⟨rfl, hy6⟩; have Y6 := Y5.trans hy6; have hQ2'' := (hQ2'.ext hy5).ext hy6; obtain ⟨b6, -⟩ := (hB3.ext Y6).walk; have bl6 := (hB3.ext Y6).lt)
              | (go_at_call 31; (with_reducible refine Calls.mono (hmo.out _ Y6) ?_); rintro e y7 ⟨q7, c7, U, rfl, hUp, hUs, hQ7, hy7⟩; have Y7 := Y6.trans hy7; clear b6 bl6; have heq := sorted_same hTs.out hUs (hTp.out.trans hUp.symm); subst heq; replace hUp := Lib.hid hUp; replace hUs := Lib.hid hUs)
              | (go_at_call 18; (with_reducible refine Calls.mono (eqSta_any q2 q7 _ c2 c7 _ _ (hQ2''.ext hy7) hQ7 (by omega)) ?_); rintro e y8 ⟨rfl, hy8⟩; have Y8 := Y7.trans hy8))
            clear hcl hco hmr hmo hTp hTs hUp hUs hQ1 hQ2 hQ1' hQ2' hQ2'' hQ5 hQ7
            have hEt := hE3.ext Y8
            have hSt := hS.ext Y8
            have hMt := hM3.out.more Y8
            have hBt := hB3.ext Y8
            obtain ⟨b9, -⟩ := hBt.walk
            have bl9 := hBt.lt
            have hsl := standList_any w.heap.size (0 + 2080 + 20) _ pp pc P wp wcap wide hp hc high (by omega) hSt hMt.per hMt.wid hMt.hig hpf hwf hMt.sP hMt.sw hMt.sh hP9 hw4
            have hsS := hMt.sS
            have hLt := hMt.sta
            replace hsl := Lib.hid hsl
            replace hsS := Lib.hid hsS
            replace hLt := Lib.hid hLt
            clear hM3 hMt hSt hBt hB3 hE3 hS hG hGz hmi hmf hsf
            go_upto_region 20 with (go_at_call 32; (with_reducible refine Calls.mono hsl.out ?_); rintro e wz ⟨zp, zc, Z, rfl, hZ9, hZl, hZs, hzf, hSz, hEz⟩)
            have hLz := hLt.out.extS hEz hlf
            have hEw := hbk.out _ (hEt.trans hEz)
            have hp1 := fun u (hu : Ext wz u) => places_any (hLz.ext hu) (by omega) hsS.out
            have hp2 := fun u (hu : Ext wz u) => places_any (hZl.ext hu) (by omega) hZs
            by_cases h1 : looseF S = 0
            · by_cases h2 : looseF Z = 0
              · have hmv := moved_ok hLz (by omega) hsS.out h1 hZl (by omega) hZs h2
                have hmo := fun u (hu : Ext wz u) => movedOf_any (hLz.ext hu) (by omega) hsS.out (looseF_ok h1) (hZl.ext hu) (by omega) hZs (looseF_ok h2)
                have hpm := mov_perm (looseF_ok h2) (looseF_ok h1)
                have hsn := srtN_perm hpm
                have hll := hpm.length_eq
                have hlb := movT_len Z S Z.length
                have hmr : movT Z S Z.length = movR Z S := by unfold movT movR; rw [List.take_length]
                rw [hmr] at hlb
                rw [h1] at hp1
                rw [h2] at hp2
                rw [← hsn, ← hll] at hmo
                replace hp1 := Lib.hid hp1
                replace hp2 := Lib.hid hp2
                replace hmv := Lib.hid hmv
                replace hmo := Lib.hid hmo
                clear h1 h2 hLz hZl hZs hsl hLt hpm hsn hll hmr
                go_wp2_with (first
                  | (go_at_call 33; (with_reducible refine Calls.mono hmv.out ?_); rintro e x1 ⟨q1, c1, rfl, hQ1, hx1⟩)
                  | (go_at_call 34; (with_reducible refine Calls.mono (hp1.out _ hx1) ?_); rintro e x2 ⟨rfl, hx2⟩; have X2 := hx1.trans hx2)
                  | (go_at_call 34; (with_reducible refine Calls.mono (hp2.out _ X2) ?_); rintro e x3 ⟨rfl, hx3⟩; have X3 := X2.trans hx3; have X4 := X3.alloc (.cells #[.int .i64 0, .int .i64 0] 35))
                  | (go_at_call 13; refine (orErr_blk _ _ 2 [0, 0] _ (by simp) (Blk.new' rfl)).mono ?_; rw [show orF [0, 0] = 0 from rfl]; rintro e x4 ⟨rfl, rfl⟩)
                  | (go_at_call 36; (with_reducible refine Calls.mono (hmo.out _ X4) ?_); rintro e x5 ⟨q5, c5, rfl, hQ5, hx5⟩; have X5 := X4.trans hx5; have hQ1' := (((hQ1.ext hx2).ext hx3).ext ((Ext.refl _).alloc (.cells #[.int .i64 0, .int .i64 0] 35))).ext hx5)
                  | (go_at_call 35; (with_reducible refine Calls.mono (eqStr_any q1 q5 _ c1 c5 _ _ hQ1' hQ5 (by omega)) ?_); rintro e x6 ⟨rfl, hx6⟩; have X6 := X5.trans hx6)
                  | (go_at_call 11; (with_reducible refine Calls.mono (stood_any _) ?_); rintro e x7 ⟨rfl, hx7⟩))
                go_ret
                exact ⟨rfl, hEw.trans (X6.trans hx7)⟩
              · have hmv := moved_bad2 hLz (by omega) hsS.out h1 hZl (by omega) hZs rfl h2
                rw [h1] at hp1
                generalize looseF Z = lz at *
                have hor : orF [0, lz] = lz := by simp [orF]; intro h; exact h.symm
                replace hor := Lib.hid hor
                replace hp1 := Lib.hid hp1
                replace hp2 := Lib.hid hp2
                replace hmv := Lib.hid hmv
                clear h1 hLz hZl hZs hsl hLt
                go_wp2_with (first
                  | (go_at_call 33; (with_reducible refine Calls.mono hmv.out ?_); rintro e x1 ⟨rfl, hx1⟩)
                  | (go_at_call 34; (with_reducible refine Calls.mono (hp1.out _ hx1) ?_); rintro e x2 ⟨rfl, hx2⟩; have X2 := hx1.trans hx2)
                  | (go_at_call 34; (with_reducible refine Calls.mono (hp2.out _ X2) ?_); rintro e x3 ⟨rfl, hx3⟩; have X3 := X2.trans hx3; have X4 := X3.alloc (.cells #[.int .i64 0, .int .i64 lz] 35))
                  | (go_at_call 13; refine (orErr_blk _ _ 2 [0, lz] _ (by simp) (Blk.new' rfl)).mono ?_; rw [hor.out]; rintro e x4 ⟨rfl, rfl⟩)
                  | (go_at_call 11; (with_reducible refine Calls.mono (stood_any _) ?_); rintro e x7 ⟨rfl, hx7⟩))
                go_ret
                exact ⟨rfl, hEw.trans (X4.trans hx7)⟩
            · have hmv := moved_bad1 (mp := zp) (mc := zc) hLz (by omega) hsS.out rfl h1 Z.length
              generalize looseF S = ls at *
              generalize looseF Z = lz at *
              have hor : orF [ls, lz] = ls := by simp [orF, h1]
              replace hor := Lib.hid hor
              replace hp1 := Lib.hid hp1
              replace hp2 := Lib.hid hp2
              replace hmv := Lib.hid hmv
              clear hLz hZl hZs hsl hLt
              go_wp2_with (first
                | (go_at_call 33; (with_reducible refine Calls.mono hmv.out ?_); rintro e x1 ⟨rfl, hx1⟩)
                | (go_at_call 34; (with_reducible refine Calls.mono (hp1.out _ hx1) ?_); rintro e x2 ⟨rfl, hx2⟩; have X2 := hx1.trans hx2)
                | (go_at_call 34; (with_reducible refine Calls.mono (hp2.out _ X2) ?_); rintro e x3 ⟨rfl, hx3⟩; have X3 := X2.trans hx3; have X4 := X3.alloc (.cells #[.int .i64 ls, .int .i64 lz] 35))
                | (go_at_call 13; refine (orErr_blk _ _ 2 [ls, lz] _ (by simp) (Blk.new' rfl)).mono ?_; rw [hor.out]; rintro e x4 ⟨rfl, rfl⟩)
                | (go_at_call 11; (with_reducible refine Calls.mono (stood_any _) ?_); rintro e x7 ⟨rfl, hx7⟩))
              go_ret
              exact ⟨rfl, hEw.trans (X4.trans hx7)⟩
          · have hcl := closed_miss hM3.out hsf.out gp gc G hG.out (by omega) hGz.out hmf.out hm0
            have hor : orF [0, mf] = mf := by simp [orF]; intro h; exact h.symm
            replace hor := Lib.hid hor
            replace hcl := Lib.hid hcl
            go_upto_region 19 with (first
              | (go_at_call 27; (with_reducible refine Calls.mono hcl.out ?_); rintro e y1 ⟨rfl, hy1⟩; clear b0 bl0; obtain ⟨b1, -⟩ := (hB3.ext hy1).walk; have bl1 := (hB3.ext hy1).lt)
              | (go_at_call 28; (with_reducible refine Calls.mono (hmr.out _ hy1) ?_); rintro e y2 ⟨q2, c2, T, rfl, hTp, hTs, hQ2, hy2⟩; replace hTp := Lib.hid hTp; replace hTs := Lib.hid hTs; clear b1 bl1; have Y2 := hy1.trans hy2)
              | (go_at_call 29; (with_reducible refine Calls.mono (hmi.out _ Y2) ?_); rintro e y3 ⟨rfl, hy3⟩; have Y3 := Y2.trans hy3; have Y4 := Y3.alloc (.cells #[.int .i64 0, .int .i64 mf] 35); have hQ2' := (hQ2.ext hy3).ext ((Ext.refl _).alloc (.cells #[.int .i64 0, .int .i64 mf] 35)); obtain ⟨b6, -⟩ := (hB3.ext Y4).walk; have bl6 := (hB3.ext Y4).lt)
              | (go_at_call 13; refine (orErr_blk _ _ 2 [0, mf] _ (by simp) (Blk.new' rfl)).mono ?_; rw [hor.out]; rintro e y4 ⟨rfl, rfl⟩)
              | (go_at_call 31; (with_reducible refine Calls.mono (hmo.out _ Y4) ?_); rintro e y7 ⟨q7, c7, U, rfl, hUp, hUs, hQ7, hy7⟩; have Y7 := Y4.trans hy7; clear b6 bl6; have heq := sorted_same hTs.out hUs (hTp.out.trans hUp.symm); subst heq; replace hUp := Lib.hid hUp; replace hUs := Lib.hid hUs)
              | (go_at_call 18; (with_reducible refine Calls.mono (eqSta_any q2 q7 _ c2 c7 _ _ (hQ2'.ext hy7) hQ7 (by omega)) ?_); rintro e y8 ⟨rfl, hy8⟩; have Y8 := Y7.trans hy8))
            clear hcl hmr hmo hTp hTs hUp hUs hQ2 hQ2' hQ7 hor
            have hEt := hE3.ext Y8
            have hSt := hS.ext Y8
            have hMt := hM3.out.more Y8
            have hBt := hB3.ext Y8
            obtain ⟨b9, -⟩ := hBt.walk
            have bl9 := hBt.lt
            have hsl := standList_any w.heap.size (0 + 2080 + 20) _ pp pc P wp wcap wide hp hc high (by omega) hSt hMt.per hMt.wid hMt.hig hpf hwf hMt.sP hMt.sw hMt.sh hP9 hw4
            have hsS := hMt.sS
            have hLt := hMt.sta
            replace hsl := Lib.hid hsl
            replace hsS := Lib.hid hsS
            replace hLt := Lib.hid hLt
            clear hM3 hMt hSt hBt hB3 hE3 hS hG hGz hmi hmf hsf
            go_upto_region 20 with (go_at_call 32; (with_reducible refine Calls.mono hsl.out ?_); rintro e wz ⟨zp, zc, Z, rfl, hZ9, hZl, hZs, hzf, hSz, hEz⟩)
            have hLz := hLt.out.extS hEz hlf
            have hEw := hbk.out _ (hEt.trans hEz)
            have hp1 := fun u (hu : Ext wz u) => places_any (hLz.ext hu) (by omega) hsS.out
            have hp2 := fun u (hu : Ext wz u) => places_any (hZl.ext hu) (by omega) hZs
            by_cases h1 : looseF S = 0
            · by_cases h2 : looseF Z = 0
              · have hmv := moved_ok hLz (by omega) hsS.out h1 hZl (by omega) hZs h2
                have hmo := fun u (hu : Ext wz u) => movedOf_any (hLz.ext hu) (by omega) hsS.out (looseF_ok h1) (hZl.ext hu) (by omega) hZs (looseF_ok h2)
                have hpm := mov_perm (looseF_ok h2) (looseF_ok h1)
                have hsn := srtN_perm hpm
                have hll := hpm.length_eq
                have hlb := movT_len Z S Z.length
                have hmr : movT Z S Z.length = movR Z S := by unfold movT movR; rw [List.take_length]
                rw [hmr] at hlb
                rw [h1] at hp1
                rw [h2] at hp2
                rw [← hsn, ← hll] at hmo
                replace hp1 := Lib.hid hp1
                replace hp2 := Lib.hid hp2
                replace hmv := Lib.hid hmv
                replace hmo := Lib.hid hmo
                clear h1 h2 hLz hZl hZs hsl hLt hpm hsn hll hmr
                go_wp2_with (first
                  | (go_at_call 33; (with_reducible refine Calls.mono hmv.out ?_); rintro e x1 ⟨q1, c1, rfl, hQ1, hx1⟩)
                  | (go_at_call 34; (with_reducible refine Calls.mono (hp1.out _ hx1) ?_); rintro e x2 ⟨rfl, hx2⟩; have X2 := hx1.trans hx2)
                  | (go_at_call 34; (with_reducible refine Calls.mono (hp2.out _ X2) ?_); rintro e x3 ⟨rfl, hx3⟩; have X3 := X2.trans hx3; have X4 := X3.alloc (.cells #[.int .i64 0, .int .i64 0] 35))
                  | (go_at_call 13; refine (orErr_blk _ _ 2 [0, 0] _ (by simp) (Blk.new' rfl)).mono ?_; rw [show orF [0, 0] = 0 from rfl]; rintro e x4 ⟨rfl, rfl⟩)
                  | (go_at_call 36; (with_reducible refine Calls.mono (hmo.out _ X4) ?_); rintro e x5 ⟨q5, c5, rfl, hQ5, hx5⟩; have X5 := X4.trans hx5; have hQ1' := (((hQ1.ext hx2).ext hx3).ext ((Ext.refl _).alloc (.cells #[.int .i64 0, .int .i64 0] 35))).ext hx5)
                  | (go_at_call 35; (with_reducible refine Calls.mono (eqStr_any q1 q5 _ c1 c5 _ _ hQ1' hQ5 (by omega)) ?_); rintro e x6 ⟨rfl, hx6⟩; have X6 := X5.trans hx6)
                  | (go_at_call 11; (with_reducible refine Calls.mono (stood_any _) ?_); rintro e x7 ⟨rfl, hx7⟩))
                go_ret
                exact ⟨rfl, hEw.trans (X6.trans hx7)⟩
              · have hmv := moved_bad2 hLz (by omega) hsS.out h1 hZl (by omega) hZs rfl h2
                rw [h1] at hp1
                generalize looseF Z = lz at *
                have hor : orF [0, lz] = lz := by simp [orF]; intro h; exact h.symm
                replace hor := Lib.hid hor
                replace hp1 := Lib.hid hp1
                replace hp2 := Lib.hid hp2
                replace hmv := Lib.hid hmv
                clear h1 hLz hZl hZs hsl hLt
                go_wp2_with (first
                  | (go_at_call 33; (with_reducible refine Calls.mono hmv.out ?_); rintro e x1 ⟨rfl, hx1⟩)
                  | (go_at_call 34; (with_reducible refine Calls.mono (hp1.out _ hx1) ?_); rintro e x2 ⟨rfl, hx2⟩; have X2 := hx1.trans hx2)
                  | (go_at_call 34; (with_reducible refine Calls.mono (hp2.out _ X2) ?_); rintro e x3 ⟨rfl, hx3⟩; have X3 := X2.trans hx3; have X4 := X3.alloc (.cells #[.int .i64 0, .int .i64 lz] 35))
                  | (go_at_call 13; refine (orErr_blk _ _ 2 [0, lz] _ (by simp) (Blk.new' rfl)).mono ?_; rw [hor.out]; rintro e x4 ⟨rfl, rfl⟩)
                  | (go_at_call 11; (with_reducible refine Calls.mono (stood_any _) ?_); rintro e x7 ⟨rfl, hx7⟩))
                go_ret
                exact ⟨rfl, hEw.trans (X4.trans hx7)⟩
            · have hmv := moved_bad1 (mp := zp) (mc := zc) hLz (by omega) hsS.out rfl h1 Z.length
              generalize looseF S = ls at *
              generalize looseF Z = lz at *
              have hor : orF [ls, lz] = ls := by simp [orF, h1]
              replace hor := Lib.hid hor
              replace hp1 := Lib.hid hp1
              replace hp2 := Lib.hid hp2
              replace hmv := Lib.hid hmv
              clear hLz hZl hZs hsl hLt
              go_wp2_with (first
                | (go_at_call 33; (with_reducible refine Calls.mono hmv.out ?_); rintro e x1 ⟨rfl, hx1⟩)
                | (go_at_call 34; (with_reducible refine Calls.mono (hp1.out _ hx1) ?_); rintro e x2 ⟨rfl, hx2⟩; have X2 := hx1.trans hx2)
                | (go_at_call 34; (with_reducible refine Calls.mono (hp2.out _ X2) ?_); rintro e x3 ⟨rfl, hx3⟩; have X3 := X2.trans hx3; have X4 := X3.alloc (.cells #[.int .i64 ls, .int .i64 lz] 35))
                | (go_at_call 13; refine (orErr_blk _ _ 2 [ls, lz] _ (by simp) (Blk.new' rfl)).mono ?_; rw [hor.out]; rintro e x4 ⟨rfl, rfl⟩)
                | (go_at_call 11; (with_reducible refine Calls.mono (stood_any _) ?_); rintro e x7 ⟨rfl, hx7⟩))
              go_ret
              exact ⟨rfl, hEw.trans (X4.trans hx7)⟩
        · have hcl := closed_bad hM3.out hsf.out hs0 gp G.length gc
          have hmr := fun u (hu : Ext W3 u) => mirror_bad (hM3.out.more hu) hsf.out hs0
          have hor : orF [sf, mf] = sf := by simp [orF, hs0]
          replace hor := Lib.hid hor
          replace hcl := Lib.hid hcl
          replace hmr := Lib.hid hmr
          go_upto_region 19 with (first
            | (go_at_call 27; (with_reducible refine Calls.mono hcl.out ?_); rintro e y1 ⟨rfl, hy1⟩; clear b0 bl0; obtain ⟨b1, -⟩ := (hB3.ext hy1).walk; have bl1 := (hB3.ext hy1).lt)
            | (go_at_call 28; (with_reducible refine Calls.mono (hmr.out _ hy1) ?_); rintro e y2 ⟨rfl, hy2⟩; clear b1 bl1; have Y2 := hy1.trans hy2)
            | (go_at_call 29; (with_reducible refine Calls.mono (hmi.out _ Y2) ?_); rintro e y3 ⟨rfl, hy3⟩; have Y3 := Y2.trans hy3; have Y4 := Y3.alloc (.cells #[.int .i64 sf, .int .i64 mf] 35))
            | (go_at_call 13; refine (orErr_blk _ _ 2 [sf, mf] _ (by simp) (Blk.new' rfl)).mono ?_; rw [hor.out]; rintro e y4 ⟨rfl, rfl⟩))
          clear hcl hmr hor
          have hEt := hE3.ext Y4
          have hSt := hS.ext Y4
          have hMt := hM3.out.more Y4
          have hBt := hB3.ext Y4
          obtain ⟨b9, -⟩ := hBt.walk
          have bl9 := hBt.lt
          have hsl := standList_any w.heap.size (0 + 2080 + 20) _ pp pc P wp wcap wide hp hc high (by omega) hSt hMt.per hMt.wid hMt.hig hpf hwf hMt.sP hMt.sw hMt.sh hP9 hw4
          have hsS := hMt.sS
          have hLt := hMt.sta
          replace hsl := Lib.hid hsl
          replace hsS := Lib.hid hsS
          replace hLt := Lib.hid hLt
          clear hM3 hMt hSt hBt hB3 hE3 hS hG hGz hmi hmf hsf
          go_upto_region 20 with (go_at_call 32; (with_reducible refine Calls.mono hsl.out ?_); rintro e wz ⟨zp, zc, Z, rfl, hZ9, hZl, hZs, hzf, hSz, hEz⟩)
          have hLz := hLt.out.extS hEz hlf
          have hEw := hbk.out _ (hEt.trans hEz)
          have hp1 := fun u (hu : Ext wz u) => places_any (hLz.ext hu) (by omega) hsS.out
          have hp2 := fun u (hu : Ext wz u) => places_any (hZl.ext hu) (by omega) hZs
          by_cases h1 : looseF S = 0
          · by_cases h2 : looseF Z = 0
            · have hmv := moved_ok hLz (by omega) hsS.out h1 hZl (by omega) hZs h2
              have hmo := fun u (hu : Ext wz u) => movedOf_any (hLz.ext hu) (by omega) hsS.out (looseF_ok h1) (hZl.ext hu) (by omega) hZs (looseF_ok h2)
              have hpm := mov_perm (looseF_ok h2) (looseF_ok h1)
              have hsn := srtN_perm hpm
              have hll := hpm.length_eq
              have hlb := movT_len Z S Z.length
              have hmr : movT Z S Z.length = movR Z S := by unfold movT movR; rw [List.take_length]
              rw [hmr] at hlb
              rw [h1] at hp1
              rw [h2] at hp2
              rw [← hsn, ← hll] at hmo
              replace hp1 := Lib.hid hp1
              replace hp2 := Lib.hid hp2
              replace hmv := Lib.hid hmv
              replace hmo := Lib.hid hmo
              clear h1 h2 hLz hZl hZs hsl hLt hpm hsn hll hmr
              go_wp2_with (first
                | (go_at_call 33; (with_reducible refine Calls.mono hmv.out ?_); rintro e x1 ⟨q1, c1, rfl, hQ1, hx1⟩)
                | (go_at_call 34; (with_reducible refine Calls.mono (hp1.out _ hx1) ?_); rintro e x2 ⟨rfl, hx2⟩; have X2 := hx1.trans hx2)
                | (go_at_call 34; (with_reducible refine Calls.mono (hp2.out _ X2) ?_); rintro e x3 ⟨rfl, hx3⟩; have X3 := X2.trans hx3; have X4 := X3.alloc (.cells #[.int .i64 0, .int .i64 0] 35))
                | (go_at_call 13; refine (orErr_blk _ _ 2 [0, 0] _ (by simp) (Blk.new' rfl)).mono ?_; rw [show orF [0, 0] = 0 from rfl]; rintro e x4 ⟨rfl, rfl⟩)
                | (go_at_call 36; (with_reducible refine Calls.mono (hmo.out _ X4) ?_); rintro e x5 ⟨q5, c5, rfl, hQ5, hx5⟩; have X5 := X4.trans hx5; have hQ1' := (((hQ1.ext hx2).ext hx3).ext ((Ext.refl _).alloc (.cells #[.int .i64 0, .int .i64 0] 35))).ext hx5)
                | (go_at_call 35; (with_reducible refine Calls.mono (eqStr_any q1 q5 _ c1 c5 _ _ hQ1' hQ5 (by omega)) ?_); rintro e x6 ⟨rfl, hx6⟩; have X6 := X5.trans hx6)
                | (go_at_call 11; (with_reducible refine Calls.mono (stood_any _) ?_); rintro e x7 ⟨rfl, hx7⟩))
              go_ret
              exact ⟨rfl, hEw.trans (X6.trans hx7)⟩
            · have hmv := moved_bad2 hLz (by omega) hsS.out h1 hZl (by omega) hZs rfl h2
              rw [h1] at hp1
              generalize looseF Z = lz at *
              have hor : orF [0, lz] = lz := by simp [orF]; intro h; exact h.symm
              replace hor := Lib.hid hor
              replace hp1 := Lib.hid hp1
              replace hp2 := Lib.hid hp2
              replace hmv := Lib.hid hmv
              clear h1 hLz hZl hZs hsl hLt
              go_wp2_with (first
                | (go_at_call 33; (with_reducible refine Calls.mono hmv.out ?_); rintro e x1 ⟨rfl, hx1⟩)
                | (go_at_call 34; (with_reducible refine Calls.mono (hp1.out _ hx1) ?_); rintro e x2 ⟨rfl, hx2⟩; have X2 := hx1.trans hx2)
                | (go_at_call 34; (with_reducible refine Calls.mono (hp2.out _ X2) ?_); rintro e x3 ⟨rfl, hx3⟩; have X3 := X2.trans hx3; have X4 := X3.alloc (.cells #[.int .i64 0, .int .i64 lz] 35))
                | (go_at_call 13; refine (orErr_blk _ _ 2 [0, lz] _ (by simp) (Blk.new' rfl)).mono ?_; rw [hor.out]; rintro e x4 ⟨rfl, rfl⟩)
                | (go_at_call 11; (with_reducible refine Calls.mono (stood_any _) ?_); rintro e x7 ⟨rfl, hx7⟩))
              go_ret
              exact ⟨rfl, hEw.trans (X4.trans hx7)⟩
          · have hmv := moved_bad1 (mp := zp) (mc := zc) hLz (by omega) hsS.out rfl h1 Z.length
            generalize looseF S = ls at *
            generalize looseF Z = lz at *
            have hor : orF [ls, lz] = ls := by simp [orF, h1]
            replace hor := Lib.hid hor
            replace hp1 := Lib.hid hp1
            replace hp2 := Lib.hid hp2
            replace hmv := Lib.hid hmv
            clear hLz hZl hZs hsl hLt
            go_wp2_with (first
              | (go_at_call 33; (with_reducible refine Calls.mono hmv.out ?_); rintro e x1 ⟨rfl, hx1⟩)
              | (go_at_call 34; (with_reducible refine Calls.mono (hp1.out _ hx1) ?_); rintro e x2 ⟨rfl, hx2⟩; have X2 := hx1.trans hx2)
              | (go_at_call 34; (with_reducible refine Calls.mono (hp2.out _ X2) ?_); rintro e x3 ⟨rfl, hx3⟩; have X3 := X2.trans hx3; have X4 := X3.alloc (.cells #[.int .i64 ls, .int .i64 lz] 35))
              | (go_at_call 13; refine (orErr_blk _ _ 2 [ls, lz] _ (by simp) (Blk.new' rfl)).mono ?_; rw [hor.out]; rintro e x4 ⟨rfl, rfl⟩)
              | (go_at_call 11; (with_reducible refine Calls.mono (stood_any _) ?_); rintro e x7 ⟨rfl, hx7⟩))
            go_ret
            exact ⟨rfl, hEw.trans (X4.trans hx7)⟩
end Go.Proofs.YtakfanmoepiagaaGreatDoor
