/- The law of stands that are mirrored twice: it answers true. Conditions: the argument is a list of ints that lies in memory; the table of powers. -/
import Derived.Test.YtflcbphlhoibiaaGreatDoorMtMiK
import Derived.Test.YtflcbphlhoibiaaGreatDoorMtSuB
import Derived.Test.YtflcbphlhoibiaaGreatDoorMtJ47
import Derived.Deep.DeepCutAuto
set_option linter.unusedSimpArgs false
set_option linter.unusedVariables false
namespace Go.Proofs.YtflcbphlhoibiaaGreatDoor
open Go Go.RowKit

set_option maxRecDepth 100000 in
set_option maxHeartbeats 25600000 in
theorem lawMT_any (B : Nat) (w : World) (p : Option Addr) (n c : Nat) (h : Lst w w.heap.size p n) (ht : Tab B w) :
    Calls Tryz.prog 4 #[.slice p n c] w fun e w' => e = .returned (.bool true) ∧ Ext w w' := by
  have hS0 : Str (w.alloc (.cells #[.slice p n c, .int .i64 0] 25)) w.heap.size 0 := ⟨p, n, c, 0, Nat.le_refl _, Blk.new' rfl, h.low fun j hj => Below.heap_alloc w _ j hj⟩
  have hE0 : Ext w (w.alloc (.cells #[.slice p n c, .int .i64 0] 25)) := (Ext.refl w).alloc _
  have hbk : ∀ u, ExtS w.heap.size (w.alloc (.cells #[.slice p n c, .int .i64 0] 25)) u → Ext w u := fun u hu => ExtS.back hE0 (Nat.le_refl _) hu
  replace hbk := Lib.hid hbk
  clear h
  go_enter Tryz.func4, Tryz.ntmps4
  go_upto_region 3 with (first
    | (go_at_call 21; (with_reducible refine Calls.mono (people_any w.heap.size 0 8 _ (by omega) (by omega) (by exact hS0)) ?_); rintro e w1 ⟨pp, n, pc, P, rfl, hn9, hP, hpf, hPs, hS1, hE1⟩; obtain rfl : n = P.length := (slcC hP).1)
    | (go_at_call 22; (with_reducible refine Calls.mono (stageOf_any w.heap.size (0 + 40) _ (by omega) (by exact hS1)) ?_); rintro e w2 ⟨wp, wc, hp, hc, wide, high, rfl, hw4, hh4, hws, hhs, hW, hH, hwf, hhf, hS2, hE2⟩))
  have hpf2 : ∀ a, pp = some a → a.block ≠ w.heap.size := fun a ha e => by have := hpf a ha; simp at this; omega
  have hsz1 : w.heap.size + 1 ≤ w1.heap.size := by have := hE1.2.2.2.1; simpa using this
  have hwf2 : ∀ a, wp = some a → a.block ≠ w.heap.size := fun a ha e => by have := hwf a ha; omega
  have hhf2 : ∀ a, hp = some a → a.block ≠ w.heap.size := fun a ha e => by have := hhf a ha; omega
  have hP2 := hP.extS hE2 hpf2
  have hE2' := hE1.trans hE2
  have hEa : Ext w2 (w2.alloc (.cells #[.slice wp wide.length wc, .slice hp high.length hc] 28)) := (Ext.refl _).alloc _
  have hB3 : Blk (w2.alloc (.cells #[.slice wp wide.length wc, .slice hp high.length hc] 28)) w2.heap.size 28 #[.slice wp wide.length wc, .slice hp high.length hc] := Blk.new' rfl
  have hsl := standList_any w.heap.size (0 + 40 + 40) _ pp pc P wp wc wide hp hc high (by omega) (hS2.ext hEa) (hP2.ext hEa) (hW.ext hEa) (hH.ext hEa) hpf2 hwf2 hPs hws hhs hn9 hw4
  have hP3 := hP2.ext hEa
  have hW3 := hW.ext hEa
  have hH3 := hH.ext hEa
  have hE3 := hE2'.ext hEa
  have hsz2 := hE2'.2.2.2.1
  have hsz2' : w.heap.size < w2.heap.size := by have := hE2.2.2.2.1; omega
  have hsz3 : (w2.alloc (.cells #[.slice wp wide.length wc, .slice hp high.length hc] 28)).heap.size = w2.heap.size + 1 := by simp
  replace hsl := Lib.hid hsl
  clear hE1 hS1 hP hE2 hS2 hE2' hP2 hW hH hpf hwf hhf hS0
  replace hP3 := Lib.hid hP3
  replace hW3 := Lib.hid hW3
  replace hH3 := Lib.hid hH3
  replace hPs := Lib.hid hPs
  go_upto_region 4 with (go_at_call 15; (with_reducible refine Calls.mono hsl.out ?_); rintro e w4 ⟨lp, lc, S, rfl, hS9, hSl, hSs, hlf, hS4, hE4⟩)
  have hM : PsM w4 pp pc P wp wc wide hp hc high lp lc S := ⟨hP3.out.extS hE4 hpf2, hW3.out.extS hE4 hwf2, hH3.out.extS hE4 hhf2, hSl, hPs.out, hws, hhs, hSs, by omega, by omega⟩
  have hlf2 : ∀ a, lp = some a → a.block ≠ w.heap.size := fun a ha e => by have := hlf a ha; omega
  have hE5 := hE3.trans hE4
  have hB5 := hB3.extS (by omega) hE4
  generalize w2.heap.size = g5 at *
  have hfl := standsFault_any pp pc P wp wc wide hp hc high lp lc S w4 hM
  generalize hsf : standsF P wide high S = sf at *
  obtain ⟨b5, -⟩ := hB5.walk
  have bl5 := hB5.lt
  replace hfl := Lib.hid hfl
  replace hsf := Lib.hid hsf
  clear hsl hP3 hW3 hH3 hE3 hE4 hB3 hEa hSl hE0 hsz1 hsz2 hsz3 hlf
  by_cases hs0 : sf = 0
  rotate_left
  · clear hM
    go_wp2_with (first
      | (go_at_call 23; (with_reducible refine Calls.mono hfl.out ?_); rintro e w5 ⟨rfl, hb5⟩)
      | (go_at_call 24; refine (ready_any B _ (by exact ht.ext (hbk.out _ (hE5.ext hb5)))).mono ?_; rintro e wz ⟨rfl, hzz⟩))
    go_ret
    exact ⟨rfl, (hbk.out _ (hE5.ext hb5)).trans hzz⟩
  subst hs0
  have hlen := (standsF_ok hsf.out).1.len
  have hnd := (standsF_ok hsf.out).2.2.2
  have hm1 := fun u (hu : Ext w4 u) => mirror_any pp pc P wp wc wide hp hc high lp lc S u (hM.more hu) hsf.out
  have hh1 := fun u (hu : Ext w4 u) => hides_good (hM.more hu) hsf.out
  have hm2 := fun u (hu : Ext w4 u) (q : Option Addr) (c : Nat) (T : List StandV) (h1 : T.Perm (S.map (mirS wide))) h2 (h3 : Slc 3 staC u q S.length c T) => mirror_of (hM.more hu) hsf.out h1 h2 h3
  have hh2 := fun u (hu : Ext w4 u) (q : Option Addr) (c : Nat) (T : List StandV) (h1 : T.Perm (S.map (mirS wide))) h2 (h3 : Slc 3 staC u q S.length c T) => hides_of (hM.more hu) hsf.out h1 h2 h3
  generalize hHL : (hiddenL P wide high S).length = HL at *
  replace hm1 := Lib.hid hm1
  replace hm2 := Lib.hid hm2
  replace hh1 := Lib.hid hh1
  replace hh2 := Lib.hid hh2
  replace hHL := Lib.hid hHL
  replace hM := Lib.hid hM
  replace hnd := Lib.hid hnd
  go_upto_region 14 with (first
    | (go_at_call 23; (with_reducible refine Calls.mono hfl.out ?_); rintro e w5 ⟨rfl, hb5⟩; clear b5 bl5; obtain ⟨b6, -⟩ := (hB5.ext hb5).walk; have bl6 := (hB5.ext hb5).lt)
    | (go_at_call 9; (with_reducible refine Calls.mono (hm1.out _ hb5) ?_); rintro e w6 ⟨q6, c6, T, rfl, hTp, hTs, hT6, hb6⟩; replace hTp := Lib.hid hTp; replace hTs := Lib.hid hTs; replace hT6 := Lib.hid hT6; clear b6 bl6; have E6 := hb5.trans hb6; obtain ⟨b7, -⟩ := (hB5.ext E6).walk; have bl7 := (hB5.ext E6).lt)
    | (go_at_call 9; (with_reducible refine Calls.mono (hm2.out _ E6 q6 c6 T hTp.out hTs.out hT6.out) ?_); rintro e w7 ⟨q7, c7, rfl, hU7, hb7⟩; replace hU7 := Lib.hid hU7; clear b7 bl7; have E7 := E6.trans hb7)
    | (go_at_call 12; (with_reducible refine Calls.mono (eqSta_any q7 lp S.length c7 lc S _ hU7.out (hM.out.more E7).sta (by omega)) ?_); rintro e w8 ⟨rfl, hb8⟩; have E8 := E7.trans hb8; obtain ⟨b8, -⟩ := (hB5.ext E8).walk; have bl8 := (hB5.ext E8).lt)
    | (go_at_call 25; (with_reducible refine Calls.mono (hh1.out _ E8) ?_); rintro e w9 ⟨q9, c9, rfl, -, hb9⟩; clear b8 bl8; have E9 := E8.trans hb9; obtain ⟨b9, -⟩ := (hB5.ext E9).walk; have bl9 := (hB5.ext E9).lt)
    | (go_at_call 25; (with_reducible refine Calls.mono (hh2.out _ E9 q6 c6 T hTp.out hTs.out (((hT6.out.ext hb7).ext hb8).ext hb9)) ?_); rintro e w10 ⟨q10, c10, rfl, hb10⟩; have E10 := E9.trans hb10))
  clear b9 bl9 hm1 hm2 hh1 hh2 hHL hTp hTs hT6 hU7 hfl
  have hE10 := hE5.ext E10
  have hB10 := hB5.ext E10
  have hM10 := hM.out.more E10
  have hS10 := hS4.ext E10
  have hsb : w.heap.size < w10.heap.size := hS10.lt
  clear hb5 hb6 hb7 hb8 hb9 hb10 E6 E7 E8 E9 E10 hE5 hB5 hM hS4
  replace hM10 := Lib.hid hM10
  go_wp2
  go_loopw [13, 89] (fun v13 v89 wr => ∃ (k : Nat) (G : List ByteArray) (v : Value), v13 = v ∧ v89 = .int .i64 k ∧ k ≤ S.length ∧ G.length ≤ k ∧ G.Sublist (namesS (S.take k)) ∧ wr.ownsRow w10.heap.size 9 1 v G.length (G.flatMap strC) ∧ Str wr w.heap.size (0 + 40 + 40 + 2000 + k) ∧ ExtS w.heap.size w10 wr) (fun _ v89 _ => S.length - (intOf v89).toNat)
  case atStart => exact ⟨0, [], _, rfl, rfl, Nat.zero_le _, Nat.le_refl _, List.nil_sublist _, World.ownsRow_nil _ _ _ _, hS10, ExtS.refl _ _⟩
  case round =>
    clear hS10
    obtain ⟨k, G, v, rfl, rfl, hk, hGk, hGs, hown, hS, hE⟩ := hrel
    have hsw := hE.2.2.2.1
    by_cases hlt : k < S.length
    · obtain ⟨x, hx⟩ := getD_some (rfl : S.length = S.length) hlt
      have hxs := hM10.out.sS x (List.mem_of_getElem? hx)
      have hkI : (k : Int) < S.length := by omega
      rcases (slcC (hM10.out.sta.extS hE hlf2)).2 with ⟨-, e⟩ | ⟨sb, so, rfl, hsb2, hEl⟩
      · rw [e] at hx; cases hx
      obtain ⟨c0, c1, c2⟩ := hEl.sta hx
      have hE1 : Ext wr (wr.alloc (.cells #[.string x.name, .int .i64 x.row, .int .i64 x.place] 35)) := (Ext.refl _).alloc _
      have hY : Blk (wr.alloc (.cells #[.string x.name, .int .i64 x.row, .int .i64 x.place] 35)) wr.heap.size 35 #[.string x.name, .int .i64 x.row, .int .i64 x.place] := Blk.new' rfl
      have hE2 := hE.ext hE1
      have hS2 := hS.ext hE1
      have hown2 := own_ext hE1 hown
      have hfl := flip_any w.heap.size (0 + 40 + 40 + 2000 + k) 3 _ (by omega) (by omega) (by omega) hS2
      have hnt := namesS_take hx
      have hnl : x.name.size ≤ 1000 := hxs.1
      replace hfl := Lib.hid hfl
      replace hnt := Lib.hid hnt
      replace hown2 := Lib.hid hown2
      replace hGs := Lib.hid hGs
      clear hown hS hE hEl hx hS2
      go_upto_if 94 with (go_at_call 6; (with_reducible refine Calls.mono hfl.out ?_); rintro e w11 ⟨bb, rfl, hS11, hE11⟩)
      have hE12 := hE2.trans hE11
      have hown11 := own_extS hE11 (by omega) hown2.out
      have hY11 := hY.extS (by omega) hE11
      obtain ⟨y1, -⟩ := hY11.walk
      have yl := hY11.lt
      replace hS11 : Str w11 w.heap.size (0 + 40 + 40 + 2000 + (k + 1)) := hS11
      clear c0 c1 c2 hE2 hE11 hE1 hY hown2
      cases bb
      · replace hown11 := Lib.hid hown11
        go_wp2
        go_roundw
        case rel => exact ⟨k + 1, G, _, rfl, by go_num, by omega, by omega, by rw [hnt.out]; exact hGs.out.trans (List.sublist_append_left _ _), hown11.out, hS11, hE12⟩
        case measure => simp [intOf]; omega
      · go_wp2_with (at_builtin; go_loud (refine wp_app1 _ (.tmp 95) (.tmp 98) 33 9 1 16 _ rfl rfl Tryz.underlying33 strInfo rfl (by decide) (by decide) w10.heap.size _ _ _ rfl (hown11.alloc _) w11.heap.size (strC x.name) rfl rfl (Blk.new' rfl) (by simp [strC, Value.oneCell']) (by omega) (by simp; omega) ?_; intro v' w6 hown6 hgrow6 _))
        have hl6 : (G ++ [x.name]).length = G.length + 1 := by simp
        go_roundw
        case rel => exact ⟨k + 1, G ++ [x.name], v', rfl, by go_num, by omega, by omega, by rw [hnt.out]; exact hGs.out.append (List.Sublist.refl _), by rw [hl6, flat_snoc]; exact hown6, (hS11.ext ((Ext.refl _).alloc _)).app (hown11.alloc _) hsb hgrow6, (hE12.alloc _).app (hown11.alloc _) (Nat.le_refl _) hgrow6⟩
        case measure => simp [intOf]; omega
    · obtain rfl : k = S.length := by omega
      rw [List.take_length] at hGs
      have hMr : PsM wr pp pc P wp wc wide hp hc high lp lc S := ⟨hM10.out.per.extS hE hpf2, hM10.out.wid.extS hE hwf2, hM10.out.hig.extS hE hhf2, hM10.out.sta.extS hE hlf2, hM10.out.sP, hM10.out.sw, hM10.out.sh, hM10.out.sS, hM10.out.nP, hM10.out.nS⟩
      have hEr := hbk.out _ (hE10.trans hE)
      have hBr := hB10.extS (by omega) hE
      obtain ⟨gp, gc, rfl, hSl⟩ := slc_of_own (enc := strC) (fun _ => rfl) hown (by decide) (by omega)
      have hcl := closed_any pp pc P wp wc wide hp hc high lp lc S wr hMr hsf.out gp gc G hSl (hGs.nodup hnd.out) (fun nm hm => hGs.subset hm) (by omega)
      have hcc := fun u (hu : Ext wr u) (q : Option Addr) (c : Nat) (h : Slc 3 staC u q (closeL S (inG G)).length c (closeL S (inG G))) => checkClosed_of (hMr.more hu) hsf.out (inG G) h
      have hle := close_len hnd.out hGs
      generalize hCL : (closeL S (inG G)).length = CL at *
      have hwr : IntKind.i64.wrap ((S.length : Int) - G.length) = CL := by rw [IntWalk.i64_in _ (by omega)]; omega
      obtain ⟨b5, -⟩ := hBr.walk
      have bl5 := hBr.lt
      replace hcl := Lib.hid hcl
      replace hcc := Lib.hid hcc
      replace hCL := Lib.hid hCL
      replace hle := Lib.hid hle
      clear hown hSl hS hE hE10 hMr hGs hM10 hB10
      go_wp2_with (first
        | (go_at_call 8; (with_reducible refine Calls.mono hcl.out ?_); rintro e w12 ⟨q12, c12, rfl, hs12, hb12⟩; replace hs12 := Lib.hid hs12; clear b5 bl5; obtain ⟨b6, -⟩ := (hBr.ext hb12).walk; have bl6 := (hBr.ext hb12).lt)
        | (go_at_call 26; (with_reducible refine Calls.mono (hcc.out _ hb12 q12 c12 hs12.out) ?_); rintro e w13 ⟨rfl, hb13⟩)
        | (go_at_call 24; refine (ready_any B _ (by exact ht.ext ((hEr.trans hb12).trans hb13))).mono ?_; rintro e wz ⟨rfl, hzz⟩))
      go_ret
      exact ⟨rfl, ((hEr.trans hb12).trans hb13).trans hzz⟩
end Go.Proofs.YtflcbphlhoibiaaGreatDoor
