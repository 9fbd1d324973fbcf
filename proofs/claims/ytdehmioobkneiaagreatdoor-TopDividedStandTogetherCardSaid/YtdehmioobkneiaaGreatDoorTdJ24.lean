/- The choir, with its singers' names. Conditions: sizes. Sets of parts as numbers: their members, in order; how many singers they lack, by the program. Conditions: sizes. By how many fewer singers can sing one of some parts than they need, by the program. Conditions: the choir lies in memory. -/
import Derived.Test.YtdehmioobkneiaaGreatDoorTdJ23
set_option linter.unusedSimpArgs false
set_option linter.unusedVariables false
namespace Go.Proofs.YtdehmioobkneiaaGreatDoor
open Go Go.RowKit Go.Maps
set_option maxRecDepth 100000 in
set_option maxHeartbeats 3200000 in
theorem choirOf_own {w : World} {vp pp : Option Addr} {vc pc : Nat} {V : List VoiceV} {P : List PartV} (h : VpM w vp vc V pp pc P) (t : Int) (hP : P.length ≤ 12) (hN : ∀ x ∈ P, 0 ≤ x.least ∧ x.least ≤ 1000) :
    Calls Tryz.prog 59 #[.slice vp V.length vc, .slice pp P.length pc, .int .i64 t] w fun e w' => ∃ (cb : Nat) (sp : Option Addr) (sc : Nat) (cp : Option Addr) (cc : Nat), e = .returned (.pointer (some ⟨cb, 0, none⟩)) ∧ ChoirM w' cb P pp pc (comL V t P) sp sc cp cc ∧ Slc 1 strC w' sp (singersL V t).length sc (singersL V t) ∧ Ext w w' := by
  have hra := fun u (hu : Ext w u) => rangesAt_any vp V.length vc V t u (h.voi.ext hu).1 h.sV h.nV
  have hc0 : w.heap.size < w.heap.size + 1 := by omega
  have hB1 : Blk (w.alloc (.cells #[.slice pp P.length pc, .slice none 0 0, .slice none 0 0] 84)) w.heap.size 84 #[.slice pp P.length pc, .slice none 0 0, .slice none 0 0] := Blk.new' rfl
  have hE1 : Ext w (w.alloc (.cells #[.slice pp P.length pc, .slice none 0 0, .slice none 0 0] 84)) := (Ext.refl _).alloc _
  have hnV := h.nV
  have hsV := h.sV
  replace hra := Lib.hid hra; replace hB1 := Lib.hid hB1; replace hE1 := Lib.hid hE1; replace h := Lib.hid h; replace hsV := Lib.hid hsV; replace hN := Lib.hid hN
  go_enter Tryz.func59, Tryz.ntmps59
  go_upto_region 3 with (go_at_call 50; (with_reducible refine Calls.mono (hra.out _ hE1.out) ?_); rintro e w2 ⟨gm, rfl, hgm, hO2, hb2⟩)
  have hB2 := hB1.out.ext hb2
  have hE2 := hE1.out.trans hb2
  obtain ⟨z1, z2⟩ := hB2.walk
  have hsr := sortedR_any hO2 (by omega) (singersL V t) (singers_rise V t) (fun p => singers_mem p)
  have hky := keysR_any (some gm) w2
  obtain ⟨S, hS⟩ : ∃ S, singersL V t = S := ⟨_, rfl⟩
  have hSlen : S.length ≤ V.length := by rw [← hS]; exact singers_len V t
  have hSsm : ∀ p ∈ S, p.size ≤ 1000 := by rw [← hS]; exact singers_small hsV.out t
  have hcl : comL V t P = S.map (comRow V t P) := by unfold comL; rw [hS]
  have hcb2 := hB2.lt
  rw [hS] at hsr
  have hSq := Lib.hid hS
  replace hcl := Lib.hid hcl; replace hsr := Lib.hid hsr; replace hky := Lib.hid hky; replace hSsm := Lib.hid hSsm; clear hra hB1 hE1 hb2 hS
  go_upto_region 4 with (first
    | (go_at_call 101; (with_reducible refine Calls.mono hky.out ?_); rintro e w3 ⟨rfl, rfl⟩)
    | (go_at_call 100; (with_reducible refine Calls.mono hsr.out ?_); rintro e w4 ⟨sp, sc, rfl, hown4, hb4⟩; obtain ⟨z3, z4⟩ := (hB2.ext hb4).walk; have hcb4 := (hB2.ext hb4).lt))
  have hB5 := ((hB2.ext hb4).set_ 1 (.slice sp S.length sc)).cast (cs' := #[.slice pp P.length pc, .slice sp S.length sc, .slice none 0 0]) (by simp)
  have hE5 := (hE2.trans hb4).setCell (p := ⟨w.heap.size, 1, none⟩) (Nat.le_refl _) (.slice sp S.length sc)
  have hgs := grown_set w4 ⟨w.heap.size, 1, none⟩ (.slice sp S.length sc)
  have hown5 := hown4.kept hgs (.inr (own_no hown4 (hB2.ext hb4) (by decide)))
  have hgmc : gm ≠ w.heap.size := by simp at hgm; omega
  have hO5 := (hO2.ext hb4).grown hgs (by simp; omega)
  obtain ⟨sp', sc', e9, hS5⟩ := slc_of_own (enc := strC) (fun _ => rfl) hown5 (by decide) (by omega)
  cases e9
  have hsp : ∀ a, sp = some a → a.block ≠ w.heap.size := fun a ha e => by subst ha; have := (hown5.lt a.block rfl).1; omega
  have hlow : w.heap.size ≤ w.heap.size := Nat.le_refl _
  clear hgs hown5 hown4 z1 z2 z3 z4 hB2 hE2 hO2 hb4 hky hsr hcb2 hgm
  have hcb5 : w.heap.size < (w4.setCell ⟨w.heap.size, 1, none⟩ (.slice sp S.length sc)).heap.size := hB5.lt
  generalize w4.setCell ⟨w.heap.size, 1, none⟩ (.slice sp S.length sc) = W5 at *
  generalize hcbe : w.heap.size = cb at *
  obtain ⟨z1, z2⟩ := hB5.walk
  replace hcbe := Lib.hid hcbe; replace hB5 := Lib.hid hB5; replace hO5 := Lib.hid hO5; replace hS5 := Lib.hid hS5; replace hE5 := Lib.hid hE5
  go_wp2
  go_loopw [31] (fun v31 wr => ∃ (k : Nat) (v : Value), v31 = .int .i64 k ∧ k ≤ S.length ∧ Blk wr cb 84 #[.slice pp P.length pc, .slice sp S.length sc, v] ∧ OwnRows 22 3 intC wr W5.heap.size v ((S.map (comRow V t P)).take k) ∧ ExtS cb W5 wr) (fun v31 _ => S.length - (intOf v31).toNat)
  case atStart => exact ⟨0, _, rfl, Nat.zero_le _, hB5.out, by rw [List.take_zero]; exact OwnRows.nil, ExtS.refl _ _⟩
  case round =>
    clear z1 z2
    obtain ⟨k, v, rfl, hk, hB, hR, hX⟩ := hrel
    obtain ⟨z1, z2⟩ := hB.walk
    by_cases hlt : k < S.length
    · obtain ⟨s, hs⟩ := getD_some (rfl : S.length = S.length) hlt
      have hss := hSsm.out s (List.mem_of_getElem? hs)
      obtain ⟨-, ⟨_, rfl⟩ | ⟨b, off, rfl, hb, hE⟩⟩ := slcC (hS5.out.extS hX hsp)
      · cases hs
      have e1 := hE.str hs
      have hOr := hO5.out.grown hX.grownBy (by simp; omega)
      have hkI : (k : Int) < S.length := by omega
      have hcbw := hB.lt
      obtain ⟨hr1, hr2⟩ := rg_bounds hsV.out t s
      obtain ⟨rr, hrr⟩ : ∃ r, (rgS V t V.length s).getD (0, 0) = r := ⟨_, rfl⟩
      have hrow : ∀ j (x : PartV), P[j]? = some x → (comRow V t P s)[j]? = some (comF rr (x.lo, x.hi)) := fun j (x : PartV) h => by rw [comRow_at h, hrr]
      rw [hrr] at hr1 hr2
      have hsn : (S.map (comRow V t P)).take (k + 1) = (S.map (comRow V t P)).take k ++ [comRow V t P s] := take_snocL (by rw [List.getElem?_map, hs]; rfl)
      have hkl : ((S.map (comRow V t P)).take k).length = k := by rw [List.length_take, List.length_map]; omega
      have hrl := comRow_len V t P s
      generalize comRow V t P s = row at *
      have hpar := (h.out.par.ext hE5.out).extS hX (fun a ha => by
        obtain ⟨b, off, e, hb⟩ := h.out.par.2.2.2 a ha
        have := hcbe.out
        subst e
        simp only
        omega)
      have hsP := h.out.sP
      have hgmw := hOr.lt
      replace hs := Lib.hid hs; replace hrow := Lib.hid hrow; replace hsn := Lib.hid hsn; replace hkl := Lib.hid hkl; replace hrl := Lib.hid hrl; replace hB := Lib.hid hB; replace hR := Lib.hid hR; replace hX := Lib.hid hX; replace hOr := Lib.hid hOr; replace hrr := Lib.hid hrr; replace hsP := Lib.hid hsP; clear hE
      obtain ⟨ra, rb⟩ := rr
      simp only at hr1 hr2
      generalize wr = W10 at *
      go_wp2
      go_loopw [37, 11] (fun v37 v11 wr => ∃ (j : Nat) (u : Value), v37 = .int .i64 j ∧ v11 = u ∧ j ≤ P.length ∧ wr.ownsRow W10.heap.size 3 1 u j ((row.take j).flatMap intC) ∧ Ext W10 wr) (fun v37 _ _ => P.length - (intOf v37).toNat)
      case atStart => exact ⟨0, _, rfl, rfl, Nat.zero_le _, World.ownsRow_nil _ _ _ _, Ext.refl _⟩
      case round =>
        obtain ⟨j, u, rfl, rfl, hj, hown, hE10⟩ := hrel
        by_cases hjl : j < P.length
        · obtain ⟨x, hx⟩ := getD_some (rfl : P.length = P.length) hjl
          obtain ⟨-, ⟨_, rfl⟩ | ⟨pb, poff, rfl, hpb, hEl⟩⟩ := slcC (hpar.ext hE10)
          · cases hx
          obtain ⟨c0, c1, c2, c3, c4⟩ := hEl.part hx
          have hxs := hsP.out x (List.mem_of_getElem? hx)
          have hrj := hrow.out j x hx
          have hnx : (row.take (j + 1)).flatMap intC = (row.take j).flatMap intC ++ intC (comF (ra, rb) (x.lo, x.hi)) := by rw [take_snocL hrj, flat_snoc]
          have hjI : (j : Int) < P.length := by omega
          have hwX : Ext W10 (wr.alloc (.cells #[.string x.name, .int .i64 x.lo, .int .i64 x.hi, .int .i64 x.least, .int .i64 x.most] 46)) := hE10.alloc _
          have hXb : Blk (wr.alloc (.cells #[.string x.name, .int .i64 x.lo, .int .i64 x.hi, .int .i64 x.least, .int .i64 x.most] 46)) wr.heap.size 46 _ := Blk.new' rfl
          have hown1 := hown.alloc (.cells #[.string x.name, .int .i64 x.lo, .int .i64 x.hi, .int .i64 x.least, .int .i64 x.most] 46)
          replace hnx := Lib.hid hnx; replace hx := Lib.hid hx; replace hrj := Lib.hid hrj
          go_upto_region 11 with fail
          clear hEl hpb c0 c1 c2 c3 c4 hE10 hown
          have hgx := hXb.lt
          generalize wr.heap.size = gx at *
          generalize wr.alloc (.cells #[.string x.name, .int .i64 x.lo, .int .i64 x.hi, .int .i64 x.least, .int .i64 x.most] 46) = W11 at *
          clear wr
          have hlk := (hOr.out.ext hwX).look hss
          rw [hrr.out] at hlk
          have hcm : ∀ w, Calls Tryz.prog 51 #[.agg #[.int .i64 ra, .int .i64 rb], .agg #[.int .i64 x.lo, .int .i64 x.hi]] w fun e w' => e = .returned (.int .i64 (comF (ra, rb) (x.lo, x.hi))) ∧ Ext w w' := fun w => comfortV_any (ra, rb) (x.lo, x.hi) w hr1 hr2 (by have := hxs.2.1; simp only; omega) (by have := hxs.2.2; simp only; omega)
          obtain ⟨y1, -⟩ := hXb.walk
          replace hlk := Lib.hid hlk; replace hcm := Lib.hid hcm; replace hown1 := Lib.hid hown1
          go_upto_region 12 with (first
            | (refine wpList_lookV rfl _ _ 114 false rfl (.map (some gm)) (.string s) _ rfl rfl hlk.out ?_; go_loud (unfold rngV))
            | (go_at_call 51; (with_reducible refine Calls.mono (hcm.out _) ?_); rintro e w12 ⟨rfl, hb12⟩; have hown2 := own_ext hb12 hown1.out; have hl12 := hb12.size; have hE12 := hwX.trans hb12)
            | (at_builtin; go_loud (refine wp_app1 _ (.tmp 41) (.tmp 48) 22 3 1 8 _ rfl rfl Tryz.underlying22 intInfo rfl (by decide) (by decide) W10.heap.size _ j _ rfl (hown2.alloc _) w12.heap.size (intC (comF (ra, rb) (x.lo, x.hi))) rfl rfl (Blk.new' rfl) (by simp [intC, Value.oneCell']) (by omega) (by have := hE12.size; simp; omega) ?_; intro v' w6 hown6 hgrow6 _)))
          have hE6 := (hE12.alloc _).app (hown2.alloc _) (Nat.le_refl _) hgrow6
          go_wp2
          go_roundw
          case rel => exact ⟨j + 1, v', by go_num, rfl, by omega, by rw [hnx.out]; exact hown6, hE6⟩
          case measure => simp [intOf]; omega
        · obtain rfl : j = P.length := by omega
          have hfull : row.take P.length = row := List.take_of_length_le (by rw [hrl.out]; exact Nat.le_refl _)
          rw [hfull] at hown
          obtain ⟨vs, hv1, hv2⟩ := hR.out.ext hE10
          rw [hkl.out] at hv1
          have hB2 := hB.out.ext hE10
          have hX2 := hX.out.ext hE10
          have hcw := hB2.lt
          have hzc := hE10.size
          have hzW := hX.out.2.2.2.1
          obtain ⟨y1, y2⟩ := hB2.walk
          obtain ⟨up, uc, rfl, -⟩ := slc_of_own intC_len hown (by decide) (by omega)
          replace hv1 := Lib.hid hv1; clear z1 z2 e1 hpar hR hB hOr
          go_wp2_with (at_builtin; go_loud (refine wp_app1 _ (.tmp 55) (.tmp 57) 82 22 1 24 _ rfl rfl Tryz.underlying82 intsInfo rfl (by decide) (by decide) W5.heap.size v k vs rfl (hv1.out.alloc _) wr.heap.size [.slice up P.length uc] rfl rfl (Blk.new' rfl) (by simp [Value.oneCell']) (by omega) (by simp; omega) ?_; intro v' w6 hown6 hgrow6 _; obtain ⟨b9, c9, rfl, hb9, hb9w⟩ := hown6.form (by omega); have hB6 : Blk w6 cb 84 _ := (hgrow6.block cb (by simp; omega) fun e => own_no hv1.out hB2 (by decide) e.symm).trans (hB2.alloc _); obtain ⟨y3, y4⟩ := hB6.walk; have hcw6 := hB6.lt))
          have hR6 : OwnRows 22 3 intC w6 W5.heap.size (.slice (some ⟨b9, 0, none⟩) (k + 1) c9) ((S.map (comRow V t P)).take k ++ [row]) := by
            have hk9 := hkl.out
            refine OwnRows.app (w := wr.alloc (.cells #[.slice up P.length uc] 22)) (v := v) (vs := vs) ⟨vs, by rw [hk9]; exact hv1.out.alloc _, fun j r hr => let ⟨x, a, b⟩ := hv2 j r hr; ⟨x, a, b.alloc _⟩⟩ (by decide) (fun j r hr => let ⟨x, a, b⟩ := hv2 j r hr; ⟨x, a, b.alloc _⟩) (by rw [hk9]; exact hv1.out.alloc _) (u := .slice up P.length uc) ?_ (by rw [hk9]; exact hown6) hgrow6
            rw [hrl.out]
            exact (own_lowV hown (by omega)).alloc _
          have hX6 : ExtS cb W5 w6 := (hX2.alloc _).app (hv1.out.alloc _) (Nat.le_refl _) hgrow6
          have hR7 := hR6.grown (grown_set w6 ⟨cb, 2, none⟩ (.slice (some ⟨b9, 0, none⟩) (k + 1) c9)) hcb5
          have hB7 := (hB6.set_ 2 (.slice (some ⟨b9, 0, none⟩) (k + 1) c9)).cast (cs' := #[.slice pp P.length pc, .slice (some ⟨b, off, none⟩) S.length sc, .slice (some ⟨b9, 0, none⟩) (k + 1) c9]) (by simp)
          have hX7 := hX6.setCell (p := ⟨cb, 2, none⟩) (.inl rfl) (.slice (some ⟨b9, 0, none⟩) (k + 1) c9)
          rw [← hsn.out] at hR7
          replace hR7 := Lib.hid hR7; replace hB7 := Lib.hid hB7
          go_roundw
          case rel => exact ⟨k + 1, _, by go_num, by omega, hB7.out, hR7.out, hX7⟩
          case measure => simp [intOf]; omega
    · obtain rfl : k = S.length := by omega
      have hfull : (S.map (comRow V t P)).take S.length = S.map (comRow V t P) := List.take_of_length_le (by simp)
      rw [hfull] at hR
      obtain ⟨cp, cc, rfl, hRR⟩ := hR.rows intC_len (by simp; omega) (fun r hr => by
        obtain ⟨s, _, rfl⟩ := List.mem_map.1 hr
        rw [comRow_len]; omega)
      rw [List.length_map] at hRR hB z1
      have hpar := (h.out.par.ext hE5.out).extS hX (fun a ha => by
        obtain ⟨b, off, e, hb⟩ := h.out.par.2.2.2 a ha
        have := hcbe.out
        subst e
        simp only
        omega)
      have hSf := hS5.out.extS hX hsp
      have hEf : Ext w wr := ExtS.back hE5.out (by have := hcbe.out; omega) hX
      have hCh : ChoirM wr cb P pp pc (comL V t P) sp sc cp cc := by
        rw [hcl.out]
        refine ⟨by rw [List.length_map]; exact hB, hpar, by rw [List.length_map]; exact hRR, hP, by rw [List.length_map]; omega, fun r hr => ?_, hN.out⟩
        obtain ⟨s, _, rfl⟩ := List.mem_map.1 hr
        exact comRow_len _ _ _ _
      replace hCh := Lib.hid hCh; replace hSf := Lib.hid hSf; clear hR hRR hpar hB
      go_wp2
      go_ret
      exact ⟨cb, sp, sc, cp, cc, rfl, hCh.out, by rw [hSq.out]; exact hSf.out, hEf⟩
end Go.Proofs.YtdehmioobkneiaaGreatDoor
namespace Go.Proofs.YtdehmioobkneiaaGreatDoor
open Go Go.RowKit
end Go.Proofs.YtdehmioobkneiaaGreatDoor
namespace Go.Proofs.YtdehmioobkneiaaGreatDoor
open Go Go.RowKit
end Go.Proofs.YtdehmioobkneiaaGreatDoor
