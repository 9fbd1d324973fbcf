/- What the stream makes: intervals and quotients. Conditions: as each theorem says. -/
import Derived.Test.YtapjekpjekdlkaaGreatDoorRJ8
import Derived.Test.YtapjekpjekdlkaaGreatDoorRTuneG
import Derived.Deep.DeepCutAuto
set_option linter.unusedSimpArgs false
set_option linter.unusedVariables false
namespace Go.Proofs.YtapjekpjekdlkaaGreatDoor
open Go Go.RowKit

set_option maxRecDepth 100000 in
set_option maxHeartbeats 1600000 in
theorem interval_any (s k : Nat) (w : World) (hk : k ≤ 999000) (h : Str w s k) :
    Calls Tryz.prog 35 #[.pointer (some ⟨s, 0, none⟩)] w fun e w' => ∃ x : I4, e = .returned (.agg #[.int .i64 x.a, .int .i64 x.b, .int .i64 x.c, .int .i64 x.d]) ∧ Str w' s (k + 20) ∧ ExtS s w w' := by
  have l0 := h.lt
  go_enter Tryz.func35, Tryz.ntmps35
  go_upto_region 1 with fail
  go_cut [3] (fun s3 w' => ∃ (g : Nat) (x : I4), s3 = .pointer (some ⟨g, 0, none⟩) ∧ w.heap.size < g ∧ Blk w' g 27 #[.int .i64 x.a, .int .i64 x.b, .int .i64 x.c, .int .i64 x.d] ∧ Blk w' w.heap.size 27 #[.int .i64 0, .int .i64 0, .int .i64 0, .int .i64 0] ∧ Str w' s (k + 1) ∧ ExtS s w w')
  case first =>
    go_wp2_with (go_at_call 6; refine (next_any s k 9 _ (by omega) (by omega) (by omega) (h.ext (Ext.alloc (Ext.alloc (Ext.refl _) _) _))).mono ?_; rintro e w1 ⟨v, rfl, hv, hS, hE⟩; have hB := Blk.extS (Blk.new' (t := 27) (by simp)) (show w.heap.size + 1 ≠ s by omega) hE; have hR := Blk.extS (Blk.alloc (Blk.new' (w := w) (t := 27) rfl) _) (Nat.ne_of_gt l0) hE; obtain ⟨s1, f1⟩ := hB.walk; have l1 := hR.lt; replace hS := Lib.hid hS; replace hE := Lib.hid hE; replace hR := Lib.hid hR; clear hB; obtain rfl | rfl | rfl | rfl | rfl | rfl | rfl | rfl | rfl : v = 0 ∨ v = 1 ∨ v = 2 ∨ v = 3 ∨ v = 4 ∨ v = 5 ∨ v = 6 ∨ v = 7 ∨ v = 8 := by omega)
    all_goals
      go_meet
      exact ⟨w1.heap.size, ⟨_, _, _, _⟩, rfl, l1, Blk.new' rfl, hR.out.alloc _, hS.out.ext (Ext.alloc (Ext.refl _) _), (((ExtS.refl _ _).alloc _).alloc _).trans hE.out |>.alloc _⟩
  case rest =>
    obtain ⟨g, x, rfl, hg, hI, hR, hS, hE⟩ := hcut
    go_upto_if 19 with (go_at_call 34; refine (flip_any s (k + 1) 4 _ (by omega) (by omega) (by omega) hS).mono ?_; rintro e w1 ⟨b, rfl, hS1, hE1⟩)
    replace hI := hI.extS (show g ≠ s by omega) hE1
    replace hR := hR.extS (show w.heap.size ≠ s by omega) hE1
    replace hE := hE.trans hE1
    clear hS hE1
    go_cut [3] (fun s3 w' => ∃ x : I4, s3 = .pointer (some ⟨g, 0, none⟩) ∧ Blk w' g 27 #[.int .i64 x.a, .int .i64 x.b, .int .i64 x.c, .int .i64 x.d] ∧ Blk w' w.heap.size 27 #[.int .i64 0, .int .i64 0, .int .i64 0, .int .i64 0] ∧ Str w' s (k + 6) ∧ ExtS s w w')
    case first =>
      cases b
      · go_wp2
        go_meet
        exact ⟨x, rfl, hI, hR, hS1.more (by omega), hE⟩
      · go_wp2_with (first
          | (go_at_call 5; with_reducible refine Calls.mono (range_any s (k + 1 + 1) (-24) 24 _ (by omega) (by omega) (by omega) (by omega) (by omega) hS1) ?_; rintro e w2 ⟨v2, rfl, ha2, hb2, hS2, hE2⟩)
          | (go_at_call 5; with_reducible refine Calls.mono (range_any s (k + 1 + 1 + 1) (-10) 10 _ (by omega) (by omega) (by omega) (by omega) (by omega) hS2) ?_; rintro e w3 ⟨v3, rfl, ha3, hb3, hS3, hE3⟩)
          | (go_at_call 5; with_reducible refine Calls.mono (range_any s (k + 1 + 1 + 1 + 1) (-5) 5 _ (by omega) (by omega) (by omega) (by omega) (by omega) hS3) ?_; rintro e w4 ⟨v4, rfl, ha4, hb4, hS4, hE4⟩)
          | (go_at_call 5; with_reducible refine Calls.mono (range_any s (k + 1 + 1 + 1 + 1 + 1) (-3) 3 _ (by omega) (by omega) (by omega) (by omega) (by omega) hS4) ?_; rintro e w5 ⟨v5, rfl, ha5, hb5, hS5, hE5⟩; have hEE := ((hE2.trans hE3).trans hE4).trans hE5; have hI5 := hI.extS (show g ≠ s by omega) hEE; have hR5 := hR.extS (show w.heap.size ≠ s by omega) hEE; have hE6 := hE.trans hEE; obtain ⟨t1, t2⟩ := hI5.walk; clear hE2 hE3 hE4 hE5 hEE hS2 hS3 hS4))
        go_meet
        have n1 : w.heap.size ≠ g := by omega
        have n2 : s < g := by omega
        have n3 : g = s ∨ w.heap.size ≤ g := .inr (by omega)
        exact ⟨⟨_, _, _, _⟩, rfl, ((((hI5.set_ 0 _).set_ 1 _).set_ 2 _).set_ 3 _), ((((hR5.far n1 _).far n1 _).far n1 _).far n1 _), (((((hS5.set n2 _).set n2 _).set n2 _).set n2 _).more (by omega)), ((((hE6.setCell n3 _).setCell n3 _).setCell n3 _).setCell n3 _)⟩
    case rest =>
      clear hI hR hE hS1
      obtain ⟨x, rfl, hI, hR, hS, hE⟩ := hcut
      go_upto_if 30 with (go_at_call 34; refine (flip_any s (k + 6) 15 _ (by omega) (by omega) (by omega) hS).mono ?_; rintro e w1 ⟨b, rfl, hS1, hE1⟩)
      replace hI := hI.extS (show g ≠ s by omega) hE1
      replace hR := hR.extS (show w.heap.size ≠ s by omega) hE1
      replace hE := hE.trans hE1
      clear hS hE1
      go_cut [3] (fun s3 w' => ∃ x : I4, s3 = .pointer (some ⟨g, 0, none⟩) ∧ Blk w' g 27 #[.int .i64 x.a, .int .i64 x.b, .int .i64 x.c, .int .i64 x.d] ∧ Blk w' w.heap.size 27 #[.int .i64 0, .int .i64 0, .int .i64 0, .int .i64 0] ∧ Str w' s (k + 20) ∧ ExtS s w w')
      case first =>
        cases b
        · go_wp2
          go_meet
          exact ⟨x, rfl, hI, hR, hS1.more (by omega), hE⟩
        · go_wp2_with (first
            | (go_at_call 54; with_reducible refine Calls.mono (odd_any s (k + 6 + 1) (-24) 24 _ (by omega) (by omega) (by omega) (by omega) (by omega) hS1) ?_; rintro e w2 ⟨v2, rfl, ha2, hb2, hS2, hE2⟩)
            | (go_at_call 54; with_reducible refine Calls.mono (odd_any s (k + 6 + 1 + 2) (-10) 10 _ (by omega) (by omega) (by omega) (by omega) (by omega) hS2) ?_; rintro e w3 ⟨v3, rfl, ha3, hb3, hS3, hE3⟩)
            | (go_at_call 54; with_reducible refine Calls.mono (odd_any s (k + 6 + 1 + 2 + 2) (-5) 5 _ (by omega) (by omega) (by omega) (by omega) (by omega) hS3) ?_; rintro e w4 ⟨v4, rfl, ha4, hb4, hS4, hE4⟩)
            | (go_at_call 54; with_reducible refine Calls.mono (odd_any s (k + 6 + 1 + 2 + 2 + 2) (-3) 3 _ (by omega) (by omega) (by omega) (by omega) (by omega) hS4) ?_; rintro e w5 ⟨v5, rfl, ha5, hb5, hS5, hE5⟩; have hEE := ((hE2.trans hE3).trans hE4).trans hE5; have hI5 := hI.extS (show g ≠ s by omega) hEE; have hR5 := hR.extS (show w.heap.size ≠ s by omega) hEE; have hE6 := hE.trans hEE; obtain ⟨t1, t2⟩ := hI5.walk; clear hE2 hE3 hE4 hE5 hEE hS2 hS3 hS4))
          go_meet
          have n1 : w.heap.size ≠ g := by omega
          have n2 : s < g := by omega
          have n3 : g = s ∨ w.heap.size ≤ g := .inr (by omega)
          exact ⟨⟨_, _, _, _⟩, rfl, ((((hI5.set_ 0 _).set_ 1 _).set_ 2 _).set_ 3 _), ((((hR5.far n1 _).far n1 _).far n1 _).far n1 _), (((((hS5.set n2 _).set n2 _).set n2 _).set n2 _).more (by omega)), ((((hE6.setCell n3 _).setCell n3 _).setCell n3 _).setCell n3 _)⟩
      case rest =>
        clear hI hR hE hS1
        obtain ⟨x, rfl, hI, hR, hS, hE⟩ := hcut
        obtain ⟨t1, t2⟩ := hI.walk
        obtain ⟨r1, r2⟩ := hR.walk
        go_wp2
        go_light
        have n2 : s < w.heap.size := by omega
        have n3 : w.heap.size = s ∨ w.heap.size ≤ w.heap.size := .inr (Nat.le_refl _)
        exact bodyPost_ret (v := .agg #[.int .i64 x.a, .int .i64 x.b, .int .i64 x.c, .int .i64 x.d]) (by simp [results, Tryz.results35, go_sem, *]) rfl ⟨x, rfl, (((hS.set n2 _).set n2 _).set n2 _).set n2 _, (((hE.setCell n3 _).setCell n3 _).setCell n3 _).setCell n3 _⟩

end Go.Proofs.YtapjekpjekdlkaaGreatDoor
