/- What the stream makes: quotients. Conditions: as each theorem says. -/
import Derived.Test.YtolglfpnfeklkaaDoorTuneM
namespace Go.Proofs.YtolglfpnfeklkaaDoor
open Go Go.RowKit

set_option maxHeartbeats 1600000 in
theorem quotientMade_any (s k : Nat) (w : World) (hk : k ≤ 998000) (h : Str w s k) :
    Calls Tryd.prog 5 #[.pointer (some ⟨s, 0, none⟩)] w fun e w' => ∃ n d : Int, e = .returned (.agg #[.int .i64 n, .int .i64 d]) ∧ n ≤ 1061882796441600000 ∧ d ≤ 1061882796441600000 ∧ Str w' s (k + 40) ∧ ExtS s w w' := by
  have l0 := h.lt
  go_enter Tryd.func5, Tryd.ntmps5
  go_upto_region 1 with fail
  go_cut [3] (fun s3 w' => ∃ g : Nat, w.heap.size < g ∧ ∃ n d : Int, s3 = .pointer (some ⟨g, 0, none⟩) ∧ n ≤ 1061882796441600000 ∧ d ≤ 1061882796441600000 ∧ Blk w' g 30 #[.int .i64 n, .int .i64 d] ∧ Blk w' w.heap.size 30 #[.int .i64 0, .int .i64 0] ∧ Str w' s (k + 1) ∧ ExtS s w w')
  case first =>
    go_wp2_with (go_at_call 21; refine (next_any s k 6 _ (by omega) (by omega) (by omega) (h.ext (Ext.alloc (Ext.alloc (Ext.refl _) _) _))).mono ?_; rintro e w1 ⟨v, rfl, hv, hS, hE⟩; have hB := Blk.extS (Blk.new' (t := 30) (by simp)) (show w.heap.size + 1 ≠ s by omega) hE; have hR := Blk.extS (Blk.alloc (Blk.new' (w := w) (t := 30) rfl) _) (Nat.ne_of_gt l0) hE; obtain ⟨s1, f1⟩ := hB.walk; have l1 := hR.lt; replace hS := Lib.hid hS; replace hE := Lib.hid hE; replace hR := Lib.hid hR; clear hB; obtain rfl | rfl | rfl | rfl | rfl | rfl : v = 0 ∨ v = 1 ∨ v = 2 ∨ v = 3 ∨ v = 4 ∨ v = 5 := by omega)
    all_goals
      go_meet
      exact ⟨w1.heap.size, l1, _, _, rfl, by omega, by omega, Blk.new' rfl, hR.out.alloc _, hS.out.ext (Ext.alloc (Ext.refl _) _), (((ExtS.refl _ _).alloc _).alloc _).trans hE.out |>.alloc _⟩
  case rest =>
    obtain ⟨g, hg, n, d, rfl, hn, hd, hI, hR, hS, hE⟩ := hcut
    go_upto_if 17 with (go_at_call 22; refine (flip_any s (k + 1) 3 _ (by omega) (by omega) (by omega) hS).mono ?_; rintro e w1 ⟨b, rfl, hS1, hE1⟩)
    replace hI := hI.extS (show g ≠ s by omega) hE1
    replace hR := hR.extS (show w.heap.size ≠ s by omega) hE1
    replace hE := hE.trans hE1
    clear hS hE1
    go_cut [3] (fun s3 w' => ∃ n d : Int, s3 = .pointer (some ⟨g, 0, none⟩) ∧ n ≤ 1061882796441600000 ∧ d ≤ 1061882796441600000 ∧ Blk w' g 30 #[.int .i64 n, .int .i64 d] ∧ Blk w' w.heap.size 30 #[.int .i64 0, .int .i64 0] ∧ Str w' s (k + 30) ∧ ExtS s w w')
    case first =>
      cases b
      · go_wp2
        go_meet
        exact ⟨n, d, rfl, hn, hd, hI, hR, hS1.more (by omega), hE⟩
      · go_wp2_with (first
          | (go_at_call 4; refine (interval_any s (k + 1 + 1) _ (by omega) hS1).mono ?_; rintro e w2 ⟨x, rfl, hS2, hE2⟩)
          | (go_at_call 6; refine (intervalFault_any x _).mono ?_; rintro e w3 ⟨rfl, hE3⟩; have hI3 := (((hI.extS (show g ≠ s by omega) hE2).alloc (.cells #[.int .i64 x.a, .int .i64 x.b, .int .i64 x.c, .int .i64 x.d] 27)).ext hE3); have hX3 := Blk.ext (Blk.new' (w := w2) (t := 27) (cs := #[.int .i64 x.a, .int .i64 x.b, .int .i64 x.c, .int .i64 x.d]) rfl) hE3; obtain ⟨t1, t2⟩ := hX3.walk; have hR3 := (((hR.extS (show w.heap.size ≠ s by omega) hE2).alloc (.cells #[.int .i64 x.a, .int .i64 x.b, .int .i64 x.c, .int .i64 x.d] 27)).ext hE3); have hS3 := Lib.hid ((hS2.ext (Ext.alloc (Ext.refl _) _)).ext hE3); have hEE3 := Lib.hid (((hE.trans hE2).alloc _).ext hE3); cases hf : rightB x; (have hff : faultI x = 1 := (by unfold faultI; rw [hf]; rfl)); rotate_left; (have hff : faultI x = 0 := (by unfold faultI; rw [hf]; rfl)))
          | (go_at_call 14; refine (quotientOf_any x _ hf).mono ?_; rintro e w4 ⟨rfl, hE4⟩; obtain ⟨u1, u2⟩ := (hI3.ext hE4).walk))
        all_goals
          have n1 : w.heap.size ≠ g := by omega
          have n2 : s < g := by omega
          have n3 : g = s ∨ w.heap.size ≤ g := .inr (by omega)
          go_meet
          first
            | exact ⟨n, d, rfl, hn, hd, hI3, hR3, hS3.out.more (by omega), hEE3.out⟩
            | exact ⟨_, _, rfl, Int.ofNat_le.2 (qn_le hf).2.2.2, Int.ofNat_le.2 (qn_le (right_neg hf)).2.2.2, ((hI3.ext hE4).set_ 0 _).set_ 1 _, ((hR3.ext hE4).far n1 _).far n1 _, (((hS3.out.ext hE4).set n2 _).set n2 _).more (by omega), ((hEE3.out.ext hE4).setCell n3 _).setCell n3 _⟩
    case rest =>
      clear hI hR hE hS1 hn hd
      obtain ⟨n, d, rfl, hn, hd, hI, hR, hS, hE⟩ := hcut
      go_upto_if 26 with (go_at_call 22; refine (flip_any s (k + 30) 6 _ (by omega) (by omega) (by omega) hS).mono ?_; rintro e w1 ⟨b, rfl, hS1, hE1⟩)
      replace hI := hI.extS (show g ≠ s by omega) hE1
      replace hR := hR.extS (show w.heap.size ≠ s by omega) hE1
      replace hE := hE.trans hE1
      clear hS hE1
      go_cut [3] (fun s3 w' => ∃ n d : Int, s3 = .pointer (some ⟨g, 0, none⟩) ∧ n ≤ 1061882796441600000 ∧ d ≤ 1061882796441600000 ∧ Blk w' g 30 #[.int .i64 n, .int .i64 d] ∧ Blk w' w.heap.size 30 #[.int .i64 0, .int .i64 0] ∧ Str w' s (k + 40) ∧ ExtS s w w')
      case first =>
        cases b
        · go_wp2
          go_meet
          exact ⟨n, d, rfl, hn, hd, hI, hR, hS1.more (by omega), hE⟩
        · have l1 := hS1.lt
          go_wp2_with (go_at_call 21; refine (next_any s (k + 30 + 1) 7 _ (by omega) (by omega) (by omega) (hS1.ext (Ext.alloc (Ext.refl _) _))).mono ?_; rintro e w2 ⟨v, rfl, hv, hS2, hE2⟩; have hB := Blk.extS (Blk.new' (t := 30) rfl) (show w1.heap.size ≠ s by omega) hE2; have hR2 := (hR.alloc _).extS (show w.heap.size ≠ s by omega) hE2; have hI2 := (hI.alloc _).extS (show g ≠ s by omega) hE2; obtain ⟨s1, f1⟩ := hB.walk; obtain ⟨t1, t2⟩ := hI2.walk; replace hS := Lib.hid hS2; replace hEE := Lib.hid ((hE.alloc _).trans hE2); clear hB hS2 hE2; obtain rfl | rfl | rfl | rfl | rfl | rfl | rfl : v = 0 ∨ v = 1 ∨ v = 2 ∨ v = 3 ∨ v = 4 ∨ v = 5 ∨ v = 6 := by omega)
          all_goals
            have n1 : w.heap.size ≠ g := by omega
            have n2 : s < g := by omega
            have n3 : g = s ∨ w.heap.size ≤ g := .inr (by omega)
            go_meet
            exact ⟨_, _, rfl, by omega, by omega, (hI2.set_ 0 _).set_ 1 _, (hR2.far n1 _).far n1 _, ((hS.out.set n2 _).set n2 _).more (by omega), (hEE.out.setCell n3 _).setCell n3 _⟩
      case rest =>
        clear hI hR hE hS1 hn hd
        obtain ⟨n, d, rfl, hn, hd, hI, hR, hS, hE⟩ := hcut
        obtain ⟨t1, t2⟩ := hI.walk
        obtain ⟨r1, r2⟩ := hR.walk
        go_wp2
        go_light
        have n2 : s < w.heap.size := by omega
        have n3 : w.heap.size = s ∨ w.heap.size ≤ w.heap.size := .inr (Nat.le_refl _)
        exact bodyPost_ret (v := .agg #[.int .i64 n, .int .i64 d]) (by simp [results, Tryd.results5, go_sem, *]) rfl ⟨n, d, rfl, hn, hd, (hS.set n2 _).set n2 _, (hE.setCell n3 _).setCell n3 _⟩

end Go.Proofs.YtolglfpnfeklkaaDoor
