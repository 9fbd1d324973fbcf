/- The interval that a stream makes, told exactly. Conditions: as each theorem says. -/
import Derived.Test.YtapjekpjekdlkaaDoorQDetA
import Derived.Test.YtapjekpjekdlkaaDoorQJ5
import Derived.Deep.DeepCutAuto
set_option linter.unusedSimpArgs false
set_option linter.unusedVariables false
namespace Go.Proofs.YtapjekpjekdlkaaDoor
open Go Go.RowKit

def ivT : List I4 := [⟨0, 0, 0, 0⟩, ⟨1, 0, 0, 0⟩, ⟨-1, 1, 0, 0⟩, ⟨2, -1, 0, 0⟩, ⟨-2, 0, 1, 0⟩, ⟨-3, 2, 0, 0⟩, ⟨1, -2, 1, 0⟩, ⟨-4, 4, -1, 0⟩, ⟨-2, 0, 0, 1⟩]
def ivA (L : Src) (a : Nat) : I4 := ivT.getD (nxF L a 9) zeroI
def ivB1 (L : Src) (a : Nat) : I4 × Nat := if flF L (a + 1) 4 then (⟨rgF L (a + 2) (-24) 24, rgF L (a + 3) (-10) 10, rgF L (a + 4) (-5) 5, rgF L (a + 5) (-3) 3⟩, a + 6) else (ivA L a, a + 2)
def ivF (L : Src) (a : Nat) : I4 × Nat :=
  if flF L (ivB1 L a).2 15 then (⟨odF L ((ivB1 L a).2 + 1) (-24) 24, odF L ((ivB1 L a).2 + 3) (-10) 10, odF L ((ivB1 L a).2 + 5) (-5) 5, odF L ((ivB1 L a).2 + 7) (-3) 3⟩, (ivB1 L a).2 + 9) else ((ivB1 L a).1, (ivB1 L a).2 + 1)
theorem ivB1_le (L : Src) (a : Nat) : a + 2 ≤ (ivB1 L a).2 ∧ (ivB1 L a).2 ≤ a + 6 := by unfold ivB1; split <;> simp
theorem ivF_le (L : Src) (a : Nat) : a + 3 ≤ (ivF L a).2 ∧ (ivF L a).2 ≤ a + 15 := by
  have := ivB1_le L a
  unfold ivF; split <;> simp only <;> omega
set_option maxRecDepth 100000 in
set_option maxHeartbeats 3200000 in
theorem interval_det (s a : Nat) (L : Src) (w : World) (hk : a ≤ 999000) (h : StrL w s L a) :
    Calls Tryd.prog 6 #[.pointer (some ⟨s, 0, none⟩)] w fun e w' => e = .returned (.agg #[.int .i64 (ivF L a).1.a, .int .i64 (ivF L a).1.b, .int .i64 (ivF L a).1.c, .int .i64 (ivF L a).1.d]) ∧ StrL w' s L (ivF L a).2 ∧ ExtS s w w' := by
  have l0 := h.lt
  have hA : ivT.getD (nxF L a 9) zeroI = ivA L a := rfl
  have hB1 : ivB1 L a = if flF L (a + 1) 4 then (⟨rgF L (a + 2) (-24) 24, rgF L (a + 3) (-10) 10, rgF L (a + 4) (-5) 5, rgF L (a + 5) (-3) 3⟩, a + 6) else (ivA L a, a + 2) := rfl
  have hF : ivF L a = if flF L (ivB1 L a).2 15 then (⟨odF L ((ivB1 L a).2 + 1) (-24) 24, odF L ((ivB1 L a).2 + 3) (-10) 10, odF L ((ivB1 L a).2 + 5) (-5) 5, odF L ((ivB1 L a).2 + 7) (-3) 3⟩, (ivB1 L a).2 + 9) else ((ivB1 L a).1, (ivB1 L a).2 + 1) := rfl
  obtain ⟨b1, b2⟩ := ivB1_le L a
  obtain ⟨v, hv⟩ : ∃ v, nxF L a 9 = v := ⟨_, rfl⟩
  have hv9 : v < 9 := by rw [← hv]; exact nxF_lt L a 9 (by decide)
  rw [hv] at hA
  generalize ivA L a = A at *
  generalize hP : ivB1 L a = P at *
  clear hP
  obtain ⟨B, a1⟩ := P
  generalize ivF L a = Q at *
  obtain ⟨R, a2⟩ := Q
  simp only at hB1 hF b1 b2 ⊢
  replace hB1 := Lib.hid hB1
  replace hF := Lib.hid hF
  replace hA := Lib.hid hA
  go_enter Tryd.func6, Tryd.ntmps6
  go_upto_region 1 with fail
  go_cut [3] (fun s3 w' => ∃ (g : Nat), s3 = .pointer (some ⟨g, 0, none⟩) ∧ w.heap.size < g ∧ Blk w' g 30 #[.int .i64 A.a, .int .i64 A.b, .int .i64 A.c, .int .i64 A.d] ∧ Blk w' w.heap.size 30 #[.int .i64 0, .int .i64 0, .int .i64 0, .int .i64 0] ∧ StrL w' s L (a + 1) ∧ ExtS s w w')
  case first =>
    go_wp2_with (go_at_call 10; refine (next_det s a 9 L _ (by omega) (by omega) (by omega) (h.ext (Ext.alloc (Ext.alloc (Ext.refl _) _) _))).mono ?_; rw [hv]; rintro e w1 ⟨rfl, hS, hE⟩; have hB := Blk.extS (Blk.new' (t := 30) (by simp)) (show w.heap.size + 1 ≠ s by omega) hE; have hR := Blk.extS (Blk.alloc (Blk.new' (w := w) (t := 30) rfl) _) (Nat.ne_of_gt l0) hE; obtain ⟨s1, f1⟩ := hB.walk; have l1 := hR.lt; replace hS := Lib.hid hS; replace hE := Lib.hid hE; replace hR := Lib.hid hR; replace hv := Lib.hid hv; clear hB; obtain rfl | rfl | rfl | rfl | rfl | rfl | rfl | rfl | rfl : v = 0 ∨ v = 1 ∨ v = 2 ∨ v = 3 ∨ v = 4 ∨ v = 5 ∨ v = 6 ∨ v = 7 ∨ v = 8 := by omega)
    all_goals
      go_meet
      exact ⟨w1.heap.size, rfl, l1, (Blk.new' rfl).cast (by rw [← hA.out]; rfl), hR.out.alloc _, hS.out.ext (Ext.alloc (Ext.refl _) _), (((ExtS.refl _ _).alloc _).alloc _).trans hE.out |>.alloc _⟩
  case rest =>
    obtain ⟨g, rfl, hg, hI, hR, hS, hE⟩ := hcut
    clear h
    obtain ⟨f4, hf4⟩ : ∃ b, flF L (a + 1) 4 = b := ⟨_, rfl⟩
    have hB2 := hB1.out
    rw [hf4] at hB2
    go_upto_if 19 with (go_at_call 8; refine (flip_det s (a + 1) 4 L _ (by omega) (by omega) (by omega) hS).mono ?_; rw [hf4]; rintro e w1 ⟨rfl, hS1, hE1⟩)
    replace hI := hI.extS (show g ≠ s by omega) hE1
    replace hR := hR.extS (show w.heap.size ≠ s by omega) hE1
    replace hE := hE.trans hE1
    clear hS hE1 hf4 hB1
    replace hB2 := Lib.hid hB2
    go_cut [3] (fun s3 w' => s3 = .pointer (some ⟨g, 0, none⟩) ∧ Blk w' g 30 #[.int .i64 B.a, .int .i64 B.b, .int .i64 B.c, .int .i64 B.d] ∧ Blk w' w.heap.size 30 #[.int .i64 0, .int .i64 0, .int .i64 0, .int .i64 0] ∧ StrL w' s L a1 ∧ ExtS s w w')
    case first =>
      cases f4
      · have hB3 := hB2.out
        simp only [Bool.false_eq_true, if_false, Prod.mk.injEq] at hB3
        obtain ⟨rfl, rfl⟩ := hB3
        go_wp2
        go_meet
        exact ⟨rfl, hI, hR, hS1, hE⟩
      · have hB3 := hB2.out
        simp only [if_true, Prod.mk.injEq] at hB3
        obtain ⟨rfl, rfl⟩ := hB3
        go_wp2_with (first
          | (go_at_call 22; with_reducible refine Calls.mono (range_det s (a + 1 + 1) (-24) 24 L _ (by omega) (by omega) (by omega) (by omega) (by omega) hS1) ?_; rintro e w2 ⟨rfl, hS2, hE2⟩)
          | (go_at_call 22; with_reducible refine Calls.mono (range_det s (a + 1 + 1 + 1) (-10) 10 L _ (by omega) (by omega) (by omega) (by omega) (by omega) hS2) ?_; rintro e w3 ⟨rfl, hS3, hE3⟩)
          | (go_at_call 22; with_reducible refine Calls.mono (range_det s (a + 1 + 1 + 1 + 1) (-5) 5 L _ (by omega) (by omega) (by omega) (by omega) (by omega) hS3) ?_; rintro e w4 ⟨rfl, hS4, hE4⟩)
          | (go_at_call 22; with_reducible refine Calls.mono (range_det s (a + 1 + 1 + 1 + 1 + 1) (-3) 3 L _ (by omega) (by omega) (by omega) (by omega) (by omega) hS4) ?_; rintro e w5 ⟨rfl, hS5, hE5⟩; have hEE := ((hE2.trans hE3).trans hE4).trans hE5; have hI5 := hI.extS (show g ≠ s by omega) hEE; have hR5 := hR.extS (show w.heap.size ≠ s by omega) hEE; have hE6 := hE.trans hEE; obtain ⟨t1, t2⟩ := hI5.walk; clear hE2 hE3 hE4 hE5 hEE hS2 hS3 hS4))
        go_meet
        have n1 : w.heap.size ≠ g := by omega
        have n2 : s < g := by omega
        have n3 : g = s ∨ w.heap.size ≤ g := .inr (by omega)
        exact ⟨rfl, ((((hI5.set_ 0 _).set_ 1 _).set_ 2 _).set_ 3 _), ((((hR5.far n1 _).far n1 _).far n1 _).far n1 _), ((((hS5.set n2 _).set n2 _).set n2 _).set n2 _), ((((hE6.setCell n3 _).setCell n3 _).setCell n3 _).setCell n3 _)⟩
    case rest =>
      clear hI hR hE hS1
      obtain ⟨rfl, hI, hR, hS, hE⟩ := hcut
      obtain ⟨f5, hf5⟩ : ∃ b, flF L a1 15 = b := ⟨_, rfl⟩
      have hF2 := hF.out
      rw [hf5] at hF2
      go_upto_if 30 with (go_at_call 8; refine (flip_det s a1 15 L _ (by omega) (by omega) (by omega) hS).mono ?_; rw [hf5]; rintro e w1 ⟨rfl, hS1, hE1⟩)
      replace hI := hI.extS (show g ≠ s by omega) hE1
      replace hR := hR.extS (show w.heap.size ≠ s by omega) hE1
      replace hE := hE.trans hE1
      clear hS hE1 hf5 hF
      replace hF2 := Lib.hid hF2
      go_cut [3] (fun s3 w' => s3 = .pointer (some ⟨g, 0, none⟩) ∧ Blk w' g 30 #[.int .i64 R.a, .int .i64 R.b, .int .i64 R.c, .int .i64 R.d] ∧ Blk w' w.heap.size 30 #[.int .i64 0, .int .i64 0, .int .i64 0, .int .i64 0] ∧ StrL w' s L a2 ∧ ExtS s w w')
      case first =>
        cases f5
        · have hF3 := hF2.out
          simp only [Bool.false_eq_true, if_false, Prod.mk.injEq] at hF3
          obtain ⟨rfl, rfl⟩ := hF3
          go_wp2
          go_meet
          exact ⟨rfl, hI, hR, hS1, hE⟩
        · have hF3 := hF2.out
          simp only [if_true, Prod.mk.injEq] at hF3
          obtain ⟨rfl, rfl⟩ := hF3
          go_wp2_with (first
            | (go_at_call 23; with_reducible refine Calls.mono (odd_det s (a1 + 1) (-24) 24 L _ (by omega) (by omega) (by omega) (by omega) (by omega) hS1) ?_; rintro e w2 ⟨rfl, hS2, hE2⟩)
            | (go_at_call 23; with_reducible refine Calls.mono (odd_det s (a1 + 1 + 2) (-10) 10 L _ (by omega) (by omega) (by omega) (by omega) (by omega) hS2) ?_; rintro e w3 ⟨rfl, hS3, hE3⟩)
            | (go_at_call 23; with_reducible refine Calls.mono (odd_det s (a1 + 1 + 2 + 2) (-5) 5 L _ (by omega) (by omega) (by omega) (by omega) (by omega) hS3) ?_; rintro e w4 ⟨rfl, hS4, hE4⟩)
            | (go_at_call 23; with_reducible refine Calls.mono (odd_det s (a1 + 1 + 2 + 2 + 2) (-3) 3 L _ (by omega) (by omega) (by omega) (by omega) (by omega) hS4) ?_; rintro e w5 ⟨rfl, hS5, hE5⟩; have hEE := ((hE2.trans hE3).trans hE4).trans hE5; have hI5 := hI.extS (show g ≠ s by omega) hEE; have hR5 := hR.extS (show w.heap.size ≠ s by omega) hEE; have hE6 := hE.trans hEE; obtain ⟨t1, t2⟩ := hI5.walk; clear hE2 hE3 hE4 hE5 hEE hS2 hS3 hS4))
          go_meet
          have n1 : w.heap.size ≠ g := by omega
          have n2 : s < g := by omega
          have n3 : g = s ∨ w.heap.size ≤ g := .inr (by omega)
          exact ⟨rfl, ((((hI5.set_ 0 _).set_ 1 _).set_ 2 _).set_ 3 _), ((((hR5.far n1 _).far n1 _).far n1 _).far n1 _), ((((hS5.set n2 _).set n2 _).set n2 _).set n2 _), ((((hE6.setCell n3 _).setCell n3 _).setCell n3 _).setCell n3 _)⟩
      case rest =>
        clear hI hR hE hS1
        obtain ⟨rfl, hI, hR, hS, hE⟩ := hcut
        obtain ⟨t1, t2⟩ := hI.walk
        obtain ⟨r1, r2⟩ := hR.walk
        go_wp2
        go_light
        have n2 : s < w.heap.size := by omega
        have n3 : w.heap.size = s ∨ w.heap.size ≤ w.heap.size := .inr (Nat.le_refl _)
        exact bodyPost_ret (v := .agg #[.int .i64 R.a, .int .i64 R.b, .int .i64 R.c, .int .i64 R.d]) (by simp [results, Tryd.results6, go_sem, *]) rfl ⟨rfl, (((hS.set n2 _).set n2 _).set n2 _).set n2 _, (((hE.setCell n3 _).setCell n3 _).setCell n3 _).setCell n3 _⟩
end Go.Proofs.YtapjekpjekdlkaaDoor
