/- Comparing intervals, by both texts. Conditions: as each theorem says. -/
import Derived.Test.YtapjekpjekdlkaaGreatDoorRTuneH
import Derived.Deep.DeepCutAuto
set_option linter.unusedSimpArgs false
set_option linter.unusedVariables false
namespace Go.Proofs.YtapjekpjekdlkaaGreatDoor
open Go Go.RowKit

theorem hiN_range (m : Nat) (h : m ≤ 18446744073709551615 * 18446744073709551616) : 0 ≤ hiN m ∧ hiN m ≤ 18446744073709551615 := by unfold hiN; omega

set_option maxRecDepth 100000 in
set_option maxHeartbeats 1600000 in
theorem byHeightD_any (x y : I4) (w : World) (hx : rightB x = true) (hy : rightB y = true) :
    Calls Tryz.prog 37 #[.agg #[.int .i64 x.a, .int .i64 x.b, .int .i64 x.c, .int .i64 x.d], .agg #[.int .i64 y.a, .int .i64 y.b, .int .i64 y.c, .int .i64 y.d]] w fun e w' =>
      e = .returned (.int .i64 (cmpI x y)) ∧ ExtD w w' := by
  have hv : cmpI x y = cmpN (qn x 4 * qd y 4) (qn y 4 * qd x 4) := rfl
  have HV := Lib.hid hv; clear hv
  go_enter Tryz.func37, Tryz.ntmps37
  go_upto_region 1 with fail
  go_cut [5, 6] (fun s5 s6 w' => ∃ g h : Nat, g ≠ h ∧ s5 = .pointer (some ⟨g, 0, none⟩) ∧ s6 = .pointer (some ⟨h, 0, none⟩) ∧ Blk w' g 101 #[.int .i64 (qn x 4 : Nat), .int .i64 (qd x 4 : Nat)] ∧ Blk w' h 101 #[.int .i64 (qn y 4 : Nat), .int .i64 (qd y 4 : Nat)] ∧ ExtD w w')
  case first =>
    refine wp_region_forks [0, 1, 2, 3] 4 (fun w' => Blk w' w.heap.size 27 #[.int .i64 x.a, .int .i64 x.b, .int .i64 x.c, .int .i64 x.d] ∧ Blk w' (w.heap.size + 1) 27 #[.int .i64 y.a, .int .i64 y.b, .int .i64 y.c, .int .i64 y.d] ∧ ExtD w w') ExtD (by kernel_rfl) (by kernel_rfl) ExtD.refl (fun _ _ _ => ExtD.trans) (fun _ _ h he => ⟨h.1.ext he, h.2.1.ext he, h.2.2.trans he⟩) ⟨(by (repeat (with_reducible first | assumption | exact Blk.new' (by simp) | refine Blk.drew ?_ | refine Blk.alloc ?_ _ | exact ExtD.refl _ | refine ExtD.drew ?_ | refine ExtD.alloc ?_ _))), (by (repeat (with_reducible first | assumption | exact Blk.new' (by simp) | refine Blk.drew ?_ | refine Blk.alloc ?_ _ | exact ExtD.refl _ | refine ExtD.drew ?_ | refine ExtD.alloc ?_ _))), (by (repeat (with_reducible first | assumption | exact Blk.new' (by simp) | refine Blk.drew ?_ | refine Blk.alloc ?_ _ | exact ExtD.refl _ | refine ExtD.drew ?_ | refine ExtD.alloc ?_ _)))⟩ ?_
    repeat
      first
        | (refine q_quiet rfl rfl (fun _ _ _ _ h => h) ?_
           apply Exists.intro
           refine ⟨fun w' hw' => ?_, ?_⟩
           · obtain ⟨hH0, hH1, hH2⟩ := hw'
             unfold Blk at hH0 hH1
             simp [go_sem, quietTo, World.cell?, hH0, hH1, ExtD.refl, ↓IntWalk.iteOmega]
             first
               | rfl
               | (with_reducible exact quotientOfD_any x _ hx)
               | (with_reducible exact quotientOfD_any y _ hy)
           simp only [Act.put, List.setIfInBounds_toArray, List.set_cons_succ, List.set_cons_zero])
        | (refine q_skip rfl rfl (fun _ _ _ _ h => h) ?_
           simp only [Act.put, List.setIfInBounds_toArray, List.set_cons_succ, List.set_cons_zero])
    refine q_nil ?_
    try simp only [List.length_cons, List.length_nil, Nat.reduceAdd, Array.replicate_succ, Array.replicate_zero, List.push_toArray, List.nil_append, List.cons_append, List.setIfInBounds_toArray, List.set_cons_succ, List.set_cons_zero]
    refine ww_two (i := 4) (j := 5) rfl rfl rfl rfl (by kernel_rfl) ?_ ?_
    · intro w1 e1 h1 K hK
      go_wp2_with fail
      refine ⟨⟨(h1.1).alloc _, (h1.2.1).alloc _, (h1.2.2).alloc _⟩, ?_⟩
      simp only [List.setIfInBounds_toArray, List.set_cons_succ, List.set_cons_zero]
      refine ww_one (i := 5) rfl rfl (by kernel_rfl) ?_
      intro w2 e2 h2 K2 hK2
      have c1 := Blk.ext (Blk.new' (w := w1) (t := 101) (cs := #[.int .i64 0, .int .i64 0]) rfl) e2.e
      have l1 := c1.lt
      go_wp2_with fail
      refine ⟨⟨(h2.1).alloc _, (h2.2.1).alloc _, (h2.2.2).alloc _⟩, ?_⟩
      simp only [List.setIfInBounds_toArray, List.set_cons_succ, List.set_cons_zero]
      have hl0 := h1.1.lt
      have hl1 := h1.2.1.lt
      refine ww_one (i := 6) rfl rfl (by kernel_rfl) ?_
      intro w3 e3 h3 K3 hK3
      have d0 := Blk.ext (Blk.alloc c1 _) e3.e
      have d1 := Blk.ext (Blk.new' (w := w2) (t := 101) (cs := #[.int .i64 0, .int .i64 0]) rfl) e3.e
      have ne : w1.heap.size ≠ w2.heap.size := by omega
      obtain ⟨p1, p2⟩ := d0.walk
      go_wp2_with fail
      have hz1 := h1.2.2.size
      have hz2 := h2.2.2.size
      refine ⟨⟨(((h3.1).far (by simp; omega) _).far (by simp; omega) _), (((h3.2.1).far (by simp; omega) _).far (by simp; omega) _), (ExtD.setCell (ExtD.setCell h3.2.2 (by simp; omega) _) (by simp; omega) _)⟩, ?_⟩
      simp only [List.setIfInBounds_toArray, List.set_cons_succ, List.set_cons_zero]
      refine ww_one (i := 7) rfl rfl (by kernel_rfl) ?_
      intro w4 e4 h4 K4 hK4
      have f0 := Blk.ext ((d0.set_ 0 _).set_ 1 _) e4.e
      have f1 := Blk.ext ((d1.far (p := ⟨_, 0, none⟩) (by simp; omega) _).far (p := ⟨_, 1, none⟩) (by simp; omega) _) e4.e
      obtain ⟨q1, q2⟩ := f1.walk
      go_wp2_with fail
      refine ⟨⟨(((h4.1).far (by simp; omega) _).far (by simp; omega) _), (((h4.2.1).far (by simp; omega) _).far (by simp; omega) _), (ExtD.setCell (ExtD.setCell h4.2.2 (by simp; omega) _) (by simp; omega) _)⟩, ?_⟩
      simp only [List.setIfInBounds_toArray, List.set_cons_succ, List.set_cons_zero]
      refine ww_done (by kernel_rfl) fun w5 e5 h5 => ?_
      have g1 := Blk.ext ((f1.set_ 0 _).set_ 1 _) e5.e
      have g0 := Blk.ext ((f0.far (p := ⟨_, 0, none⟩) (by simp; omega) _).far (p := ⟨_, 1, none⟩) (by simp; omega) _) e5.e
      dsimp only [Exit.then]
      go_step
      go_meet
      exact ⟨_, _, by omega, rfl, rfl, g0, g1, h5.2.2⟩
    · intro w1 e1 h1 K hK
      go_wp2_with fail
      refine ⟨⟨(h1.1).alloc _, (h1.2.1).alloc _, (h1.2.2).alloc _⟩, ?_⟩
      simp only [List.setIfInBounds_toArray, List.set_cons_succ, List.set_cons_zero]
      refine ww_one (i := 4) rfl rfl (by kernel_rfl) ?_
      intro w2 e2 h2 K2 hK2
      have c1 := Blk.ext (Blk.new' (w := w1) (t := 101) (cs := #[.int .i64 0, .int .i64 0]) rfl) e2.e
      have l1 := c1.lt
      go_wp2_with fail
      refine ⟨⟨(h2.1).alloc _, (h2.2.1).alloc _, (h2.2.2).alloc _⟩, ?_⟩
      simp only [List.setIfInBounds_toArray, List.set_cons_succ, List.set_cons_zero]
      have hl0 := h1.1.lt
      have hl1 := h1.2.1.lt
      refine ww_one (i := 6) rfl rfl (by kernel_rfl) ?_
      intro w3 e3 h3 K3 hK3
      have d1 := Blk.ext (Blk.alloc c1 _) e3.e
      have d0 := Blk.ext (Blk.new' (w := w2) (t := 101) (cs := #[.int .i64 0, .int .i64 0]) rfl) e3.e
      have ne : w1.heap.size ≠ w2.heap.size := by omega
      obtain ⟨p1, p2⟩ := d0.walk
      go_wp2_with fail
      have hz1 := h1.2.2.size
      have hz2 := h2.2.2.size
      refine ⟨⟨(((h3.1).far (by simp; omega) _).far (by simp; omega) _), (((h3.2.1).far (by simp; omega) _).far (by simp; omega) _), (ExtD.setCell (ExtD.setCell h3.2.2 (by simp; omega) _) (by simp; omega) _)⟩, ?_⟩
      simp only [List.setIfInBounds_toArray, List.set_cons_succ, List.set_cons_zero]
      refine ww_one (i := 7) rfl rfl (by kernel_rfl) ?_
      intro w4 e4 h4 K4 hK4
      have f0 := Blk.ext ((d0.set_ 0 _).set_ 1 _) e4.e
      have f1 := Blk.ext ((d1.far (p := ⟨_, 0, none⟩) (by simp; omega) _).far (p := ⟨_, 1, none⟩) (by simp; omega) _) e4.e
      obtain ⟨q1, q2⟩ := f1.walk
      go_wp2_with fail
      refine ⟨⟨(((h4.1).far (by simp; omega) _).far (by simp; omega) _), (((h4.2.1).far (by simp; omega) _).far (by simp; omega) _), (ExtD.setCell (ExtD.setCell h4.2.2 (by simp; omega) _) (by simp; omega) _)⟩, ?_⟩
      simp only [List.setIfInBounds_toArray, List.set_cons_succ, List.set_cons_zero]
      refine ww_done (by kernel_rfl) fun w5 e5 h5 => ?_
      have g1 := Blk.ext ((f1.set_ 0 _).set_ 1 _) e5.e
      have g0 := Blk.ext ((f0.far (p := ⟨_, 0, none⟩) (by simp; omega) _).far (p := ⟨_, 1, none⟩) (by simp; omega) _) e5.e
      dsimp only [Exit.then]
      go_step
      go_meet
      exact ⟨_, _, by omega, rfl, rfl, g0, g1, h5.2.2⟩
  case rest =>
    obtain ⟨g, h, hgh, rfl, rfl, hg, hh, he⟩ := hcut
    obtain ⟨p1, p2⟩ := hg.walk
    obtain ⟨q1, q2⟩ := hh.walk
    have b1 := (qn_le hx).2.2.2
    have b2 : qd x 4 ≤ _ := (qn_le (right_neg hx)).2.2.2
    have b3 := (qn_le hy).2.2.2
    have b4 : qd y 4 ≤ _ := (qn_le (right_neg hy)).2.2.2
    generalize qn x 4 = nx at *
    generalize qd x 4 = dx at *
    generalize qn y 4 = ny at *
    generalize qd y 4 = dy at *
    have l1 := loN_range (nx * dy)
    have l2 := loN_range (ny * dx)
    clear hg hh
    have l3 : 0 ≤ hiN (nx * dy) ∧ hiN (nx * dy) ≤ 18446744073709551615 := hiN_range _ (Nat.le_trans (Nat.mul_le_mul b1 b4) (by decide))
    have l4 : 0 ≤ hiN (ny * dx) ∧ hiN (ny * dx) ≤ 18446744073709551615 := hiN_range _ (Nat.le_trans (Nat.mul_le_mul b3 b2) (by decide))
    go_wp2_with (first
      | (go_at_call 58; with_reducible refine Calls.mono (mul_any nx dy _ (by omega) (by omega)) ?_; rintro e w' ⟨rfl, rfl⟩)
      | (go_at_call 58; with_reducible refine Calls.mono (mul_any ny dx _ (by omega) (by omega)) ?_; rintro e w' ⟨rfl, rfl⟩)
      | (go_at_call 60; with_reducible refine Calls.mono (cmpU_any (hiN (nx * dy)) (hiN (ny * dx)) _ l3.1 l3.2 l4.1 l4.2) ?_; rintro e w' ⟨rfl, rfl⟩)
      | (go_at_call 60; with_reducible refine Calls.mono (cmpU_any (loN (nx * dy)) (loN (ny * dx)) _ l1.1 l1.2 l2.1 l2.2) ?_; rintro e w' ⟨rfl, rfl⟩)
      | (go_at_call 59; refine Calls.mono (orInt_blk _ _ 2 [cmpZ (hiN (nx * dy)) (hiN (ny * dx)), cmpZ (loN (nx * dy)) (loN (ny * dx))] _ (by simp) (Blk.new' (by simp))) ?_; rintro e w' ⟨rfl, rfl⟩))
    go_ret
    exact ⟨ret_int (by rw [orF_cmp]; exact HV.out.symm), (by (repeat (with_reducible first | assumption | exact ExtD.refl _ | refine ExtD.drew ?_ | refine ExtD.alloc ?_ _ | refine ExtD.setCell ?_ (by simp <;> omega) _ | refine ExtD.trans ?_ (by assumption))))⟩
theorem byHeight_any (x y : I4) (w : World) (hx : rightB x = true) (hy : rightB y = true) :
    Calls Tryz.prog 37 #[.agg #[.int .i64 x.a, .int .i64 x.b, .int .i64 x.c, .int .i64 x.d], .agg #[.int .i64 y.a, .int .i64 y.b, .int .i64 y.c, .int .i64 y.d]] w fun e w' =>
      e = .returned (.int .i64 (cmpI x y)) ∧ Ext w w' :=
  (byHeightD_any x y w hx hy).mono fun _ _ h => ⟨h.1, h.2.e⟩

end Go.Proofs.YtapjekpjekdlkaaGreatDoor
