/- The quotient of an interval, by the program's text. Conditions: the interval is right. -/
import Derived.Test.YtapjekpjekdlkaaGreatDoorRJ7
import Derived.Test.YtapjekpjekdlkaaGreatDoorRJ5
set_option linter.unusedSimpArgs false
set_option linter.unusedVariables false
namespace Go.Proofs.YtapjekpjekdlkaaGreatDoor
open Go Go.RowKit

theorem blk_cast2 {w : World} {g : Nat} {t : TypeId} {a b a' b' : Int} (h : Blk w g t #[.int .i64 a, .int .i64 b]) (ha : a = a') (hb : b = b') : Blk w g t #[.int .i64 a', .int .i64 b'] := by
  subst ha; subst hb; exact h

set_option maxRecDepth 100000 in
set_option maxHeartbeats 3200000 in
theorem quotientD_any (x : I4) (w : World) (hr : rightB x = true) :
    Calls Tryz.prog 61 #[.agg #[.int .i64 x.a, .int .i64 x.b, .int .i64 x.c, .int .i64 x.d]] w fun e w' =>
      e = .returned (.agg #[.int .i64 (qn x 4 : Nat), .int .i64 (qd x 4 : Nat)]) ∧ ExtD w w' := by
  have hb := right_bounds hr
  obtain ⟨⟨a1, a2⟩, ⟨b1, b2⟩, ⟨c1, c2⟩, ⟨d1, d2⟩⟩ := hb
  have j0 : ∀ w, (Instr.index 121 (.agg #[.int .i64 x.a, .int .i64 x.b, .int .i64 x.c, .int .i64 x.d]) (.int .i64 0)).run Tryz.prog w = .ok (.int .i64 x.a) w := fun _ => by kernel_rfl
  have j1 : ∀ w, (Instr.index 121 (.agg #[.int .i64 x.a, .int .i64 x.b, .int .i64 x.c, .int .i64 x.d]) (.int .i64 1)).run Tryz.prog w = .ok (.int .i64 x.b) w := fun _ => by kernel_rfl
  have j2 : ∀ w, (Instr.index 121 (.agg #[.int .i64 x.a, .int .i64 x.b, .int .i64 x.c, .int .i64 x.d]) (.int .i64 2)).run Tryz.prog w = .ok (.int .i64 x.c) w := fun _ => by kernel_rfl
  have j3 : ∀ w, (Instr.index 121 (.agg #[.int .i64 x.a, .int .i64 x.b, .int .i64 x.c, .int .i64 x.d]) (.int .i64 3)).run Tryz.prog w = .ok (.int .i64 x.d) w := fun _ => by kernel_rfl
  have i0 : ∀ w, (Instr.index 121 (.agg #[.int .i64 2, .int .i64 3, .int .i64 5, .int .i64 7]) (.int .i64 0)).run Tryz.prog w = .ok (.int .i64 2) w := fun _ => by kernel_rfl
  have i1 : ∀ w, (Instr.index 121 (.agg #[.int .i64 2, .int .i64 3, .int .i64 5, .int .i64 7]) (.int .i64 1)).run Tryz.prog w = .ok (.int .i64 3) w := fun _ => by kernel_rfl
  have i2 : ∀ w, (Instr.index 121 (.agg #[.int .i64 2, .int .i64 3, .int .i64 5, .int .i64 7]) (.int .i64 2)).run Tryz.prog w = .ok (.int .i64 5) w := fun _ => by kernel_rfl
  have i3 : ∀ w, (Instr.index 121 (.agg #[.int .i64 2, .int .i64 3, .int .i64 5, .int .i64 7]) (.int .i64 3)).run Tryz.prog w = .ok (.int .i64 7) w := fun _ => by kernel_rfl
  go_enter Tryz.func61, Tryz.ntmps61
  go_wp2
  go_loopw [16] (fun i w' => ∃ k : Nat, k ≤ 4 ∧ i = .int .i64 k ∧ Blk w' (w.heap.size + 1) 101 #[.int .i64 0, .int .i64 0] ∧ Blk w' (w.heap.size + 1 + 1) 101 #[.int .i64 (qn x k : Nat), .int .i64 (qd x k : Nat)] ∧ ExtD w w') (fun i _ => 4 - (intOf i).toNat)
  case atStart => exact ⟨0, by omega, rfl, (by (repeat (with_reducible first | assumption | exact Blk.new' (by simp) | refine Blk.drew ?_ | refine Blk.alloc ?_ _ | exact ExtD.refl _ | refine ExtD.drew ?_ | refine ExtD.alloc ?_ _))), blk_cast2 (a := 1) (b := 1) (by (repeat (with_reducible first | assumption | exact Blk.new' (by simp) | refine Blk.drew ?_ | refine Blk.alloc ?_ _ | exact ExtD.refl _ | refine ExtD.drew ?_ | refine ExtD.alloc ?_ _))) rfl rfl, (by (repeat (with_reducible first | assumption | exact ExtD.refl _ | refine ExtD.drew ?_ | refine ExtD.alloc ?_ _ | refine ExtD.setCell ?_ (by simp <;> omega) _ | refine ExtD.trans ?_ (by assumption))))⟩
  case round =>
    obtain ⟨k, hk, rfl, hR, hF, he⟩ := hrel
    have hk' : k = 0 ∨ k = 1 ∨ k = 2 ∨ k = 3 ∨ k = 4 := by omega
    rcases hk' with rfl | rfl | rfl | rfl | rfl
    case inr.inr.inr.inr =>
      clear i0 i1 i2 i3 j0 j1 j2 j3
      obtain ⟨r1, r2⟩ := hR.walk
      obtain ⟨s1, s2⟩ := hF.walk
      go_wp2
      go_light
      exact bodyPost_ret (v := .agg #[.int .i64 (qn x 4 : Nat), .int .i64 (qd x 4 : Nat)]) (by simp [results, Tryz.results61, go_sem, *]) rfl ⟨rfl, (by (repeat (with_reducible first | assumption | exact ExtD.refl _ | refine ExtD.drew ?_ | refine ExtD.alloc ?_ _ | refine ExtD.setCell ?_ (by simp <;> omega) _ | refine ExtD.trans ?_ (by assumption))))⟩
    · go_wp2
      go_loopw [21] (fun i w' => ∃ j : Nat, (j = 0 ∨ (j : Int) ≤ x.a) ∧ i = .int .i64 j ∧ Blk w' (w.heap.size + 1) 101 #[.int .i64 0, .int .i64 0] ∧ Blk w' (w.heap.size + 1 + 1) 101 #[.int .i64 (qn x 0 * 2 ^ j : Nat), .int .i64 (qd x 0 : Nat)] ∧ ExtD w w') (fun i _ => (x.a).toNat - (intOf i).toNat)
      case atStart => exact ⟨0, .inl rfl, rfl, hR, blk_cast2 hF (by simp) rfl, he⟩
      case round =>
        clear hR hF he
        obtain ⟨j, hj, rfl, hR, hF, he⟩ := hrel
        by_cases hlt : (j : Int) < x.a
        · have hp := qn_part hr 0 (j + 1) (by omega) (show j + 1 ≤ (x.a).toNat by omega)
          have hm : IntKind.i64.wrap (((qn x 0 * 2 ^ j : Nat) : Int) * 2) = ((qn x 0 * 2 ^ (j + 1) : Nat) : Int) := by
            have e : qn x 0 * 2 ^ (j + 1) = qn x 0 * 2 ^ j * 2 := by rw [Nat.pow_succ, Nat.mul_assoc]
            rw [e]
            change qn x 0 * 2 ^ (j + 1) ≤ _ at hp
            rw [e] at hp
            generalize qn x 0 * 2 ^ j = q at hp ⊢
            rw [IntWalk.i64_in _ (by omega)]
            omega
          clear hp
          generalize qn x 0 * 2 ^ j = q1 at hm hF
          obtain ⟨q2, hq2⟩ : ∃ q, qn x 0 * 2 ^ (j + 1) = q := ⟨_, rfl⟩
          rw [hq2] at hm
          replace hq2 := Lib.hid hq2
          go_wp2
          refine wp_region_planS [(0, true), (1, true), (2, true), (3, true), (4, true), (5, true), (6, true)] 7 (fun w' => Blk w' (w.heap.size + 1) 101 #[.int .i64 0, .int .i64 0] ∧ Blk w' (w.heap.size + 1 + 1) 101 #[.int .i64 q1, .int .i64 (qd x 0 : Nat)] ∧ ExtD w w') ExtD (by kernel_rfl) (by kernel_rfl) ExtD.refl (fun _ _ _ => ExtD.trans) (fun _ _ h he => ⟨h.1.ext he, h.2.1.ext he, h.2.2.trans he⟩) ⟨(by (repeat (with_reducible first | assumption | exact Blk.new' (by simp) | refine Blk.drew ?_ | refine Blk.alloc ?_ _ | exact ExtD.refl _ | refine ExtD.drew ?_ | refine ExtD.alloc ?_ _))), (by (repeat (with_reducible first | assumption | exact Blk.new' (by simp) | refine Blk.drew ?_ | refine Blk.alloc ?_ _ | exact ExtD.refl _ | refine ExtD.drew ?_ | refine ExtD.alloc ?_ _))), (by (repeat (with_reducible first | assumption | exact Blk.new' (by simp) | refine Blk.drew ?_ | refine Blk.alloc ?_ _ | exact ExtD.refl _ | refine ExtD.drew ?_ | refine ExtD.alloc ?_ _)))⟩ ?_
          repeat
            first
              | (refine plan_quiet rfl rfl (fun _ _ _ _ h => h) ?_
                 apply Exists.intro
                 refine ⟨fun w' hw' => ?_, ?_⟩
                 · obtain ⟨hH0, hH1, hH2⟩ := hw'
                   unfold Blk at hH0 hH1
                   simp [go_sem, quietTo, World.cell?, hH0, hH1, ExtD.refl, ↓IntWalk.iteOmega, hm, i0]
                   first
                     | rfl
                     | (exact primesD_any _)
                 simp only [Act.put, List.setIfInBounds_toArray, List.set_cons_succ, List.set_cons_zero])
              | (refine plan_skip rfl rfl (fun _ _ _ _ h => h) ?_
                 simp only [Act.put, List.setIfInBounds_toArray, List.set_cons_succ, List.set_cons_zero])
          refine plan_nil fun wr her hwr => ?_
          clear her
          obtain ⟨hH0, hH1, hH2⟩ := hwr
          obtain ⟨hC0, hF0⟩ := hH0.walk
          obtain ⟨hC1, hF1⟩ := hH1.walk
          simp only [List.drop_succ_cons, List.drop_zero, List.drop_nil]
          go_wp2
          go_roundw
          case rel => exact ⟨j + 1, .inr (by omega), by go_num, hH0.far (by simp) _, (hH1.set_ 0 _).cast (by rw [hq2.out]; rfl), (by (repeat (with_reducible first | assumption | exact ExtD.refl _ | refine ExtD.drew ?_ | refine ExtD.alloc ?_ _ | refine ExtD.setCell ?_ (by simp <;> omega) _ | refine ExtD.trans ?_ (by assumption))))⟩
          case measure => simp [intOf]; omega
        · have hje : j = (x.a).toNat := by omega
          have hF' : Blk wr (w.heap.size + 1 + 1) 101 #[.int .i64 (qn x (0 + 1) : Nat), .int .i64 (qd x 0 : Nat)] := blk_cast2 hF (by rw [hje]; rfl) rfl
          clear hF hje hj
          go_wp2
          go_loopw [33] (fun i w' => ∃ j : Nat, (j = 0 ∨ (j : Int) ≤ -(x.a)) ∧ i = .int .i64 j ∧ Blk w' (w.heap.size + 1) 101 #[.int .i64 0, .int .i64 0] ∧ Blk w' (w.heap.size + 1 + 1) 101 #[.int .i64 (qn x (0 + 1) : Nat), .int .i64 (qd x 0 * 2 ^ j : Nat)] ∧ ExtD w w') (fun i _ => (-(x.a)).toNat - (intOf i).toNat)
          case atStart => exact ⟨0, .inl rfl, rfl, hR, blk_cast2 hF' rfl (by simp), he⟩
          case round =>
            clear hR hF' he
            obtain ⟨j, hj, rfl, hR, hF, he⟩ := hrel
            by_cases hlt : (j : Int) < -(x.a)
            · have hp := qn_part (right_neg hr) 0 (j + 1) (by omega) (show j + 1 ≤ (-(x.a)).toNat by omega)
              change qd x 0 * 2 ^ (j + 1) ≤ _ at hp
              have hm : IntKind.i64.wrap (((qd x 0 * 2 ^ j : Nat) : Int) * 2) = ((qd x 0 * 2 ^ (j + 1) : Nat) : Int) := by
                have e : qd x 0 * 2 ^ (j + 1) = qd x 0 * 2 ^ j * 2 := by rw [Nat.pow_succ, Nat.mul_assoc]
                rw [e] at hp ⊢
                generalize qd x 0 * 2 ^ j = q at hp ⊢
                rw [IntWalk.i64_in _ (by omega)]
                omega
              clear hp
              generalize qd x 0 * 2 ^ j = q1 at hm hF
              obtain ⟨q2, hq2⟩ : ∃ q, qd x 0 * 2 ^ (j + 1) = q := ⟨_, rfl⟩
              rw [hq2] at hm
              replace hq2 := Lib.hid hq2
              go_wp2
              refine wp_region_planS [(0, true), (1, true), (2, true), (3, true), (4, true), (5, true), (6, true)] 7 (fun w' => Blk w' (w.heap.size + 1) 101 #[.int .i64 0, .int .i64 0] ∧ Blk w' (w.heap.size + 1 + 1) 101 #[.int .i64 (qn x (0 + 1) : Nat), .int .i64 q1] ∧ ExtD w w') ExtD (by kernel_rfl) (by kernel_rfl) ExtD.refl (fun _ _ _ => ExtD.trans) (fun _ _ h he => ⟨h.1.ext he, h.2.1.ext he, h.2.2.trans he⟩) ⟨(by (repeat (with_reducible first | assumption | exact Blk.new' (by simp) | refine Blk.drew ?_ | refine Blk.alloc ?_ _ | exact ExtD.refl _ | refine ExtD.drew ?_ | refine ExtD.alloc ?_ _))), (by (repeat (with_reducible first | assumption | exact Blk.new' (by simp) | refine Blk.drew ?_ | refine Blk.alloc ?_ _ | exact ExtD.refl _ | refine ExtD.drew ?_ | refine ExtD.alloc ?_ _))), (by (repeat (with_reducible first | assumption | exact Blk.new' (by simp) | refine Blk.drew ?_ | refine Blk.alloc ?_ _ | exact ExtD.refl _ | refine ExtD.drew ?_ | refine ExtD.alloc ?_ _)))⟩ ?_
              repeat
                first
                  | (refine plan_quiet rfl rfl (fun _ _ _ _ h => h) ?_
                     apply Exists.intro
                     refine ⟨fun w' hw' => ?_, ?_⟩
                     · obtain ⟨hH0, hH1, hH2⟩ := hw'
                       unfold Blk at hH0 hH1
                       simp [go_sem, quietTo, World.cell?, hH0, hH1, ExtD.refl, ↓IntWalk.iteOmega, hm, i0]
                       first
                         | rfl
                         | (exact primesD_any _)
                     simp only [Act.put, List.setIfInBounds_toArray, List.set_cons_succ, List.set_cons_zero])
                  | (refine plan_skip rfl rfl (fun _ _ _ _ h => h) ?_
                     simp only [Act.put, List.setIfInBounds_toArray, List.set_cons_succ, List.set_cons_zero])
              refine plan_nil fun wr her hwr => ?_
              clear her
              obtain ⟨hH0, hH1, hH2⟩ := hwr
              obtain ⟨hC0, hF0⟩ := hH0.walk
              obtain ⟨hC1, hF1⟩ := hH1.walk
              simp only [List.drop_succ_cons, List.drop_zero, List.drop_nil]
              go_wp2
              go_roundw
              case rel => exact ⟨j + 1, .inr (by omega), by go_num, hH0.far (by simp) _, (hH1.set_ 1 _).cast (by rw [hq2.out]; rfl), (by (repeat (with_reducible first | assumption | exact ExtD.refl _ | refine ExtD.drew ?_ | refine ExtD.alloc ?_ _ | refine ExtD.setCell ?_ (by simp <;> omega) _ | refine ExtD.trans ?_ (by assumption))))⟩
              case measure => simp [intOf]; omega
            · have hje : j = (-(x.a)).toNat := by omega
              have hF' : Blk wr (w.heap.size + 1 + 1) 101 #[.int .i64 (qn x (0 + 1) : Nat), .int .i64 (qd x (0 + 1) : Nat)] := blk_cast2 hF rfl (by rw [hje]; rfl)
              clear hF hje hj
              go_wp2
              go_roundw
              case rel => exact ⟨_, by omega, by first | rfl | go_num, hR, hF', he⟩
              case measure => simp [intOf]
    · go_wp2
      go_loopw [21] (fun i w' => ∃ j : Nat, (j = 0 ∨ (j : Int) ≤ x.b) ∧ i = .int .i64 j ∧ Blk w' (w.heap.size + 1) 101 #[.int .i64 0, .int .i64 0] ∧ Blk w' (w.heap.size + 1 + 1) 101 #[.int .i64 (qn x 1 * 3 ^ j : Nat), .int .i64 (qd x 1 : Nat)] ∧ ExtD w w') (fun i _ => (x.b).toNat - (intOf i).toNat)
      case atStart => exact ⟨0, .inl rfl, rfl, hR, blk_cast2 hF (by simp) rfl, he⟩
      case round =>
        clear hR hF he
        obtain ⟨j, hj, rfl, hR, hF, he⟩ := hrel
        by_cases hlt : (j : Int) < x.b
        · have hp := qn_part hr 1 (j + 1) (by omega) (show j + 1 ≤ (x.b).toNat by omega)
          have hm : IntKind.i64.wrap (((qn x 1 * 3 ^ j : Nat) : Int) * 3) = ((qn x 1 * 3 ^ (j + 1) : Nat) : Int) := by
            have e : qn x 1 * 3 ^ (j + 1) = qn x 1 * 3 ^ j * 3 := by rw [Nat.pow_succ, Nat.mul_assoc]
            rw [e]
            change qn x 1 * 3 ^ (j + 1) ≤ _ at hp
            rw [e] at hp
            generalize qn x 1 * 3 ^ j = q at hp ⊢
            rw [IntWalk.i64_in _ (by omega)]
            omega
          clear hp
          generalize qn x 1 * 3 ^ j = q1 at hm hF
          obtain ⟨q2, hq2⟩ : ∃ q, qn x 1 * 3 ^ (j + 1) = q := ⟨_, rfl⟩
          rw [hq2] at hm
          replace hq2 := Lib.hid hq2
          go_wp2
          refine wp_region_planS [(0, true), (1, true), (2, true), (3, true), (4, true), (5, true), (6, true)] 7 (fun w' => Blk w' (w.heap.size + 1) 101 #[.int .i64 0, .int .i64 0] ∧ Blk w' (w.heap.size + 1 + 1) 101 #[.int .i64 q1, .int .i64 (qd x 1 : Nat)] ∧ ExtD w w') ExtD (by kernel_rfl) (by kernel_rfl) ExtD.refl (fun _ _ _ => ExtD.trans) (fun _ _ h he => ⟨h.1.ext he, h.2.1.ext he, h.2.2.trans he⟩) ⟨(by (repeat (with_reducible first | assumption | exact Blk.new' (by simp) | refine Blk.drew ?_ | refine Blk.alloc ?_ _ | exact ExtD.refl _ | refine ExtD.drew ?_ | refine ExtD.alloc ?_ _))), (by (repeat (with_reducible first | assumption | exact Blk.new' (by simp) | refine Blk.drew ?_ | refine Blk.alloc ?_ _ | exact ExtD.refl _ | refine ExtD.drew ?_ | refine ExtD.alloc ?_ _))), (by (repeat (with_reducible first | assumption | exact Blk.new' (by simp) | refine Blk.drew ?_ | refine Blk.alloc ?_ _ | exact ExtD.refl _ | refine ExtD.drew ?_ | refine ExtD.alloc ?_ _)))⟩ ?_
          repeat
            first
              | (refine plan_quiet rfl rfl (fun _ _ _ _ h => h) ?_
                 apply Exists.intro
                 refine ⟨fun w' hw' => ?_, ?_⟩
                 · obtain ⟨hH0, hH1, hH2⟩ := hw'
                   unfold Blk at hH0 hH1
                   simp [go_sem, quietTo, World.cell?, hH0, hH1, ExtD.refl, ↓IntWalk.iteOmega, hm, i1]
                   first
                     | rfl
                     | (exact primesD_any _)
                 simp only [Act.put, List.setIfInBounds_toArray, List.set_cons_succ, List.set_cons_zero])
              | (refine plan_skip rfl rfl (fun _ _ _ _ h => h) ?_
                 simp only [Act.put, List.setIfInBounds_toArray, List.set_cons_succ, List.set_cons_zero])
          refine plan_nil fun wr her hwr => ?_
          clear her
          obtain ⟨hH0, hH1, hH2⟩ := hwr
          obtain ⟨hC0, hF0⟩ := hH0.walk
          obtain ⟨hC1, hF1⟩ := hH1.walk
          simp only [List.drop_succ_cons, List.drop_zero, List.drop_nil]
          go_wp2
          go_roundw
          case rel => exact ⟨j + 1, .inr (by omega), by go_num, hH0.far (by simp) _, (hH1.set_ 0 _).cast (by rw [hq2.out]; rfl), (by (repeat (with_reducible first | assumption | exact ExtD.refl _ | refine ExtD.drew ?_ | refine ExtD.alloc ?_ _ | refine ExtD.setCell ?_ (by simp <;> omega) _ | refine ExtD.trans ?_ (by assumption))))⟩
          case measure => simp [intOf]; omega
        · have hje : j = (x.b).toNat := by omega
          have hF' : Blk wr (w.heap.size + 1 + 1) 101 #[.int .i64 (qn x (1 + 1) : Nat), .int .i64 (qd x 1 : Nat)] := blk_cast2 hF (by rw [hje]; rfl) rfl
          clear hF hje hj
          go_wp2
          go_loopw [33] (fun i w' => ∃ j : Nat, (j = 0 ∨ (j : Int) ≤ -(x.b)) ∧ i = .int .i64 j ∧ Blk w' (w.heap.size + 1) 101 #[.int .i64 0, .int .i64 0] ∧ Blk w' (w.heap.size + 1 + 1) 101 #[.int .i64 (qn x (1 + 1) : Nat), .int .i64 (qd x 1 * 3 ^ j : Nat)] ∧ ExtD w w') (fun i _ => (-(x.b)).toNat - (intOf i).toNat)
          case atStart => exact ⟨0, .inl rfl, rfl, hR, blk_cast2 hF' rfl (by simp), he⟩
          case round =>
            clear hR hF' he
            obtain ⟨j, hj, rfl, hR, hF, he⟩ := hrel
            by_cases hlt : (j : Int) < -(x.b)
            · have hp := qn_part (right_neg hr) 1 (j + 1) (by omega) (show j + 1 ≤ (-(x.b)).toNat by omega)
              change qd x 1 * 3 ^ (j + 1) ≤ _ at hp
              have hm : IntKind.i64.wrap (((qd x 1 * 3 ^ j : Nat) : Int) * 3) = ((qd x 1 * 3 ^ (j + 1) : Nat) : Int) := by
                have e : qd x 1 * 3 ^ (j + 1) = qd x 1 * 3 ^ j * 3 := by rw [Nat.pow_succ, Nat.mul_assoc]
                rw [e] at hp ⊢
                generalize qd x 1 * 3 ^ j = q at hp ⊢
                rw [IntWalk.i64_in _ (by omega)]
                omega
              clear hp
              generalize qd x 1 * 3 ^ j = q1 at hm hF
              obtain ⟨q2, hq2⟩ : ∃ q, qd x 1 * 3 ^ (j + 1) = q := ⟨_, rfl⟩
              rw [hq2] at hm
              replace hq2 := Lib.hid hq2
              go_wp2
              refine wp_region_planS [(0, true), (1, true), (2, true), (3, true), (4, true), (5, true), (6, true)] 7 (fun w' => Blk w' (w.heap.size + 1) 101 #[.int .i64 0, .int .i64 0] ∧ Blk w' (w.heap.size + 1 + 1) 101 #[.int .i64 (qn x (1 + 1) : Nat), .int .i64 q1] ∧ ExtD w w') ExtD (by kernel_rfl) (by kernel_rfl) ExtD.refl (fun _ _ _ => ExtD.trans) (fun _ _ h he => ⟨h.1.ext he, h.2.1.ext he, h.2.2.trans he⟩) ⟨(by (repeat (with_reducible first | assumption | exact Blk.new' (by simp) | refine Blk.drew ?_ | refine Blk.alloc ?_ _ | exact ExtD.refl _ | refine ExtD.drew ?_ | refine ExtD.alloc ?_ _))), (by (repeat (with_reducible first | assumption | exact Blk.new' (by simp) | refine Blk.drew ?_ | refine Blk.alloc ?_ _ | exact ExtD.refl _ | refine ExtD.drew ?_ | refine ExtD.alloc ?_ _))), (by (repeat (with_reducible first | assumption | exact Blk.new' (by simp) | refine Blk.drew ?_ | refine Blk.alloc ?_ _ | exact ExtD.refl _ | refine ExtD.drew ?_ | refine ExtD.alloc ?_ _)))⟩ ?_
              repeat
                first
                  | (refine plan_quiet rfl rfl (fun _ _ _ _ h => h) ?_
                     apply Exists.intro
                     refine ⟨fun w' hw' => ?_, ?_⟩
                     · obtain ⟨hH0, hH1, hH2⟩ := hw'
                       unfold Blk at hH0 hH1
                       simp [go_sem, quietTo, World.cell?, hH0, hH1, ExtD.refl, ↓IntWalk.iteOmega, hm, i1]
                       first
                         | rfl
                         | (exact primesD_any _)
                     simp only [Act.put, List.setIfInBounds_toArray, List.set_cons_succ, List.set_cons_zero])
                  | (refine plan_skip rfl rfl (fun _ _ _ _ h => h) ?_
                     simp only [Act.put, List.setIfInBounds_toArray, List.set_cons_succ, List.set_cons_zero])
              refine plan_nil fun wr her hwr => ?_
              clear her
              obtain ⟨hH0, hH1, hH2⟩ := hwr
              obtain ⟨hC0, hF0⟩ := hH0.walk
              obtain ⟨hC1, hF1⟩ := hH1.walk
              simp only [List.drop_succ_cons, List.drop_zero, List.drop_nil]
              go_wp2
              go_roundw
              case rel => exact ⟨j + 1, .inr (by omega), by go_num, hH0.far (by simp) _, (hH1.set_ 1 _).cast (by rw [hq2.out]; rfl), (by (repeat (with_reducible first | assumption | exact ExtD.refl _ | refine ExtD.drew ?_ | refine ExtD.alloc ?_ _ | refine ExtD.setCell ?_ (by simp <;> omega) _ | refine ExtD.trans ?_ (by assumption))))⟩
              case measure => simp [intOf]; omega
            · have hje : j = (-(x.b)).toNat := by omega
              have hF' : Blk wr (w.heap.size + 1 + 1) 101 #[.int .i64 (qn x (1 + 1) : Nat), .int .i64 (qd x (1 + 1) : Nat)] := blk_cast2 hF rfl (by rw [hje]; rfl)
              clear hF hje hj
              go_wp2
              go_roundw
              case rel => exact ⟨_, by omega, by first | rfl | go_num, hR, hF', he⟩
              case measure => simp [intOf]
    · go_wp2
      go_loopw [21] (fun i w' => ∃ j : Nat, (j = 0 ∨ (j : Int) ≤ x.c) ∧ i = .int .i64 j ∧ Blk w' (w.heap.size + 1) 101 #[.int .i64 0, .int .i64 0] ∧ Blk w' (w.heap.size + 1 + 1) 101 #[.int .i64 (qn x 2 * 5 ^ j : Nat), .int .i64 (qd x 2 : Nat)] ∧ ExtD w w') (fun i _ => (x.c).toNat - (intOf i).toNat)
      case atStart => exact ⟨0, .inl rfl, rfl, hR, blk_cast2 hF (by simp) rfl, he⟩
      case round =>
        clear hR hF he
        obtain ⟨j, hj, rfl, hR, hF, he⟩ := hrel
        by_cases hlt : (j : Int) < x.c
        · have hp := qn_part hr 2 (j + 1) (by omega) (show j + 1 ≤ (x.c).toNat by omega)
          have hm : IntKind.i64.wrap (((qn x 2 * 5 ^ j : Nat) : Int) * 5) = ((qn x 2 * 5 ^ (j + 1) : Nat) : Int) := by
            have e : qn x 2 * 5 ^ (j + 1) = qn x 2 * 5 ^ j * 5 := by rw [Nat.pow_succ, Nat.mul_assoc]
            rw [e]
            change qn x 2 * 5 ^ (j + 1) ≤ _ at hp
            rw [e] at hp
            generalize qn x 2 * 5 ^ j = q at hp ⊢
            rw [IntWalk.i64_in _ (by omega)]
            omega
          clear hp
          generalize qn x 2 * 5 ^ j = q1 at hm hF
          obtain ⟨q2, hq2⟩ : ∃ q, qn x 2 * 5 ^ (j + 1) = q := ⟨_, rfl⟩
          rw [hq2] at hm
          replace hq2 := Lib.hid hq2
          go_wp2
          refine wp_region_planS [(0, true), (1, true), (2, true), (3, true), (4, true), (5, true), (6, true)] 7 (fun w' => Blk w' (w.heap.size + 1) 101 #[.int .i64 0, .int .i64 0] ∧ Blk w' (w.heap.size + 1 + 1) 101 #[.int .i64 q1, .int .i64 (qd x 2 : Nat)] ∧ ExtD w w') ExtD (by kernel_rfl) (by kernel_rfl) ExtD.refl (fun _ _ _ => ExtD.trans) (fun _ _ h he => ⟨h.1.ext he, h.2.1.ext he, h.2.2.trans he⟩) ⟨(by (repeat (with_reducible first | assumption | exact Blk.new' (by simp) | refine Blk.drew ?_ | refine Blk.alloc ?_ _ | exact ExtD.refl _ | refine ExtD.drew ?_ | refine ExtD.alloc ?_ _))), (by (repeat (with_reducible first | assumption | exact Blk.new' (by simp) | refine Blk.drew ?_ | refine Blk.alloc ?_ _ | exact ExtD.refl _ | refine ExtD.drew ?_ | refine ExtD.alloc ?_ _))), (by (repeat (with_reducible first | assumption | exact Blk.new' (by simp) | refine Blk.drew ?_ | refine Blk.alloc ?_ _ | exact ExtD.refl _ | refine ExtD.drew ?_ | refine ExtD.alloc ?_ _)))⟩ ?_
          repeat
            first
              | (refine plan_quiet rfl rfl (fun _ _ _ _ h => h) ?_
                 apply Exists.intro
                 refine ⟨fun w' hw' => ?_, ?_⟩
                 · obtain ⟨hH0, hH1, hH2⟩ := hw'
                   unfold Blk at hH0 hH1
                   simp [go_sem, quietTo, World.cell?, hH0, hH1, ExtD.refl, ↓IntWalk.iteOmega, hm, i2]
                   first
                     | rfl
                     | (exact primesD_any _)
                 simp only [Act.put, List.setIfInBounds_toArray, List.set_cons_succ, List.set_cons_zero])
              | (refine plan_skip rfl rfl (fun _ _ _ _ h => h) ?_
                 simp only [Act.put, List.setIfInBounds_toArray, List.set_cons_succ, List.set_cons_zero])
          refine plan_nil fun wr her hwr => ?_
          clear her
          obtain ⟨hH0, hH1, hH2⟩ := hwr
          obtain ⟨hC0, hF0⟩ := hH0.walk
          obtain ⟨hC1, hF1⟩ := hH1.walk
          simp only [List.drop_succ_cons, List.drop_zero, List.drop_nil]
          go_wp2
          go_roundw
          case rel => exact ⟨j + 1, .inr (by omega), by go_num, hH0.far (by simp) _, (hH1.set_ 0 _).cast (by rw [hq2.out]; rfl), (by (repeat (with_reducible first | assumption | exact ExtD.refl _ | refine ExtD.drew ?_ | refine ExtD.alloc ?_ _ | refine ExtD.setCell ?_ (by simp <;> omega) _ | refine ExtD.trans ?_ (by assumption))))⟩
          case measure => simp [intOf]; omega
        · have hje : j = (x.c).toNat := by omega
          have hF' : Blk wr (w.heap.size + 1 + 1) 101 #[.int .i64 (qn x (2 + 1) : Nat), .int .i64 (qd x 2 : Nat)] := blk_cast2 hF (by rw [hje]; rfl) rfl
          clear hF hje hj
          go_wp2
          go_loopw [33] (fun i w' => ∃ j : Nat, (j = 0 ∨ (j : Int) ≤ -(x.c)) ∧ i = .int .i64 j ∧ Blk w' (w.heap.size + 1) 101 #[.int .i64 0, .int .i64 0] ∧ Blk w' (w.heap.size + 1 + 1) 101 #[.int .i64 (qn x (2 + 1) : Nat), .int .i64 (qd x 2 * 5 ^ j : Nat)] ∧ ExtD w w') (fun i _ => (-(x.c)).toNat - (intOf i).toNat)
          case atStart => exact ⟨0, .inl rfl, rfl, hR, blk_cast2 hF' rfl (by simp), he⟩
          case round =>
            clear hR hF' he
            obtain ⟨j, hj, rfl, hR, hF, he⟩ := hrel
            by_cases hlt : (j : Int) < -(x.c)
            · have hp := qn_part (right_neg hr) 2 (j + 1) (by omega) (show j + 1 ≤ (-(x.c)).toNat by omega)
              change qd x 2 * 5 ^ (j + 1) ≤ _ at hp
              have hm : IntKind.i64.wrap (((qd x 2 * 5 ^ j : Nat) : Int) * 5) = ((qd x 2 * 5 ^ (j + 1) : Nat) : Int) := by
                have e : qd x 2 * 5 ^ (j + 1) = qd x 2 * 5 ^ j * 5 := by rw [Nat.pow_succ, Nat.mul_assoc]
                rw [e] at hp ⊢
                generalize qd x 2 * 5 ^ j = q at hp ⊢
                rw [IntWalk.i64_in _ (by omega)]
                omega
              clear hp
              generalize qd x 2 * 5 ^ j = q1 at hm hF
              obtain ⟨q2, hq2⟩ : ∃ q, qd x 2 * 5 ^ (j + 1) = q := ⟨_, rfl⟩
              rw [hq2] at hm
              replace hq2 := Lib.hid hq2
              go_wp2
              refine wp_region_planS [(0, true), (1, true), (2, true), (3, true), (4, true), (5, true), (6, true)] 7 (fun w' => Blk w' (w.heap.size + 1) 101 #[.int .i64 0, .int .i64 0] ∧ Blk w' (w.heap.size + 1 + 1) 101 #[.int .i64 (qn x (2 + 1) : Nat), .int .i64 q1] ∧ ExtD w w') ExtD (by kernel_rfl) (by kernel_rfl) ExtD.refl (fun _ _ _ => ExtD.trans) (fun _ _ h he => ⟨h.1.ext he, h.2.1.ext he, h.2.2.trans he⟩) ⟨(by (repeat (with_reducible first | assumption | exact Blk.new' (by simp) | refine Blk.drew ?_ | refine Blk.alloc ?_ _ | exact ExtD.refl _ | refine ExtD.drew ?_ | refine ExtD.alloc ?_ _))), (by (repeat (with_reducible first | assumption | exact Blk.new' (by simp) | refine Blk.drew ?_ | refine Blk.alloc ?_ _ | exact ExtD.refl _ | refine ExtD.drew ?_ | refine ExtD.alloc ?_ _))), (by (repeat (with_reducible first | assumption | exact Blk.new' (by simp) | refine Blk.drew ?_ | refine Blk.alloc ?_ _ | exact ExtD.refl _ | refine ExtD.drew ?_ | refine ExtD.alloc ?_ _)))⟩ ?_
              repeat
                first
                  | (refine plan_quiet rfl rfl (fun _ _ _ _ h => h) ?_
                     apply Exists.intro
                     refine ⟨fun w' hw' => ?_, ?_⟩
                     · obtain ⟨hH0, hH1, hH2⟩ := hw'
                       unfold Blk at hH0 hH1
                       simp [go_sem, quietTo, World.cell?, hH0, hH1, ExtD.refl, ↓IntWalk.iteOmega, hm, i2]
                       first
                         | rfl
                         | (exact primesD_any _)
                     simp only [Act.put, List.setIfInBounds_toArray, List.set_cons_succ, List.set_cons_zero])
                  | (refine plan_skip rfl rfl (fun _ _ _ _ h => h) ?_
                     simp only [Act.put, List.setIfInBounds_toArray, List.set_cons_succ, List.set_cons_zero])
              refine plan_nil fun wr her hwr => ?_
              clear her
              obtain ⟨hH0, hH1, hH2⟩ := hwr
              obtain ⟨hC0, hF0⟩ := hH0.walk
              obtain ⟨hC1, hF1⟩ := hH1.walk
              simp only [List.drop_succ_cons, List.drop_zero, List.drop_nil]
              go_wp2
              go_roundw
              case rel => exact ⟨j + 1, .inr (by omega), by go_num, hH0.far (by simp) _, (hH1.set_ 1 _).cast (by rw [hq2.out]; rfl), (by (repeat (with_reducible first | assumption | exact ExtD.refl _ | refine ExtD.drew ?_ | refine ExtD.alloc ?_ _ | refine ExtD.setCell ?_ (by simp <;> omega) _ | refine ExtD.trans ?_ (by assumption))))⟩
              case measure => simp [intOf]; omega
            · have hje : j = (-(x.c)).toNat := by omega
              have hF' : Blk wr (w.heap.size + 1 + 1) 101 #[.int .i64 (qn x (2 + 1) : Nat), .int .i64 (qd x (2 + 1) : Nat)] := blk_cast2 hF rfl (by rw [hje]; rfl)
              clear hF hje hj
              go_wp2
              go_roundw
              case rel => exact ⟨_, by omega, by first | rfl | go_num, hR, hF', he⟩
              case measure => simp [intOf]
    · go_wp2
      go_loopw [21] (fun i w' => ∃ j : Nat, (j = 0 ∨ (j : Int) ≤ x.d) ∧ i = .int .i64 j ∧ Blk w' (w.heap.size + 1) 101 #[.int .i64 0, .int .i64 0] ∧ Blk w' (w.heap.size + 1 + 1) 101 #[.int .i64 (qn x 3 * 7 ^ j : Nat), .int .i64 (qd x 3 : Nat)] ∧ ExtD w w') (fun i _ => (x.d).toNat - (intOf i).toNat)
      case atStart => exact ⟨0, .inl rfl, rfl, hR, blk_cast2 hF (by simp) rfl, he⟩
      case round =>
        clear hR hF he
        obtain ⟨j, hj, rfl, hR, hF, he⟩ := hrel
        by_cases hlt : (j : Int) < x.d
        · have hp := qn_part hr 3 (j + 1) (by omega) (show j + 1 ≤ (x.d).toNat by omega)
          have hm : IntKind.i64.wrap (((qn x 3 * 7 ^ j : Nat) : Int) * 7) = ((qn x 3 * 7 ^ (j + 1) : Nat) : Int) := by
            have e : qn x 3 * 7 ^ (j + 1) = qn x 3 * 7 ^ j * 7 := by rw [Nat.pow_succ, Nat.mul_assoc]
            rw [e]
            change qn x 3 * 7 ^ (j + 1) ≤ _ at hp
            rw [e] at hp
            generalize qn x 3 * 7 ^ j = q at hp ⊢
            rw [IntWalk.i64_in _ (by omega)]
            omega
          clear hp
          generalize qn x 3 * 7 ^ j = q1 at hm hF
          obtain ⟨q2, hq2⟩ : ∃ q, qn x 3 * 7 ^ (j + 1) = q := ⟨_, rfl⟩
          rw [hq2] at hm
          replace hq2 := Lib.hid hq2
          go_wp2
          refine wp_region_planS [(0, true), (1, true), (2, true), (3, true), (4, true), (5, true), (6, true)] 7 (fun w' => Blk w' (w.heap.size + 1) 101 #[.int .i64 0, .int .i64 0] ∧ Blk w' (w.heap.size + 1 + 1) 101 #[.int .i64 q1, .int .i64 (qd x 3 : Nat)] ∧ ExtD w w') ExtD (by kernel_rfl) (by kernel_rfl) ExtD.refl (fun _ _ _ => ExtD.trans) (fun _ _ h he => ⟨h.1.ext he, h.2.1.ext he, h.2.2.trans he⟩) ⟨(by (repeat (with_reducible first | assumption | exact Blk.new' (by simp) | refine Blk.drew ?_ | refine Blk.alloc ?_ _ | exact ExtD.refl _ | refine ExtD.drew ?_ | refine ExtD.alloc ?_ _))), (by (repeat (with_reducible first | assumption | exact Blk.new' (by simp) | refine Blk.drew ?_ | refine Blk.alloc ?_ _ | exact ExtD.refl _ | refine ExtD.drew ?_ | refine ExtD.alloc ?_ _))), (by (repeat (with_reducible first | assumption | exact Blk.new' (by simp) | refine Blk.drew ?_ | refine Blk.alloc ?_ _ | exact ExtD.refl _ | refine ExtD.drew ?_ | refine ExtD.alloc ?_ _)))⟩ ?_
          repeat
            first
              | (refine plan_quiet rfl rfl (fun _ _ _ _ h => h) ?_
                 apply Exists.intro
                 refine ⟨fun w' hw' => ?_, ?_⟩
                 · obtain ⟨hH0, hH1, hH2⟩ := hw'
                   unfold Blk at hH0 hH1
                   simp [go_sem, quietTo, World.cell?, hH0, hH1, ExtD.refl, ↓IntWalk.iteOmega, hm, i3]
                   first
                     | rfl
                     | (exact primesD_any _)
                 simp only [Act.put, List.setIfInBounds_toArray, List.set_cons_succ, List.set_cons_zero])
              | (refine plan_skip rfl rfl (fun _ _ _ _ h => h) ?_
                 simp only [Act.put, List.setIfInBounds_toArray, List.set_cons_succ, List.set_cons_zero])
          refine plan_nil fun wr her hwr => ?_
          clear her
          obtain ⟨hH0, hH1, hH2⟩ := hwr
          obtain ⟨hC0, hF0⟩ := hH0.walk
          obtain ⟨hC1, hF1⟩ := hH1.walk
          simp only [List.drop_succ_cons, List.drop_zero, List.drop_nil]
          go_wp2
          go_roundw
          case rel => exact ⟨j + 1, .inr (by omega), by go_num, hH0.far (by simp) _, (hH1.set_ 0 _).cast (by rw [hq2.out]; rfl), (by (repeat (with_reducible first | assumption | exact ExtD.refl _ | refine ExtD.drew ?_ | refine ExtD.alloc ?_ _ | refine ExtD.setCell ?_ (by simp <;> omega) _ | refine ExtD.trans ?_ (by assumption))))⟩
          case measure => simp [intOf]; omega
        · have hje : j = (x.d).toNat := by omega
          have hF' : Blk wr (w.heap.size + 1 + 1) 101 #[.int .i64 (qn x (3 + 1) : Nat), .int .i64 (qd x 3 : Nat)] := blk_cast2 hF (by rw [hje]; rfl) rfl
          clear hF hje hj
          go_wp2
          go_loopw [33] (fun i w' => ∃ j : Nat, (j = 0 ∨ (j : Int) ≤ -(x.d)) ∧ i = .int .i64 j ∧ Blk w' (w.heap.size + 1) 101 #[.int .i64 0, .int .i64 0] ∧ Blk w' (w.heap.size + 1 + 1) 101 #[.int .i64 (qn x (3 + 1) : Nat), .int .i64 (qd x 3 * 7 ^ j : Nat)] ∧ ExtD w w') (fun i _ => (-(x.d)).toNat - (intOf i).toNat)
          case atStart => exact ⟨0, .inl rfl, rfl, hR, blk_cast2 hF' rfl (by simp), he⟩
          case round =>
            clear hR hF' he
            obtain ⟨j, hj, rfl, hR, hF, he⟩ := hrel
            by_cases hlt : (j : Int) < -(x.d)
            · have hp := qn_part (right_neg hr) 3 (j + 1) (by omega) (show j + 1 ≤ (-(x.d)).toNat by omega)
              change qd x 3 * 7 ^ (j + 1) ≤ _ at hp
              have hm : IntKind.i64.wrap (((qd x 3 * 7 ^ j : Nat) : Int) * 7) = ((qd x 3 * 7 ^ (j + 1) : Nat) : Int) := by
                have e : qd x 3 * 7 ^ (j + 1) = qd x 3 * 7 ^ j * 7 := by rw [Nat.pow_succ, Nat.mul_assoc]
                rw [e] at hp ⊢
                generalize qd x 3 * 7 ^ j = q at hp ⊢
                rw [IntWalk.i64_in _ (by omega)]
                omega
              clear hp
              generalize qd x 3 * 7 ^ j = q1 at hm hF
              obtain ⟨q2, hq2⟩ : ∃ q, qd x 3 * 7 ^ (j + 1) = q := ⟨_, rfl⟩
              rw [hq2] at hm
              replace hq2 := Lib.hid hq2
              go_wp2
              refine wp_region_planS [(0, true), (1, true), (2, true), (3, true), (4, true), (5, true), (6, true)] 7 (fun w' => Blk w' (w.heap.size + 1) 101 #[.int .i64 0, .int .i64 0] ∧ Blk w' (w.heap.size + 1 + 1) 101 #[.int .i64 (qn x (3 + 1) : Nat), .int .i64 q1] ∧ ExtD w w') ExtD (by kernel_rfl) (by kernel_rfl) ExtD.refl (fun _ _ _ => ExtD.trans) (fun _ _ h he => ⟨h.1.ext he, h.2.1.ext he, h.2.2.trans he⟩) ⟨(by (repeat (with_reducible first | assumption | exact Blk.new' (by simp) | refine Blk.drew ?_ | refine Blk.alloc ?_ _ | exact ExtD.refl _ | refine ExtD.drew ?_ | refine ExtD.alloc ?_ _))), (by (repeat (with_reducible first | assumption | exact Blk.new' (by simp) | refine Blk.drew ?_ | refine Blk.alloc ?_ _ | exact ExtD.refl _ | refine ExtD.drew ?_ | refine ExtD.alloc ?_ _))), (by (repeat (with_reducible first | assumption | exact Blk.new' (by simp) | refine Blk.drew ?_ | refine Blk.alloc ?_ _ | exact ExtD.refl _ | refine ExtD.drew ?_ | refine ExtD.alloc ?_ _)))⟩ ?_
              repeat
                first
                  | (refine plan_quiet rfl rfl (fun _ _ _ _ h => h) ?_
                     apply Exists.intro
                     refine ⟨fun w' hw' => ?_, ?_⟩
                     · obtain ⟨hH0, hH1, hH2⟩ := hw'
                       unfold Blk at hH0 hH1
                       simp [go_sem, quietTo, World.cell?, hH0, hH1, ExtD.refl, ↓IntWalk.iteOmega, hm, i3]
                       first
                         | rfl
                         | (exact primesD_any _)
                     simp only [Act.put, List.setIfInBounds_toArray, List.set_cons_succ, List.set_cons_zero])
                  | (refine plan_skip rfl rfl (fun _ _ _ _ h => h) ?_
                     simp only [Act.put, List.setIfInBounds_toArray, List.set_cons_succ, List.set_cons_zero])
              refine plan_nil fun wr her hwr => ?_
              clear her
              obtain ⟨hH0, hH1, hH2⟩ := hwr
              obtain ⟨hC0, hF0⟩ := hH0.walk
              obtain ⟨hC1, hF1⟩ := hH1.walk
              simp only [List.drop_succ_cons, List.drop_zero, List.drop_nil]
              go_wp2
              go_roundw
              case rel => exact ⟨j + 1, .inr (by omega), by go_num, hH0.far (by simp) _, (hH1.set_ 1 _).cast (by rw [hq2.out]; rfl), (by (repeat (with_reducible first | assumption | exact ExtD.refl _ | refine ExtD.drew ?_ | refine ExtD.alloc ?_ _ | refine ExtD.setCell ?_ (by simp <;> omega) _ | refine ExtD.trans ?_ (by assumption))))⟩
              case measure => simp [intOf]; omega
            · have hje : j = (-(x.d)).toNat := by omega
              have hF' : Blk wr (w.heap.size + 1 + 1) 101 #[.int .i64 (qn x (3 + 1) : Nat), .int .i64 (qd x (3 + 1) : Nat)] := blk_cast2 hF rfl (by rw [hje]; rfl)
              clear hF hje hj
              go_wp2
              go_roundw
              case rel => exact ⟨_, by omega, by first | rfl | go_num, hR, hF', he⟩
              case measure => simp [intOf]
end Go.Proofs.YtapjekpjekdlkaaGreatDoor
