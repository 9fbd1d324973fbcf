/- The quotient of an interval, by the reference's text. Conditions: the interval is right. -/
import Derived.Test.YtapjekpjekdlkaaGreatDoorRTuneF
set_option linter.unusedSimpArgs false
set_option linter.unusedVariables false
namespace Go.Proofs.YtapjekpjekdlkaaGreatDoor
open Go Go.RowKit

set_option maxRecDepth 100000 in
theorem refPrimesD_any (x : I4) (w : World) :
    Calls Tryz.prog 72 #[.agg #[.int .i64 x.a, .int .i64 x.b, .int .i64 x.c, .int .i64 x.d]] w fun e w' =>
      e = .returned (.agg #[.int .i64 2, .int .i64 x.a, .int .i64 3, .int .i64 x.b, .int .i64 5, .int .i64 x.c, .int .i64 7, .int .i64 x.d]) ∧ ExtD w w' := by
  go_enter Tryz.func72, Tryz.ntmps72
  go_wp2
  go_light
  exact bodyPost_ret (v := .agg #[.int .i64 2, .int .i64 x.a, .int .i64 3, .int .i64 x.b, .int .i64 5, .int .i64 x.c, .int .i64 7, .int .i64 x.d]) (by simp [results, Tryz.results72, go_sem]) rfl ⟨rfl, (by (repeat (with_reducible first | assumption | exact ExtD.refl _ | refine ExtD.drew ?_ | refine ExtD.alloc ?_ _ | refine ExtD.setCell ?_ (by simp <;> omega) _ | refine ExtD.trans ?_ (by assumption))))⟩
set_option maxRecDepth 100000 in
set_option maxHeartbeats 3200000 in
theorem quotientOfD_any (x : I4) (w : World) (hr : rightB x = true) :
    Calls Tryz.prog 57 #[.agg #[.int .i64 x.a, .int .i64 x.b, .int .i64 x.c, .int .i64 x.d]] w fun e w' =>
      e = .returned (.agg #[.int .i64 (qn x 4 : Nat), .int .i64 (qd x 4 : Nat)]) ∧ ExtD w w' := by
  have hb := right_bounds hr
  obtain ⟨⟨a1, a2⟩, ⟨b1, b2⟩, ⟨c1, c2⟩, ⟨d1, d2⟩⟩ := hb
  have i0 : ∀ w, (Instr.index 117 (.agg #[.int .i64 2, .int .i64 x.a, .int .i64 3, .int .i64 x.b, .int .i64 5, .int .i64 x.c, .int .i64 7, .int .i64 x.d]) (.int .i64 0)).run Tryz.prog w = .ok (.agg #[.int .i64 2, .int .i64 x.a]) w := fun _ => by kernel_rfl
  have i1 : ∀ w, (Instr.index 117 (.agg #[.int .i64 2, .int .i64 x.a, .int .i64 3, .int .i64 x.b, .int .i64 5, .int .i64 x.c, .int .i64 7, .int .i64 x.d]) (.int .i64 1)).run Tryz.prog w = .ok (.agg #[.int .i64 3, .int .i64 x.b]) w := fun _ => by kernel_rfl
  have i2 : ∀ w, (Instr.index 117 (.agg #[.int .i64 2, .int .i64 x.a, .int .i64 3, .int .i64 x.b, .int .i64 5, .int .i64 x.c, .int .i64 7, .int .i64 x.d]) (.int .i64 2)).run Tryz.prog w = .ok (.agg #[.int .i64 5, .int .i64 x.c]) w := fun _ => by kernel_rfl
  have i3 : ∀ w, (Instr.index 117 (.agg #[.int .i64 2, .int .i64 x.a, .int .i64 3, .int .i64 x.b, .int .i64 5, .int .i64 x.c, .int .i64 7, .int .i64 x.d]) (.int .i64 3)).run Tryz.prog w = .ok (.agg #[.int .i64 7, .int .i64 x.d]) w := fun _ => by kernel_rfl
  go_enter Tryz.func57, Tryz.ntmps57
  go_wp2_with (go_at_call 72; refine (refPrimesD_any x _).mono ?_; rintro e w1 ⟨rfl, hb1⟩)
  have hR1 : Blk w1 (w.heap.size + 1) 101 #[.int .i64 0, .int .i64 0] := Blk.ext (by (repeat (with_reducible first | assumption | exact Blk.new' (by simp) | refine Blk.drew ?_ | refine Blk.alloc ?_ _ | exact ExtD.refl _ | refine ExtD.drew ?_ | refine ExtD.alloc ?_ _))) hb1.e
  have hF1 : Blk w1 (w.heap.size + 1 + 1) 101 #[.int .i64 1, .int .i64 1] := Blk.ext (by (repeat (with_reducible first | assumption | exact Blk.new' (by simp) | refine Blk.drew ?_ | refine Blk.alloc ?_ _ | exact ExtD.refl _ | refine ExtD.drew ?_ | refine ExtD.alloc ?_ _))) hb1.e
  have he1 : ExtD w w1 := (by (repeat (with_reducible first | assumption | exact ExtD.refl _ | refine ExtD.drew ?_ | refine ExtD.alloc ?_ _ | refine ExtD.setCell ?_ (by simp <;> omega) _ | refine ExtD.trans ?_ (by assumption))))
  clear hb1
  go_loopw [9] (fun i w' => ∃ k : Nat, k ≤ 4 ∧ i = .int .i64 k ∧ Blk w' (w.heap.size + 1) 101 #[.int .i64 0, .int .i64 0] ∧ Blk w' (w.heap.size + 1 + 1) 101 #[.int .i64 (qn x k : Nat), .int .i64 (qd x k : Nat)] ∧ ExtD w w') (fun i _ => 4 - (intOf i).toNat)
  case atStart => exact ⟨0, by omega, rfl, hR1, hF1, he1⟩
  case round =>
    clear hR1 hF1 he1
    obtain ⟨k, hk, rfl, hR, hF, he⟩ := hrel
    have hk' : k = 0 ∨ k = 1 ∨ k = 2 ∨ k = 3 ∨ k = 4 := by omega
    rcases hk' with rfl | rfl | rfl | rfl | rfl
    case inr.inr.inr.inr =>
      clear i0 i1 i2 i3
      obtain ⟨r1, r2⟩ := hR.walk
      obtain ⟨s1, s2⟩ := hF.walk
      go_wp2
      go_light
      exact bodyPost_ret (v := .agg #[.int .i64 (qn x 4 : Nat), .int .i64 (qd x 4 : Nat)]) (by simp [results, Tryz.results57, go_sem, *]) rfl ⟨rfl, (by (repeat (with_reducible first | assumption | exact ExtD.refl _ | refine ExtD.drew ?_ | refine ExtD.alloc ?_ _ | refine ExtD.setCell ?_ (by simp <;> omega) _ | refine ExtD.trans ?_ (by assumption))))⟩
    · have hFl := hF.lt
      rcases (by omega : x.a < 0 ∨ (0 ≤ x.a ∧ x.a ≤ 0) ∨ 0 < x.a) with hs | ⟨hs, hs2⟩ | hs
      all_goals
        go_wp2
        have hP := Blk.new' (w := wr) (t := 116) (cs := #[.int .i64 2, .int .i64 x.a]) rfl
        have hR0 := hR.alloc (.cells #[.int .i64 2, .int .i64 x.a] 116)
        have hF0 := hF.alloc (.cells #[.int .i64 2, .int .i64 x.a] 116)
        have he0 := he.alloc (.cells #[.int .i64 2, .int .i64 x.a] 116)
        clear hR hF he
        generalize wr.alloc (.cells #[.int .i64 2, .int .i64 x.a] 116) = wa at hP hR0 hF0 he0 ⊢
        generalize wr.heap.size = B at hP hFl ⊢
        go_loopw [15] (fun i w' => ∃ j : Nat, (j = 0 ∨ (j : Int) ≤ x.a) ∧ i = .int .i64 j ∧ Blk w' (w.heap.size + 1) 101 #[.int .i64 0, .int .i64 0] ∧ Blk w' (w.heap.size + 1 + 1) 101 #[.int .i64 (qn x 0 * 2 ^ j : Nat), .int .i64 (qd x 0 : Nat)] ∧ Blk w' B 116 #[.int .i64 2, .int .i64 x.a] ∧ ExtD w w') (fun i _ => (x.a).toNat - (intOf i).toNat)
        case atStart => exact ⟨0, .inl rfl, rfl, hR0, blk_cast2 hF0 (by simp) rfl, hP, he0⟩
        case round =>
          clear hR0 hF0 he0 hP
          obtain ⟨j, hj, rfl, hR, hF, hP, he⟩ := hrel
          by_cases hlt : (j : Int) < x.a
          · have hp := qn_part hr 0 (j + 1) (by omega) (show j + 1 ≤ (x.a).toNat by omega)
            change qn x 0 * 2 ^ (j + 1) ≤ _ at hp
            have e : qn x 0 * 2 ^ (j + 1) = qn x 0 * 2 ^ j * 2 := by rw [Nat.pow_succ, Nat.mul_assoc]
            rw [e] at hp
            replace e := Lib.hid e
            generalize qn x 0 * 2 ^ j = q1 at hp e hF
            obtain ⟨s1, s2⟩ := hF.walk
            obtain ⟨t1, t2⟩ := hP.walk
            first
              | (exfalso; omega; done)
              | (go_wp2
                 go_roundw
                 case rel => exact ⟨j + 1, .inr (by omega), by go_num, hR.far (by simp) _, ((hF.set_ 0 _).cast (by rw [e.out]; exact congrArg (fun v : Int => #[Value.int .i64 v, Value.int .i64 (qd x 0 : Nat)]) (by omega))), hP.far (by simp; omega) _, (by (repeat (with_reducible first | assumption | exact ExtD.refl _ | refine ExtD.drew ?_ | refine ExtD.alloc ?_ _ | refine ExtD.setCell ?_ (by simp <;> omega) _ | refine ExtD.trans ?_ (by assumption))))⟩
                 case measure => simp [intOf]; omega)
          · have hje : j = (x.a).toNat := by omega
            have hF' : Blk wr (w.heap.size + 1 + 1) 101 #[.int .i64 (qn x (0 + 1) : Nat), .int .i64 (qd x 0 : Nat)] := blk_cast2 hF (by rw [hje]; rfl) rfl
            clear hF
            obtain ⟨t1, t2⟩ := hP.walk
            clear hje
            go_wp2
            clear t1 t2 hj hlt
            go_loopw [28] (fun i w' => ∃ j : Nat, (j = 0 ∨ (j : Int) ≤ -(x.a)) ∧ i = .int .i64 j ∧ Blk w' (w.heap.size + 1) 101 #[.int .i64 0, .int .i64 0] ∧ Blk w' (w.heap.size + 1 + 1) 101 #[.int .i64 (qn x (0 + 1) : Nat), .int .i64 (qd x 0 * 2 ^ j : Nat)] ∧ Blk w' B 116 #[.int .i64 2, .int .i64 x.a] ∧ ExtD w w') (fun i _ => (-(x.a)).toNat - (intOf i).toNat)
            case atStart => exact ⟨0, .inl rfl, rfl, hR, blk_cast2 hF' rfl (by simp), hP, he⟩
            case round =>
              clear hR hF' he hP
              obtain ⟨j, hj, rfl, hR, hF, hP, he⟩ := hrel
              by_cases hlt : (j : Int) < -(x.a)
              · have hp := qn_part (right_neg hr) 0 (j + 1) (by omega) (show j + 1 ≤ (-(x.a)).toNat by omega)
                change qd x 0 * 2 ^ (j + 1) ≤ _ at hp
                have e : qd x 0 * 2 ^ (j + 1) = qd x 0 * 2 ^ j * 2 := by rw [Nat.pow_succ, Nat.mul_assoc]
                rw [e] at hp
                replace e := Lib.hid e
                generalize qd x 0 * 2 ^ j = q1 at hp e hF
                obtain ⟨s1, s2⟩ := hF.walk
                obtain ⟨t1, t2⟩ := hP.walk
                first
                  | (exfalso; omega; done)
                  | (go_wp2
                     go_roundw
                     case rel => exact ⟨j + 1, .inr (by omega), by go_num, hR.far (by simp) _, ((hF.set_ 1 _).cast (by rw [e.out]; exact congrArg (fun v : Int => #[Value.int .i64 (qn x (0 + 1) : Nat), Value.int .i64 v]) (by omega))), hP.far (by simp; omega) _, (by (repeat (with_reducible first | assumption | exact ExtD.refl _ | refine ExtD.drew ?_ | refine ExtD.alloc ?_ _ | refine ExtD.setCell ?_ (by simp <;> omega) _ | refine ExtD.trans ?_ (by assumption))))⟩
                     case measure => simp [intOf]; omega)
              · have hje : j = (-(x.a)).toNat := by omega
                have hF' : Blk wr (w.heap.size + 1 + 1) 101 #[.int .i64 (qn x (0 + 1) : Nat), .int .i64 (qd x (0 + 1) : Nat)] := blk_cast2 hF rfl (by rw [hje]; rfl)
                clear hF hje
                go_wp2
                go_roundw
                case rel => exact ⟨_, by omega, by first | rfl | go_num, hR, hF', he⟩
                case measure => simp [intOf]
    · have hFl := hF.lt
      rcases (by omega : x.b < 0 ∨ (0 ≤ x.b ∧ x.b ≤ 0) ∨ 0 < x.b) with hs | ⟨hs, hs2⟩ | hs
      all_goals
        go_wp2
        have hP := Blk.new' (w := wr) (t := 116) (cs := #[.int .i64 3, .int .i64 x.b]) rfl
        have hR0 := hR.alloc (.cells #[.int .i64 3, .int .i64 x.b] 116)
        have hF0 := hF.alloc (.cells #[.int .i64 3, .int .i64 x.b] 116)
        have he0 := he.alloc (.cells #[.int .i64 3, .int .i64 x.b] 116)
        clear hR hF he
        generalize wr.alloc (.cells #[.int .i64 3, .int .i64 x.b] 116) = wa at hP hR0 hF0 he0 ⊢
        generalize wr.heap.size = B at hP hFl ⊢
        go_loopw [15] (fun i w' => ∃ j : Nat, (j = 0 ∨ (j : Int) ≤ x.b) ∧ i = .int .i64 j ∧ Blk w' (w.heap.size + 1) 101 #[.int .i64 0, .int .i64 0] ∧ Blk w' (w.heap.size + 1 + 1) 101 #[.int .i64 (qn x 1 * 3 ^ j : Nat), .int .i64 (qd x 1 : Nat)] ∧ Blk w' B 116 #[.int .i64 3, .int .i64 x.b] ∧ ExtD w w') (fun i _ => (x.b).toNat - (intOf i).toNat)
        case atStart => exact ⟨0, .inl rfl, rfl, hR0, blk_cast2 hF0 (by simp) rfl, hP, he0⟩
        case round =>
          clear hR0 hF0 he0 hP
          obtain ⟨j, hj, rfl, hR, hF, hP, he⟩ := hrel
          by_cases hlt : (j : Int) < x.b
          · have hp := qn_part hr 1 (j + 1) (by omega) (show j + 1 ≤ (x.b).toNat by omega)
            change qn x 1 * 3 ^ (j + 1) ≤ _ at hp
            have e : qn x 1 * 3 ^ (j + 1) = qn x 1 * 3 ^ j * 3 := by rw [Nat.pow_succ, Nat.mul_assoc]
            rw [e] at hp
            replace e := Lib.hid e
            generalize qn x 1 * 3 ^ j = q1 at hp e hF
            obtain ⟨s1, s2⟩ := hF.walk
            obtain ⟨t1, t2⟩ := hP.walk
            first
              | (exfalso; omega; done)
              | (go_wp2
                 go_roundw
                 case rel => exact ⟨j + 1, .inr (by omega), by go_num, hR.far (by simp) _, ((hF.set_ 0 _).cast (by rw [e.out]; exact congrArg (fun v : Int => #[Value.int .i64 v, Value.int .i64 (qd x 1 : Nat)]) (by omega))), hP.far (by simp; omega) _, (by (repeat (with_reducible first | assumption | exact ExtD.refl _ | refine ExtD.drew ?_ | refine ExtD.alloc ?_ _ | refine ExtD.setCell ?_ (by simp <;> omega) _ | refine ExtD.trans ?_ (by assumption))))⟩
                 case measure => simp [intOf]; omega)
          · have hje : j = (x.b).toNat := by omega
            have hF' : Blk wr (w.heap.size + 1 + 1) 101 #[.int .i64 (qn x (1 + 1) : Nat), .int .i64 (qd x 1 : Nat)] := blk_cast2 hF (by rw [hje]; rfl) rfl
            clear hF
            obtain ⟨t1, t2⟩ := hP.walk
            clear hje
            go_wp2
            clear t1 t2 hj hlt
            go_loopw [28] (fun i w' => ∃ j : Nat, (j = 0 ∨ (j : Int) ≤ -(x.b)) ∧ i = .int .i64 j ∧ Blk w' (w.heap.size + 1) 101 #[.int .i64 0, .int .i64 0] ∧ Blk w' (w.heap.size + 1 + 1) 101 #[.int .i64 (qn x (1 + 1) : Nat), .int .i64 (qd x 1 * 3 ^ j : Nat)] ∧ Blk w' B 116 #[.int .i64 3, .int .i64 x.b] ∧ ExtD w w') (fun i _ => (-(x.b)).toNat - (intOf i).toNat)
            case atStart => exact ⟨0, .inl rfl, rfl, hR, blk_cast2 hF' rfl (by simp), hP, he⟩
            case round =>
              clear hR hF' he hP
              obtain ⟨j, hj, rfl, hR, hF, hP, he⟩ := hrel
              by_cases hlt : (j : Int) < -(x.b)
              · have hp := qn_part (right_neg hr) 1 (j + 1) (by omega) (show j + 1 ≤ (-(x.b)).toNat by omega)
                change qd x 1 * 3 ^ (j + 1) ≤ _ at hp
                have e : qd x 1 * 3 ^ (j + 1) = qd x 1 * 3 ^ j * 3 := by rw [Nat.pow_succ, Nat.mul_assoc]
                rw [e] at hp
                replace e := Lib.hid e
                generalize qd x 1 * 3 ^ j = q1 at hp e hF
                obtain ⟨s1, s2⟩ := hF.walk
                obtain ⟨t1, t2⟩ := hP.walk
                first
                  | (exfalso; omega; done)
                  | (go_wp2
                     go_roundw
                     case rel => exact ⟨j + 1, .inr (by omega), by go_num, hR.far (by simp) _, ((hF.set_ 1 _).cast (by rw [e.out]; exact congrArg (fun v : Int => #[Value.int .i64 (qn x (1 + 1) : Nat), Value.int .i64 v]) (by omega))), hP.far (by simp; omega) _, (by (repeat (with_reducible first | assumption | exact ExtD.refl _ | refine ExtD.drew ?_ | refine ExtD.alloc ?_ _ | refine ExtD.setCell ?_ (by simp <;> omega) _ | refine ExtD.trans ?_ (by assumption))))⟩
                     case measure => simp [intOf]; omega)
              · have hje : j = (-(x.b)).toNat := by omega
                have hF' : Blk wr (w.heap.size + 1 + 1) 101 #[.int .i64 (qn x (1 + 1) : Nat), .int .i64 (qd x (1 + 1) : Nat)] := blk_cast2 hF rfl (by rw [hje]; rfl)
                clear hF hje
                go_wp2
                go_roundw
                case rel => exact ⟨_, by omega, by first | rfl | go_num, hR, hF', he⟩
                case measure => simp [intOf]
    · have hFl := hF.lt
      rcases (by omega : x.c < 0 ∨ (0 ≤ x.c ∧ x.c ≤ 0) ∨ 0 < x.c) with hs | ⟨hs, hs2⟩ | hs
      all_goals
        go_wp2
        have hP := Blk.new' (w := wr) (t := 116) (cs := #[.int .i64 5, .int .i64 x.c]) rfl
        have hR0 := hR.alloc (.cells #[.int .i64 5, .int .i64 x.c] 116)
        have hF0 := hF.alloc (.cells #[.int .i64 5, .int .i64 x.c] 116)
        have he0 := he.alloc (.cells #[.int .i64 5, .int .i64 x.c] 116)
        clear hR hF he
        generalize wr.alloc (.cells #[.int .i64 5, .int .i64 x.c] 116) = wa at hP hR0 hF0 he0 ⊢
        generalize wr.heap.size = B at hP hFl ⊢
        go_loopw [15] (fun i w' => ∃ j : Nat, (j = 0 ∨ (j : Int) ≤ x.c) ∧ i = .int .i64 j ∧ Blk w' (w.heap.size + 1) 101 #[.int .i64 0, .int .i64 0] ∧ Blk w' (w.heap.size + 1 + 1) 101 #[.int .i64 (qn x 2 * 5 ^ j : Nat), .int .i64 (qd x 2 : Nat)] ∧ Blk w' B 116 #[.int .i64 5, .int .i64 x.c] ∧ ExtD w w') (fun i _ => (x.c).toNat - (intOf i).toNat)
        case atStart => exact ⟨0, .inl rfl, rfl, hR0, blk_cast2 hF0 (by simp) rfl, hP, he0⟩
        case round =>
          clear hR0 hF0 he0 hP
          obtain ⟨j, hj, rfl, hR, hF, hP, he⟩ := hrel
          by_cases hlt : (j : Int) < x.c
          · have hp := qn_part hr 2 (j + 1) (by omega) (show j + 1 ≤ (x.c).toNat by omega)
            change qn x 2 * 5 ^ (j + 1) ≤ _ at hp
            have e : qn x 2 * 5 ^ (j + 1) = qn x 2 * 5 ^ j * 5 := by rw [Nat.pow_succ, Nat.mul_assoc]
            rw [e] at hp
            replace e := Lib.hid e
            generalize qn x 2 * 5 ^ j = q1 at hp e hF
            obtain ⟨s1, s2⟩ := hF.walk
            obtain ⟨t1, t2⟩ := hP.walk
            first
              | (exfalso; omega; done)
              | (go_wp2
                 go_roundw
                 case rel => exact ⟨j + 1, .inr (by omega), by go_num, hR.far (by simp) _, ((hF.set_ 0 _).cast (by rw [e.out]; exact congrArg (fun v : Int => #[Value.int .i64 v, Value.int .i64 (qd x 2 : Nat)]) (by omega))), hP.far (by simp; omega) _, (by (repeat (with_reducible first | assumption | exact ExtD.refl _ | refine ExtD.drew ?_ | refine ExtD.alloc ?_ _ | refine ExtD.setCell ?_ (by simp <;> omega) _ | refine ExtD.trans ?_ (by assumption))))⟩
                 case measure => simp [intOf]; omega)
          · have hje : j = (x.c).toNat := by omega
            have hF' : Blk wr (w.heap.size + 1 + 1) 101 #[.int .i64 (qn x (2 + 1) : Nat), .int .i64 (qd x 2 : Nat)] := blk_cast2 hF (by rw [hje]; rfl) rfl
            clear hF
            obtain ⟨t1, t2⟩ := hP.walk
            clear hje
            go_wp2
            clear t1 t2 hj hlt
            go_loopw [28] (fun i w' => ∃ j : Nat, (j = 0 ∨ (j : Int) ≤ -(x.c)) ∧ i = .int .i64 j ∧ Blk w' (w.heap.size + 1) 101 #[.int .i64 0, .int .i64 0] ∧ Blk w' (w.heap.size + 1 + 1) 101 #[.int .i64 (qn x (2 + 1) : Nat), .int .i64 (qd x 2 * 5 ^ j : Nat)] ∧ Blk w' B 116 #[.int .i64 5, .int .i64 x.c] ∧ ExtD w w') (fun i _ => (-(x.c)).toNat - (intOf i).toNat)
            case atStart => exact ⟨0, .inl rfl, rfl, hR, blk_cast2 hF' rfl (by simp), hP, he⟩
            case round =>
              clear hR hF' he hP
              obtain ⟨j, hj, rfl, hR, hF, hP, he⟩ := hrel
              by_cases hlt : (j : Int) < -(x.c)
              · have hp := qn_part (right_neg hr) 2 (j + 1) (by omega) (show j + 1 ≤ (-(x.c)).toNat by omega)
                change qd x 2 * 5 ^ (j + 1) ≤ _ at hp
                have e : qd x 2 * 5 ^ (j + 1) = qd x 2 * 5 ^ j * 5 := by rw [Nat.pow_succ, Nat.mul_assoc]
                rw [e] at hp
                replace e := Lib.hid e
                generalize qd x 2 * 5 ^ j = q1 at hp e hF
                obtain ⟨s1, s2⟩ := hF.walk
                obtain ⟨t1, t2⟩ := hP.walk
                first
                  | (exfalso; omega; done)
                  | (go_wp2
                     go_roundw
                     case rel => exact ⟨j + 1, .inr (by omega), by go_num, hR.far (by simp) _, ((hF.set_ 1 _).cast (by rw [e.out]; exact congrArg (fun v : Int => #[Value.int .i64 (qn x (2 + 1) : Nat), Value.int .i64 v]) (by omega))), hP.far (by simp; omega) _, (by (repeat (with_reducible first | assumption | exact ExtD.refl _ | refine ExtD.drew ?_ | refine ExtD.alloc ?_ _ | refine ExtD.setCell ?_ (by simp <;> omega) _ | refine ExtD.trans ?_ (by assumption))))⟩
                     case measure => simp [intOf]; omega)
              · have hje : j = (-(x.c)).toNat := by omega
                have hF' : Blk wr (w.heap.size + 1 + 1) 101 #[.int .i64 (qn x (2 + 1) : Nat), .int .i64 (qd x (2 + 1) : Nat)] := blk_cast2 hF rfl (by rw [hje]; rfl)
                clear hF hje
                go_wp2
                go_roundw
                case rel => exact ⟨_, by omega, by first | rfl | go_num, hR, hF', he⟩
                case measure => simp [intOf]
    · have hFl := hF.lt
      rcases (by omega : x.d < 0 ∨ (0 ≤ x.d ∧ x.d ≤ 0) ∨ 0 < x.d) with hs | ⟨hs, hs2⟩ | hs
      all_goals
        go_wp2
        have hP := Blk.new' (w := wr) (t := 116) (cs := #[.int .i64 7, .int .i64 x.d]) rfl
        have hR0 := hR.alloc (.cells #[.int .i64 7, .int .i64 x.d] 116)
        have hF0 := hF.alloc (.cells #[.int .i64 7, .int .i64 x.d] 116)
        have he0 := he.alloc (.cells #[.int .i64 7, .int .i64 x.d] 116)
        clear hR hF he
        generalize wr.alloc (.cells #[.int .i64 7, .int .i64 x.d] 116) = wa at hP hR0 hF0 he0 ⊢
        generalize wr.heap.size = B at hP hFl ⊢
        go_loopw [15] (fun i w' => ∃ j : Nat, (j = 0 ∨ (j : Int) ≤ x.d) ∧ i = .int .i64 j ∧ Blk w' (w.heap.size + 1) 101 #[.int .i64 0, .int .i64 0] ∧ Blk w' (w.heap.size + 1 + 1) 101 #[.int .i64 (qn x 3 * 7 ^ j : Nat), .int .i64 (qd x 3 : Nat)] ∧ Blk w' B 116 #[.int .i64 7, .int .i64 x.d] ∧ ExtD w w') (fun i _ => (x.d).toNat - (intOf i).toNat)
        case atStart => exact ⟨0, .inl rfl, rfl, hR0, blk_cast2 hF0 (by simp) rfl, hP, he0⟩
        case round =>
          clear hR0 hF0 he0 hP
          obtain ⟨j, hj, rfl, hR, hF, hP, he⟩ := hrel
          by_cases hlt : (j : Int) < x.d
          · have hp := qn_part hr 3 (j + 1) (by omega) (show j + 1 ≤ (x.d).toNat by omega)
            change qn x 3 * 7 ^ (j + 1) ≤ _ at hp
            have e : qn x 3 * 7 ^ (j + 1) = qn x 3 * 7 ^ j * 7 := by rw [Nat.pow_succ, Nat.mul_assoc]
            rw [e] at hp
            replace e := Lib.hid e
            generalize qn x 3 * 7 ^ j = q1 at hp e hF
            obtain ⟨s1, s2⟩ := hF.walk
            obtain ⟨t1, t2⟩ := hP.walk
            first
              | (exfalso; omega; done)
              | (go_wp2
                 go_roundw
                 case rel => exact ⟨j + 1, .inr (by omega), by go_num, hR.far (by simp) _, ((hF.set_ 0 _).cast (by rw [e.out]; exact congrArg (fun v : Int => #[Value.int .i64 v, Value.int .i64 (qd x 3 : Nat)]) (by omega))), hP.far (by simp; omega) _, (by (repeat (with_reducible first | assumption | exact ExtD.refl _ | refine ExtD.drew ?_ | refine ExtD.alloc ?_ _ | refine ExtD.setCell ?_ (by simp <;> omega) _ | refine ExtD.trans ?_ (by assumption))))⟩
                 case measure => simp [intOf]; omega)
          · have hje : j = (x.d).toNat := by omega
            have hF' : Blk wr (w.heap.size + 1 + 1) 101 #[.int .i64 (qn x (3 + 1) : Nat), .int .i64 (qd x 3 : Nat)] := blk_cast2 hF (by rw [hje]; rfl) rfl
            clear hF
            obtain ⟨t1, t2⟩ := hP.walk
            clear hje
            go_wp2
            clear t1 t2 hj hlt
            go_loopw [28] (fun i w' => ∃ j : Nat, (j = 0 ∨ (j : Int) ≤ -(x.d)) ∧ i = .int .i64 j ∧ Blk w' (w.heap.size + 1) 101 #[.int .i64 0, .int .i64 0] ∧ Blk w' (w.heap.size + 1 + 1) 101 #[.int .i64 (qn x (3 + 1) : Nat), .int .i64 (qd x 3 * 7 ^ j : Nat)] ∧ Blk w' B 116 #[.int .i64 7, .int .i64 x.d] ∧ ExtD w w') (fun i _ => (-(x.d)).toNat - (intOf i).toNat)
            case atStart => exact ⟨0, .inl rfl, rfl, hR, blk_cast2 hF' rfl (by simp), hP, he⟩
            case round =>
              clear hR hF' he hP
              obtain ⟨j, hj, rfl, hR, hF, hP, he⟩ := hrel
              by_cases hlt : (j : Int) < -(x.d)
              · have hp := qn_part (right_neg hr) 3 (j + 1) (by omega) (show j + 1 ≤ (-(x.d)).toNat by omega)
                change qd x 3 * 7 ^ (j + 1) ≤ _ at hp
                have e : qd x 3 * 7 ^ (j + 1) = qd x 3 * 7 ^ j * 7 := by rw [Nat.pow_succ, Nat.mul_assoc]
                rw [e] at hp
                replace e := Lib.hid e
                generalize qd x 3 * 7 ^ j = q1 at hp e hF
                obtain ⟨s1, s2⟩ := hF.walk
                obtain ⟨t1, t2⟩ := hP.walk
                first
                  | (exfalso; omega; done)
                  | (go_wp2
                     go_roundw
                     case rel => exact ⟨j + 1, .inr (by omega), by go_num, hR.far (by simp) _, ((hF.set_ 1 _).cast (by rw [e.out]; exact congrArg (fun v : Int => #[Value.int .i64 (qn x (3 + 1) : Nat), Value.int .i64 v]) (by omega))), hP.far (by simp; omega) _, (by (repeat (with_reducible first | assumption | exact ExtD.refl _ | refine ExtD.drew ?_ | refine ExtD.alloc ?_ _ | refine ExtD.setCell ?_ (by simp <;> omega) _ | refine ExtD.trans ?_ (by assumption))))⟩
                     case measure => simp [intOf]; omega)
              · have hje : j = (-(x.d)).toNat := by omega
                have hF' : Blk wr (w.heap.size + 1 + 1) 101 #[.int .i64 (qn x (3 + 1) : Nat), .int .i64 (qd x (3 + 1) : Nat)] := blk_cast2 hF rfl (by rw [hje]; rfl)
                clear hF hje
                go_wp2
                go_roundw
                case rel => exact ⟨_, by omega, by first | rfl | go_num, hR, hF', he⟩
                case measure => simp [intOf]
end Go.Proofs.YtapjekpjekdlkaaGreatDoor
