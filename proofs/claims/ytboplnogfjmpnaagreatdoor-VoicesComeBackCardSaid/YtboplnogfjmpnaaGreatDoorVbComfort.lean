/- The comfort of a part for a range, by voice. Conditions: none. -/
import Derived.Test.YtboplnogfjmpnaaGreatDoorVbKit
import Derived.Outline
set_option linter.unusedSimpArgs false
set_option linter.unusedVariables false
namespace Go.Proofs.YtboplnogfjmpnaaGreatDoor
open Go Go.RowKit

def rightR (lo hi : Int) : Bool := !outB lo 0 hi && decide (hi ≤ 127)
def comfN (a b c d : Int) : Int := min (c - a) (b - d)

set_option maxRecDepth 100000 in
theorem isRight_any (lo hi : Int) (w : World) :
    Calls Tryz.prog 68 #[.agg #[.int .i64 lo, .int .i64 hi]] w fun e w' => e = .returned (.bool (rightR lo hi)) ∧ Ext w w' := by
  have hR : rightR lo hi = (!outB lo 0 hi && decide (hi ≤ 127)) := rfl
  replace hR := Lib.hid hR
  cases ho : outB lo 0 hi
  all_goals
    go_enter Tryz.func68, Tryz.ntmps68
    go_wp2_with (go_at_call 70; refine (outside_any _ _ _ _).mono ?_; rintro e w' ⟨rfl, rfl⟩)
    go_ret
    exact ⟨ret_bool (by rw [hR.out]; simp [*]), by (repeat (with_reducible first | assumption | exact Ext.refl _ | refine Ext.drew ?_ | refine Ext.alloc ?_ _ | refine Ext.setCell ?_ (by simp <;> omega) _ | refine Ext.trans ?_ (by assumption)))⟩

theorem right_b {lo hi : Int} (h : rightR lo hi = true) : 0 ≤ lo ∧ lo ≤ hi ∧ hi ≤ 127 := by
  unfold rightR outB at h
  simp at h
  omega

set_option maxRecDepth 100000 in
theorem comfort_any (a b c d : Int) (w : World) (h1 : rightR a b = true) (h2 : rightR c d = true) :
    Calls Tryz.prog 69 #[.agg #[.int .i64 a, .int .i64 b], .agg #[.int .i64 c, .int .i64 d]] w fun e w' => e = .returned (.int .i64 (comfN a b c d)) ∧ Ext w w' := by
  have b1 := right_b h1
  have b2 := right_b h2
  have hC : comfN a b c d = min (c - a) (b - d) := rfl
  replace hC := Lib.hid hC
  go_enter Tryz.func69, Tryz.ntmps69
  go_wp2
  all_goals
    go_ret
    exact ⟨ret_int (by rw [hC.out]; first | rfl | omega), by (repeat (with_reducible first | assumption | exact Ext.refl _ | refine Ext.drew ?_ | refine Ext.alloc ?_ _ | refine Ext.setCell ?_ (by simp <;> omega) _ | refine Ext.trans ?_ (by assumption)))⟩

set_option maxRecDepth 100000 in
theorem Comfort_any (a b c d : Int) (w : World) :
    Calls Tryz.prog 39 #[.agg #[.int .i64 a, .int .i64 b], .agg #[.int .i64 c, .int .i64 d]] w fun e w' =>
      e = .returned (if rightR a b && rightR c d then .tuple #[.int .i64 (max (comfN a b c d) 0), .bool (decide (0 ≤ comfN a b c d)), .int .i64 0] else .tuple #[.int .i64 0, .bool false, .int .i64 1]) ∧ Ext w w' := by
  cases h1 : rightR a b
  case' true => cases h2 : rightR c d
  case true.true =>
    have b1 := right_b h1
    have b2 := right_b h2
    have hC : comfN a b c d = min (c - a) (b - d) := rfl
    have hb : -1000 ≤ comfN a b c d ∧ comfN a b c d ≤ 1000 := by rw [hC]; omega
    clear hC
    have hc := comfort_any a b c d
    generalize comfN a b c d = n at hb hc ⊢
    have hm : max n 0 = if n < 0 then 0 else n := by split <;> omega
    replace hm := Lib.hid hm
    replace hc := Lib.hid hc
    simp only [Bool.and_self, if_true]
    go_enter Tryz.func39, Tryz.ntmps39
    go_wp2_with (first
      | (go_at_call 68; with_reducible refine Calls.mono (isRight_any a b _) ?_; rintro e w1 ⟨rfl, hb1⟩; obtain ⟨hc1, hf1, hz1⟩ := hb1.walk; (try simp only [World.size_alloc] at hz1); have lt1 : w.heap.size < w1.heap.size := (by omega); have lt2 : w.heap.size + 1 < w1.heap.size := (by omega))
      | (go_at_call 68; with_reducible refine Calls.mono (isRight_any c d _) ?_; rintro e w2 ⟨rfl, hb2⟩; obtain ⟨hc2, hf2, hz2⟩ := hb2.walk; (try simp only [World.size_alloc] at hz2))
      | (go_at_call 69; with_reducible refine Calls.mono (hc.out _ h1 h2) ?_; rintro e w3 ⟨rfl, hb3⟩))
    all_goals
      go_ret3
      refine ⟨?_, by (repeat (with_reducible first | assumption | exact Ext.refl _ | refine Ext.drew ?_ | refine Ext.alloc ?_ _ | refine Ext.setCell ?_ (by simp <;> omega) _ | refine Ext.trans ?_ (by assumption)))⟩
      have e1 : ∀ (x y : Int) (p q : Bool), x = y → p = q → Ending.returned (.tuple #[.int .i64 x, .bool p, .int .i64 0]) = .returned (.tuple #[.int .i64 y, .bool q, .int .i64 0]) := fun _ _ _ _ h h' => by rw [h, h']
      exact e1 _ _ _ _ (by rw [hm.out]; split <;> omega) (by simp <;> omega)
  all_goals
    simp only [Bool.and_false, Bool.false_and, Bool.and_self, Bool.false_eq_true, if_false, if_true]
    go_enter Tryz.func39, Tryz.ntmps39
    go_wp2_with (first
      | (go_at_call 68; with_reducible refine Calls.mono (isRight_any a b _) ?_; rintro e w1 ⟨rfl, hb1⟩; obtain ⟨hc1, hf1, hz1⟩ := hb1.walk; (try simp only [World.size_alloc] at hz1); have lt1 : w.heap.size < w1.heap.size := (by omega); have lt2 : w.heap.size + 1 < w1.heap.size := (by omega))
      | (go_at_call 68; with_reducible refine Calls.mono (isRight_any c d _) ?_; rintro e w2 ⟨rfl, hb2⟩; obtain ⟨hc2, hf2, hz2⟩ := hb2.walk; (try simp only [World.size_alloc] at hz2)))
    go_ret3
    exact ⟨rfl, by (repeat (with_reducible first | assumption | exact Ext.refl _ | refine Ext.drew ?_ | refine Ext.alloc ?_ _ | refine Ext.setCell ?_ (by simp <;> omega) _ | refine Ext.trans ?_ (by assumption)))⟩
end Go.Proofs.YtboplnogfjmpnaaGreatDoor
