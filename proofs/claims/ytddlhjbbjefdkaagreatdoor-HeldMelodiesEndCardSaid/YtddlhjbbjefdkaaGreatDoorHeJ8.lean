/- The greatest common divisor, how often a prime is in a number, by both texts. Conditions: as each theorem says. All that was there stands, and no fewer questions were drawn: what a comparison within a sort leaves. Conditions: none. The interval of a quotient, by both texts. Conditions: as each theorem says. The comfort of a part for a range, by voice. Conditions: none. -/
import Derived.Test.YtddlhjbbjefdkaaGreatDoorHeJ5
import Derived.Test.YtddlhjbbjefdkaaGreatDoorHeJ2
import Derived.Sort.Grow
import Derived.Test.YtddlhjbbjefdkaaGreatDoorHeMathA
import Derived.Outline
set_option linter.unusedSimpArgs false
set_option linter.unusedVariables false
namespace Go.Proofs.YtddlhjbbjefdkaaGreatDoor
open Go Go.RowKit

end Go.Proofs.YtddlhjbbjefdkaaGreatDoor

namespace Go.Proofs.YtddlhjbbjefdkaaGreatDoor
open Go Go.RowKit Go.Sort

/-- As Ext, with what was drawn. -/
structure ExtD (w w' : World) : Prop where
  e : Ext w w'
  d : w.drawn ≤ w'.drawn
instance {w w' : World} : Coe (ExtD w w') (Ext w w') := ⟨ExtD.e⟩
theorem ExtD.refl (w : World) : ExtD w w := ⟨Ext.refl w, Nat.le_refl _⟩
theorem ExtD.trans {a b c : World} (h : ExtD a b) (k : ExtD b c) : ExtD a c := ⟨h.e.trans k.e, Nat.le_trans h.d k.d⟩
theorem ExtD.drew {a b : World} (h : ExtD a b) : ExtD a b.drew := ⟨h.e.drew, Nat.le_succ_of_le h.d⟩
theorem ExtD.alloc {a b : World} (h : ExtD a b) (o : Obj) : ExtD a (b.alloc o) := ⟨h.e.alloc o, h.d⟩
theorem ExtD.setCell {a b : World} (h : ExtD a b) {p : Addr} (hp : a.heap.size ≤ p.block) (u : Value) : ExtD a (b.setCell p u) := ⟨h.e.setCell hp u, h.d⟩
theorem ExtD.size {a b : World} (h : ExtD a b) : a.heap.size ≤ b.heap.size := h.e.size
theorem ExtD.walk {W w' : World} (h : ExtD W w') : (∀ b o, b < W.heap.size → w'.cell? ⟨b, o, none⟩ = W.cell? ⟨b, o, none⟩) ∧ (∀ b o, b < W.heap.size → w'.frozen? ⟨b, o, none⟩ = W.frozen? ⟨b, o, none⟩) ∧ W.heap.size ≤ w'.heap.size := h.e.walk
/-- Blocks were laid behind all, and questions drawn. -/
theorem ExtD.grow {w w' : World} (h : ExtD w w') : ∃ q os', w' = grow (w.drewN q) os' := by
  obtain ⟨⟨h1, h2, h3, h4, h5⟩, h6⟩ := h
  refine ⟨w'.drawn - w.drawn, w'.heap.extract w.heap.size w'.heap.size, ?_⟩
  have hh : w'.heap = w.heap ++ w'.heap.extract w.heap.size w'.heap.size := by
    apply Array.ext_getElem?
    intro i
    rw [Array.getElem?_append]
    by_cases hi : i < w.heap.size
    · rw [if_pos hi]; exact h5 i hi
    · rw [if_neg hi, Array.getElem?_extract]
      simp only [Nat.min_self]
      by_cases h7 : i < w'.heap.size
      · rw [if_pos (by omega)]
        congr 1
        omega
      · rw [if_neg (by omega), Array.getElem?_eq_none (by omega)]
  cases w'
  simp only at h1 h2 h3 h4 h6 hh
  unfold Sort.grow World.drewN
  simp only [World.mk.injEq]
  exact ⟨hh, h2, by omega, h1, h3⟩
end Go.Proofs.YtddlhjbbjefdkaaGreatDoor

namespace Go.Proofs.YtddlhjbbjefdkaaGreatDoor
open Go Go.RowKit

set_option maxRecDepth 100000 in
theorem primesD_any (w : World) :
    Calls Tryz.prog 100 #[] w fun e w' => e = .returned (.agg #[.int .i64 2, .int .i64 3, .int .i64 5, .int .i64 7]) ∧ ExtD w w' := by
  go_enter Tryz.func100, Tryz.ntmps100
  go_wp2
  go_light
  exact bodyPost_ret (v := .agg #[.int .i64 2, .int .i64 3, .int .i64 5, .int .i64 7]) (by simp [results, Tryz.results100, go_sem]) rfl ⟨rfl, (by (repeat (with_reducible first | assumption | exact ExtD.refl _ | refine ExtD.drew ?_ | refine ExtD.alloc ?_ _ | refine ExtD.setCell ?_ (by simp <;> omega) _ | refine ExtD.trans ?_ (by assumption))))⟩
/-- The interval that a quotient gives, if it is one. -/
def ofI (n d : Nat) : I4 := ⟨(expK n 0 : Int) - expK d 0, (expK n 1 : Int) - expK d 1, (expK n 2 : Int) - expK d 2, (expK n 3 : Int) - expK d 3⟩
end Go.Proofs.YtddlhjbbjefdkaaGreatDoor

namespace Go.Proofs.YtddlhjbbjefdkaaGreatDoor
open Go Go.RowKit

def rightR (lo hi : Int) : Bool := !outB lo 0 hi && decide (hi ≤ 127)
def comfN (a b c d : Int) : Int := min (c - a) (b - d)

set_option maxRecDepth 100000 in
theorem isRight_any (lo hi : Int) (w : World) :
    Calls Tryz.prog 63 #[.agg #[.int .i64 lo, .int .i64 hi]] w fun e w' => e = .returned (.bool (rightR lo hi)) ∧ Ext w w' := by
  have hR : rightR lo hi = (!outB lo 0 hi && decide (hi ≤ 127)) := rfl
  replace hR := Lib.hid hR
  cases ho : outB lo 0 hi
  all_goals
    go_enter Tryz.func63, Tryz.ntmps63
    go_wp2_with (go_at_call 57; refine (outside_any _ _ _ _).mono ?_; rintro e w' ⟨rfl, rfl⟩)
    go_ret
    exact ⟨ret_bool (by rw [hR.out]; simp [*]), by (repeat (with_reducible first | assumption | exact Ext.refl _ | refine Ext.drew ?_ | refine Ext.alloc ?_ _ | refine Ext.setCell ?_ (by simp <;> omega) _ | refine Ext.trans ?_ (by assumption)))⟩

theorem right_b {lo hi : Int} (h : rightR lo hi = true) : 0 ≤ lo ∧ lo ≤ hi ∧ hi ≤ 127 := by
  unfold rightR outB at h
  simp at h
  omega

set_option maxRecDepth 100000 in
theorem comfort_any (a b c d : Int) (w : World) (h1 : rightR a b = true) (h2 : rightR c d = true) :
    Calls Tryz.prog 64 #[.agg #[.int .i64 a, .int .i64 b], .agg #[.int .i64 c, .int .i64 d]] w fun e w' => e = .returned (.int .i64 (comfN a b c d)) ∧ Ext w w' := by
  have b1 := right_b h1
  have b2 := right_b h2
  have hC : comfN a b c d = min (c - a) (b - d) := rfl
  replace hC := Lib.hid hC
  go_enter Tryz.func64, Tryz.ntmps64
  go_wp2
  all_goals
    go_ret
    exact ⟨ret_int (by rw [hC.out]; first | rfl | omega), by (repeat (with_reducible first | assumption | exact Ext.refl _ | refine Ext.drew ?_ | refine Ext.alloc ?_ _ | refine Ext.setCell ?_ (by simp <;> omega) _ | refine Ext.trans ?_ (by assumption)))⟩

set_option maxRecDepth 100000 in
theorem Comfort_any (a b c d : Int) (w : World) :
    Calls Tryz.prog 38 #[.agg #[.int .i64 a, .int .i64 b], .agg #[.int .i64 c, .int .i64 d]] w fun e w' =>
      e = .returned (if rightR a b && rightR c d then .tuple #[.int .i64 (max (comfN a b c d) 0), .bool (decide (0 ≤ comfN a b c d)), .int .i64 0] else .tuple #[.int .i64 0, .bool false, .int .i64 1]) ∧ Ext w w' := by
  cases h1 : rightR a b
  case' true => cases h2 : rightR c d
  case true.true =>
    have b1 := right_b h1
    have b2 := right_b h2
    have hC : comfN a b c d = min (c - a) (b - d) := rfl
    have hb : -1000 ≤ comfN a b c d ∧ comfN a b c d ≤ 1000 := by rw [hC]; omega
    clear hC
    have hc := comfort_any a b c d
    generalize comfN a b c d = n at hb hc ⊢
    have hm : max n 0 = if n < 0 then 0 else n := by split <;> omega
    replace hm := Lib.hid hm
    replace hc := Lib.hid hc
    simp only [Bool.and_self, if_true]
    go_enter Tryz.func38, Tryz.ntmps38
    go_wp2_with (first
      | (go_at_call 63; with_reducible refine Calls.mono (isRight_any a b _) ?_; rintro e w1 ⟨rfl, hb1⟩; obtain ⟨hc1, hf1, hz1⟩ := hb1.walk; (try simp only [World.size_alloc] at hz1); have lt1 : w.heap.size < w1.heap.size := (by omega); have lt2 : w.heap.size + 1 < w1.heap.size := (by omega))
      | (go_at_call 63; with_reducible refine Calls.mono (isRight_any c d _) ?_; rintro e w2 ⟨rfl, hb2⟩; obtain ⟨hc2, hf2, hz2⟩ := hb2.walk; (try simp only [World.size_alloc] at hz2))
      | (go_at_call 64; with_reducible refine Calls.mono (hc.out _ h1 h2) ?_; rintro e w3 ⟨rfl, hb3⟩))
    all_goals
      go_ret3
      refine ⟨?_, by (repeat (with_reducible first | assumption | exact Ext.refl _ | refine Ext.drew ?_ | refine Ext.alloc ?_ _ | refine Ext.setCell ?_ (by simp <;> omega) _ | refine Ext.trans ?_ (by assumption)))⟩
      have e1 : ∀ (x y : Int) (p q : Bool), x = y → p = q → Ending.returned (.tuple #[.int .i64 x, .bool p, .int .i64 0]) = .returned (.tuple #[.int .i64 y, .bool q, .int .i64 0]) := fun _ _ _ _ h h' => by rw [h, h']
      exact e1 _ _ _ _ (by rw [hm.out]; split <;> omega) (by simp <;> omega)
  all_goals
    simp only [Bool.and_false, Bool.false_and, Bool.and_self, Bool.false_eq_true, if_false, if_true]
    go_enter Tryz.func38, Tryz.ntmps38
    go_wp2_with (first
      | (go_at_call 63; with_reducible refine Calls.mono (isRight_any a b _) ?_; rintro e w1 ⟨rfl, hb1⟩; obtain ⟨hc1, hf1, hz1⟩ := hb1.walk; (try simp only [World.size_alloc] at hz1); have lt1 : w.heap.size < w1.heap.size := (by omega); have lt2 : w.heap.size + 1 < w1.heap.size := (by omega))
      | (go_at_call 63; with_reducible refine Calls.mono (isRight_any c d _) ?_; rintro e w2 ⟨rfl, hb2⟩; obtain ⟨hc2, hf2, hz2⟩ := hb2.walk; (try simp only [World.size_alloc] at hz2)))
    go_ret3
    exact ⟨rfl, by (repeat (with_reducible first | assumption | exact Ext.refl _ | refine Ext.drew ?_ | refine Ext.alloc ?_ _ | refine Ext.setCell ?_ (by simp <;> omega) _ | refine Ext.trans ?_ (by assumption)))⟩
end Go.Proofs.YtddlhjbbjefdkaaGreatDoor
