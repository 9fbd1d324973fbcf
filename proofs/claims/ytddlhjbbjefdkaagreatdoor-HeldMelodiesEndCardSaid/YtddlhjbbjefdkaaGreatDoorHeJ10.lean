/- The name of middle c sharp, by tune. Conditions: none. Comparing plain numbers: the program's 'cmp' functions and the long product. Conditions: ranges as each theorem says. -/
import Derived.Test.YtddlhjbbjefdkaaGreatDoorHeJ2
import Derived.Test.YtddlhjbbjefdkaaGreatDoorHeShelf
import Derived.Deep.Light
set_option linter.unusedSimpArgs false
set_option linter.unusedVariables false
namespace Go.Proofs.YtddlhjbbjefdkaaGreatDoor
open Go Go.RowKit

def nameCells : Array Value := #[.string ⟨#[99]⟩, .string ⟨#[99, 35]⟩, .string ⟨#[100]⟩, .string ⟨#[100, 35]⟩, .string ⟨#[101]⟩, .string ⟨#[102]⟩, .string ⟨#[102, 35]⟩, .string ⟨#[103]⟩, .string ⟨#[103, 35]⟩, .string ⟨#[97]⟩, .string ⟨#[97, 35]⟩, .string ⟨#[98]⟩]

set_option maxRecDepth 100000 in
theorem names_any (w : World) :
    Calls Tryz.prog 65 #[] w fun e w' => e = .returned (.slice (some ⟨w.heap.size, 0, none⟩) 12 12) ∧ w' = w.alloc (.cells nameCells 9) := by
  go_enter Tryz.func65, Tryz.ntmps65
  go_wp2
  go_ret
  exact ⟨rfl, rfl⟩

theorem itoa4_any (w : World) :
    Calls Tryz.prog 66 #[.int .i64 4] w fun e w' => e = .returned (.string ⟨#[52]⟩) ∧ w = w' :=
  (Tryz.strconv_Itoa_small 4 (by omega) w).mono fun e w' h => ⟨h.1.trans (by kernel_rfl), h.2.symm⟩

set_option maxRecDepth 100000 in
theorem name61_any (w : World) :
    Calls Tryz.prog 39 #[.int .i64 61] w fun e w' => e = .returned (.tuple #[.string ⟨#[99, 35, 52]⟩, .int .i64 0]) ∧ Ext w w' := by
  have hO : outB 61 0 127 = false := by decide
  go_enter Tryz.func39, Tryz.ntmps39
  go_wp2_with (go_at_call 57; refine (outside_any 61 0 127 _).mono ?_; rintro e w' ⟨rfl, rfl⟩)
  refine wp_region_forks [1, 2, 5, 6, 7] 7 (fun w' => Ext w w') Ext (by kernel_rfl) (by kernel_rfl) Ext.refl (fun _ _ _ => Ext.trans) (fun _ _ h he => h.trans he) (by (repeat (with_reducible first | assumption | exact Blk.new' (by simp) | refine Blk.drew ?_ | refine Blk.alloc ?_ _ | exact Ext.refl _ | refine Ext.drew ?_ | refine Ext.alloc ?_ _))) ?_
  repeat
    first
      | (refine q_quiet rfl rfl (fun _ _ _ _ h => h) ?_
         apply Exists.intro
         refine ⟨fun w' hw' => ?_, ?_⟩
         · obtain hH0 := hw'
           skip
           simp [go_sem, quietTo, World.cell?, Ext.refl, ↓IntWalk.iteOmega]
           first
             | rfl
         simp only [Act.put, List.setIfInBounds_toArray, List.set_cons_succ, List.set_cons_zero])
      | (refine q_skip rfl rfl (fun _ _ _ _ h => h) ?_
         simp only [Act.put, List.setIfInBounds_toArray, List.set_cons_succ, List.set_cons_zero])
  refine q_nil ?_
  try simp only [List.length_cons, List.length_nil, Nat.reduceAdd, Array.replicate_succ, Array.replicate_zero, List.push_toArray, List.nil_append, List.cons_append, List.setIfInBounds_toArray, List.set_cons_succ, List.set_cons_zero]
  refine ww_one (i := 0) rfl rfl (by kernel_rfl) ?_
  intro w1 e1 h1 K1 hK1
  go_wp2_with (go_at_call 65; refine (names_any _).mono ?_; rintro e w2 ⟨rfl, rfl⟩)
  refine ⟨h1.alloc _, ?_⟩
  simp only [List.setIfInBounds_toArray, List.set_cons_succ, List.set_cons_zero]
  refine ww_quiet [3, 4, 8, 9, 10, 11] 0 (fun w' => Blk w' w1.heap.size 9 nameCells ∧ Ext w w') rfl (by kernel_rfl) (by kernel_rfl) Ext.refl (fun _ _ _ => Ext.trans) (fun _ _ h he => ⟨h.1.ext he, h.2.trans he⟩) ⟨(by (repeat (with_reducible first | assumption | exact Blk.new' (by simp) | refine Blk.drew ?_ | refine Blk.alloc ?_ _ | exact Ext.refl _ | refine Ext.drew ?_ | refine Ext.alloc ?_ _))), (by (repeat (with_reducible first | assumption | exact Blk.new' (by simp) | refine Blk.drew ?_ | refine Blk.alloc ?_ _ | exact Ext.refl _ | refine Ext.drew ?_ | refine Ext.alloc ?_ _)))⟩ (fun _ h => h.2) ?_
  repeat
    first
      | (refine q_quiet rfl rfl (fun _ _ _ _ h => h) ?_
         apply Exists.intro
         refine ⟨fun w' hw' => ?_, ?_⟩
         · obtain ⟨hH20, hH21⟩ := hw'
           unfold Blk at hH20
           simp [go_sem, quietTo, World.cell?, hH20, Ext.refl, ↓IntWalk.iteOmega, nameCells]
           first
             | rfl
             | (exact (itoa4_any _).mono fun _ _ h => ⟨h.1, h.2 ▸ Ext.refl _⟩)
         simp only [Act.put, List.setIfInBounds_toArray, List.set_cons_succ, List.set_cons_zero])
      | (refine q_skip rfl rfl (fun _ _ _ _ h => h) ?_
         simp only [Act.put, List.setIfInBounds_toArray, List.set_cons_succ, List.set_cons_zero])
  refine q_nil ?_
  try simp only [List.length_cons, List.length_nil, Nat.reduceAdd, Array.replicate_succ, Array.replicate_zero, List.push_toArray, List.nil_append, List.cons_append, List.setIfInBounds_toArray, List.set_cons_succ, List.set_cons_zero]
  refine ww_done (by kernel_rfl) fun w8 e8 h8 => ?_
  have he8 := h8.2
  dsimp only [Exit.then]
  go_wp2
  go_light
  exact bodyPost_ret (v := .tuple #[.string ⟨#[99, 35, 52]⟩, .int .i64 0]) (by simp [results, Tryz.results39, go_sem, *]; try rfl) rfl ⟨rfl, (by (repeat (with_reducible first | assumption | exact Ext.refl _ | refine Ext.drew ?_ | refine Ext.alloc ?_ _ | refine Ext.setCell ?_ (by simp <;> omega) _ | refine Ext.trans ?_ (by assumption))))⟩

end Go.Proofs.YtddlhjbbjefdkaaGreatDoor

namespace Go.Proofs.YtddlhjbbjefdkaaGreatDoor
open Go Go.RowKit

def hiN (m : Nat) : Int := ((m / 18446744073709551616 : Nat) : Int)
def loN (m : Nat) : Int := ((m % 18446744073709551616 : Nat) : Int)
def cmpN (x y : Nat) : Int := if x < y then -1 else if x = y then 0 else 1
theorem loN_range (m : Nat) : 0 ≤ loN m ∧ loN m ≤ 18446744073709551615 := by unfold loN; omega

theorem mul_any (p q : Nat) (w : World) (hp : p < 18446744073709551616) (hq : q < 18446744073709551616) :
    Calls Tryz.prog 76 #[.int .u64 p, .int .u64 q] w fun e w' => e = .returned (.tuple #[.int .u64 (hiN (p * q)), .int .u64 (loN (p * q))]) ∧ w = w' :=
  (Tryz.bits_Mul64 p q hp hq w).mono fun e w' h => ⟨h.1, h.2.symm⟩

/-- The ways a comparison goes. -/
theorem cmp_ways (x y : Nat) : (hiN x < hiN y ∧ cmpN x y = -1) ∨ (hiN x = hiN y ∧ loN x < loN y ∧ cmpN x y = -1) ∨ (hiN x = hiN y ∧ loN x = loN y ∧ cmpN x y = 0) ∨ (hiN x = hiN y ∧ loN y < loN x ∧ cmpN x y = 1) ∨ (hiN y < hiN x ∧ cmpN x y = 1) := by
  unfold cmpN hiN loN
  have := Nat.div_add_mod x 18446744073709551616
  have := Nat.div_add_mod y 18446744073709551616
  by_cases h : x < y
  · rw [if_pos h]; omega
  · rw [if_neg h]
    by_cases h4 : x = y
    · rw [if_pos h4]; omega
    · rw [if_neg h4]; omega

end Go.Proofs.YtddlhjbbjefdkaaGreatDoor
