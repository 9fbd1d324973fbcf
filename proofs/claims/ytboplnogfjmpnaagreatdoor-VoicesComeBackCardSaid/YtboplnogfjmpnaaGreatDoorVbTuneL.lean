/- The name of middle c sharp, by tune. Conditions: none. -/
import Derived.Test.YtboplnogfjmpnaaGreatDoorVbKit
import Derived.Test.YtboplnogfjmpnaaGreatDoorVbPlanB
import Derived.Test.YtboplnogfjmpnaaGreatDoorVbShelf
import Derived.Deep.Light
set_option linter.unusedSimpArgs false
set_option linter.unusedVariables false
namespace Go.Proofs.YtboplnogfjmpnaaGreatDoor
open Go Go.RowKit

def nameCells : Array Value := #[.string ⟨#[99]⟩, .string ⟨#[99, 35]⟩, .string ⟨#[100]⟩, .string ⟨#[100, 35]⟩, .string ⟨#[101]⟩, .string ⟨#[102]⟩, .string ⟨#[102, 35]⟩, .string ⟨#[103]⟩, .string ⟨#[103, 35]⟩, .string ⟨#[97]⟩, .string ⟨#[97, 35]⟩, .string ⟨#[98]⟩]

set_option maxRecDepth 100000 in
theorem names_any (w : World) :
    Calls Tryz.prog 71 #[] w fun e w' => e = .returned (.slice (some ⟨w.heap.size, 0, none⟩) 12 12) ∧ w' = w.alloc (.cells nameCells 9) := by
  go_enter Tryz.func71, Tryz.ntmps71
  go_wp2
  go_ret
  exact ⟨rfl, rfl⟩

theorem itoa4_any (w : World) :
    Calls Tryz.prog 31 #[.int .i64 4] w fun e w' => e = .returned (.string ⟨#[52]⟩) ∧ w = w' :=
  (Tryz.strconv_Itoa_small 4 (by omega) w).mono fun e w' h => ⟨h.1.trans (by kernel_rfl), h.2.symm⟩

set_option maxRecDepth 100000 in
theorem name61_any (w : World) :
    Calls Tryz.prog 40 #[.int .i64 61] w fun e w' => e = .returned (.tuple #[.string ⟨#[99, 35, 52]⟩, .int .i64 0]) ∧ Ext w w' := by
  have hO : outB 61 0 127 = false := by decide
  go_enter Tryz.func40, Tryz.ntmps40
  go_wp2_with (go_at_call 70; refine (outside_any 61 0 127 _).mono ?_; rintro e w' ⟨rfl, rfl⟩)
  refine wp_region_forks [1, 2, 5, 6, 7] 7 (fun w' => Ext w w') Ext (by kernel_rfl) (by kernel_rfl) Ext.refl (fun _ _ _ => Ext.trans) (fun _ _ h he => h.trans he) (by (repeat (with_reducible first | assumption | exact Blk.new' (by simp) | refine Blk.drew ?_ | refine Blk.alloc ?_ _ | exact Ext.refl _ | refine Ext.drew ?_ | refine Ext.alloc ?_ _))) ?_
  repeat
    first
      | (refine q_quiet rfl rfl (fun _ _ _ _ h => h) ?_
         apply Exists.intro
         refine ⟨fun w' hw' => ?_, ?_⟩
         · obtain hH0 := hw'
           skip
           simp [go_sem, quietTo, World.cell?, Ext.refl, ↓IntWalk.iteOmega]
           first
             | rfl
         simp only [Act.put, List.setIfInBounds_toArray, List.set_cons_succ, List.set_cons_zero])
      | (refine q_skip rfl rfl (fun _ _ _ _ h => h) ?_
         simp only [Act.put, List.setIfInBounds_toArray, List.set_cons_succ, List.set_cons_zero])
  refine q_nil ?_
  try simp only [List.length_cons, List.length_nil, Nat.reduceAdd, Array.replicate_succ, Array.replicate_zero, List.push_toArray, List.nil_append, List.cons_append, List.setIfInBounds_toArray, List.set_cons_succ, List.set_cons_zero]
  refine ww_one (i := 0) rfl rfl (by kernel_rfl) ?_
  intro w1 e1 h1 K1 hK1
  go_wp2_with (go_at_call 71; refine (names_any _).mono ?_; rintro e w2 ⟨rfl, rfl⟩)
  refine ⟨h1.alloc _, ?_⟩
  simp only [List.setIfInBounds_toArray, List.set_cons_succ, List.set_cons_zero]
  refine ww_quiet [3, 4, 8, 9, 10, 11] 0 (fun w' => Blk w' w1.heap.size 9 nameCells ∧ Ext w w') rfl (by kernel_rfl) (by kernel_rfl) Ext.refl (fun _ _ _ => Ext.trans) (fun _ _ h he => ⟨h.1.ext he, h.2.trans he⟩) ⟨(by (repeat (with_reducible first | assumption | exact Blk.new' (by simp) | refine Blk.drew ?_ | refine Blk.alloc ?_ _ | exact Ext.refl _ | refine Ext.drew ?_ | refine Ext.alloc ?_ _))), (by (repeat (with_reducible first | assumption | exact Blk.new' (by simp) | refine Blk.drew ?_ | refine Blk.alloc ?_ _ | exact Ext.refl _ | refine Ext.drew ?_ | refine Ext.alloc ?_ _)))⟩ (fun _ h => h.2) ?_
  repeat
    first
      | (refine q_quiet rfl rfl (fun _ _ _ _ h => h) ?_
         apply Exists.intro
         refine ⟨fun w' hw' => ?_, ?_⟩
         · obtain ⟨hH20, hH21⟩ := hw'
           unfold Blk at hH20
           simp [go_sem, quietTo, World.cell?, hH20, Ext.refl, ↓IntWalk.iteOmega, nameCells]
           first
             | rfl
             | (exact (itoa4_any _).mono fun _ _ h => ⟨h.1, h.2 ▸ Ext.refl _⟩)
         simp only [Act.put, List.setIfInBounds_toArray, List.set_cons_succ, List.set_cons_zero])
      | (refine q_skip rfl rfl (fun _ _ _ _ h => h) ?_
         simp only [Act.put, List.setIfInBounds_toArray, List.set_cons_succ, List.set_cons_zero])
  refine q_nil ?_
  try simp only [List.length_cons, List.length_nil, Nat.reduceAdd, Array.replicate_succ, Array.replicate_zero, List.push_toArray, List.nil_append, List.cons_append, List.setIfInBounds_toArray, List.set_cons_succ, List.set_cons_zero]
  refine ww_done (by kernel_rfl) fun w8 e8 h8 => ?_
  have he8 := h8.2
  dsimp only [Exit.then]
  go_wp2
  go_light
  exact bodyPost_ret (v := .tuple #[.string ⟨#[99, 35, 52]⟩, .int .i64 0]) (by simp [results, Tryz.results40, go_sem, *]; try rfl) rfl ⟨rfl, (by (repeat (with_reducible first | assumption | exact Ext.refl _ | refine Ext.drew ?_ | refine Ext.alloc ?_ _ | refine Ext.setCell ?_ (by simp <;> omega) _ | refine Ext.trans ?_ (by assumption))))⟩

end Go.Proofs.YtboplnogfjmpnaaGreatDoor
