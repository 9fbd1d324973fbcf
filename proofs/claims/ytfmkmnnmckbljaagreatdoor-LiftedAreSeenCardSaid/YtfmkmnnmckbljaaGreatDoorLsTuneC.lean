/- The greatest common divisor, how often a prime is in a number, by both texts. Conditions: as each theorem says. -/
import Derived.Test.YtfmkmnnmckbljaaGreatDoorLsJ5
set_option linter.unusedSimpArgs false
set_option linter.unusedVariables false
namespace Go.Proofs.YtfmkmnnmckbljaaGreatDoor
open Go Go.RowKit

theorem val_tmod {k : IntKind} (x y : Nat) : Value.int k ((x : Int).tmod y) = .int k ((x % y : Nat) : Int) := by rw [Int.ofNat_tmod]
theorem val_tdiv {k : IntKind} (x y : Nat) : Value.int k ((x : Int).tdiv y) = .int k ((x / y : Nat) : Int) := by rw [Int.ofNat_tdiv]
theorem gcd_step (x y G : Nat) (h : Nat.gcd x y = G) : Nat.gcd y (x % y) = G := by rw [← h, Nat.gcd_comm x y, Nat.gcd_rec y x, Nat.gcd_comm]

theorem wrap_div (a x : Nat) (ha : a ≤ 9223372036854775807) : IntKind.i64.wrap ((a : Int) / (x : Int)) = ((a / x : Nat) : Int) := by
  have h : a / x ≤ a := Nat.div_le_self _ _
  rw [← Int.natCast_ediv]
  generalize a / x = q at *
  exact IntWalk.i64_in _ (by omega)

set_option maxRecDepth 100000 in
theorem divisor_any (a b : Nat) (w : World) (ha : a ≤ 9223372036854775807) (hb : b ≤ 9223372036854775807) :
    Calls Tryz.prog 74 #[.int .i64 a, .int .i64 b] w fun e w' => e = .returned (.int .i64 (Nat.gcd a b : Nat)) ∧ Ext w w' := by
  go_enter Tryz.func74, Tryz.ntmps74
  go_wp2
  go_loopw [0, 1] (fun s t w' => ∃ x y : Nat, x ≤ 9223372036854775807 ∧ y ≤ 9223372036854775807 ∧ s = .int .i64 x ∧ t = .int .i64 y ∧ Hid (Nat.gcd x y = Nat.gcd a b) ∧ Ext w w') (fun _ t _ => (intOf t).toNat)
  case atStart => exact ⟨a, b, ha, hb, rfl, rfl, rfl, Ext.refl _⟩
  case round =>
    obtain ⟨x, y, hx, hy, rfl, rfl, hg, he⟩ := hrel
    by_cases h0 : y = 0
    · have h0' : ((y : Int) != 0) = false := by simp [h0]
      go_wp2
      go_ret
      exact ⟨ret_int (by rw [← hg.out, h0]; simp), he⟩
    · have h0' : ((y : Int) != 0) = true := by simp [h0]
      have h1 : ((y : Int) == 0) = false := by simp [h0]
      go_wp2
      refine wp_region_planS [(0, true), (1, true), (2, true), (3, true), (4, true), (5, true)] 6 (fun w' => Ext w w') Ext (by kernel_rfl) (by kernel_rfl) Ext.refl (fun _ _ _ => Ext.trans) (fun _ _ h he => h.trans he) (by (repeat (with_reducible first | assumption | exact Blk.new' (by simp) | refine Blk.drew ?_ | refine Blk.alloc ?_ _ | exact Ext.refl _ | refine Ext.drew ?_ | refine Ext.alloc ?_ _))) ?_
      repeat
        first
          | (refine plan_quiet rfl rfl (fun _ _ _ _ h => h) ?_
             apply Exists.intro
             refine ⟨fun w' hw' => ?_, ?_⟩
             · obtain hH0 := hw'
               skip
               simp [go_sem, quietTo, World.cell?, Ext.refl, ↓IntWalk.iteOmega, h1]
               first
                 | rfl
             simp only [Act.put, List.setIfInBounds_toArray, List.set_cons_succ, List.set_cons_zero])
          | (refine plan_skip rfl rfl (fun _ _ _ _ h => h) ?_
             simp only [Act.put, List.setIfInBounds_toArray, List.set_cons_succ, List.set_cons_zero])
      refine plan_nil fun wr her hwr => ?_
      clear her
      have hH0 := hwr

      simp only [List.drop_succ_cons, List.drop_zero, List.drop_nil]
      go_wp2
      go_roundw
      case rel => exact ⟨y, x % y, hy, Nat.le_trans (Nat.mod_le _ _) hx, rfl, val_tmod _ _, gcd_step _ _ _ hg.out, hH0⟩
      case measure =>
        have hlt : x % y < y := Nat.mod_lt _ (by omega)
        simp [intOf]
        rw [← Int.ofNat_tmod]
        simp
        omega

set_option maxRecDepth 100000 in
theorem lowest_any (a b : Nat) (w : World) (ha : 1 ≤ a) (ha' : a ≤ 9223372036854775807) (hb : 1 ≤ b) (hb' : b ≤ 9223372036854775807) :
    Calls Tryz.prog 41 #[.int .i64 a, .int .i64 b] w fun e w' => e = .returned (.agg #[.int .i64 (a / Nat.gcd a b : Nat), .int .i64 (b / Nat.gcd a b : Nat)]) ∧ Ext w w' := by
  go_enter Tryz.func41, Tryz.ntmps41
  go_wp2
  go_loopw [5, 6] (fun s t w' => ∃ x y : Nat, x ≤ 9223372036854775807 ∧ y ≤ 9223372036854775807 ∧ s = .int .i64 x ∧ t = .int .i64 y ∧ Hid (Nat.gcd x y = Nat.gcd a b) ∧ Blk w' w.heap.size 40 #[.int .i64 0, .int .i64 0] ∧ Ext w w') (fun _ t _ => (intOf t).toNat)
  case atStart => exact ⟨a, b, ha', hb', rfl, rfl, rfl, (by (repeat (with_reducible first | assumption | exact Blk.new' (by simp) | refine Blk.drew ?_ | refine Blk.alloc ?_ _ | exact Ext.refl _ | refine Ext.drew ?_ | refine Ext.alloc ?_ _))), (by (repeat (with_reducible first | assumption | exact Ext.refl _ | refine Ext.drew ?_ | refine Ext.alloc ?_ _ | refine Ext.setCell ?_ (by simp <;> omega) _ | refine Ext.trans ?_ (by assumption))))⟩
  case round =>
    obtain ⟨x, y, hx, hy, rfl, rfl, hg, hk, he⟩ := hrel
    by_cases h0 : y = 0
    · have h0' : ((y : Int) != 0) = false := by simp [h0]
      have hgx : x = Nat.gcd a b := by rw [← hg.out, h0]; simp
      have hx1 : ¬ x = 0 := by
        have : 0 < Nat.gcd a b := Nat.gcd_pos_of_pos_left _ (by omega)
        omega
      have HG := Lib.hid hgx
      clear hgx
      have hq1 : IntKind.i64.wrap ((a : Int) / (x : Int)) = ((a / x : Nat) : Int) := wrap_div a x ha'
      have hq2 : IntKind.i64.wrap ((b : Int) / (x : Int)) = ((b / x : Nat) : Int) := wrap_div b x hb'
      go_wp2
      refine wp_region_planS [(0, true), (1, true), (2, true), (3, true), (4, true), (5, true), (6, true)] 7 (fun w' => Blk w' w.heap.size 40 #[.int .i64 0, .int .i64 0] ∧ Ext w w') Ext (by kernel_rfl) (by kernel_rfl) Ext.refl (fun _ _ _ => Ext.trans) (fun _ _ h he => ⟨h.1.ext he, h.2.trans he⟩) ⟨(by (repeat (with_reducible first | assumption | exact Blk.new' (by simp) | refine Blk.drew ?_ | refine Blk.alloc ?_ _ | exact Ext.refl _ | refine Ext.drew ?_ | refine Ext.alloc ?_ _))), (by (repeat (with_reducible first | assumption | exact Blk.new' (by simp) | refine Blk.drew ?_ | refine Blk.alloc ?_ _ | exact Ext.refl _ | refine Ext.drew ?_ | refine Ext.alloc ?_ _)))⟩ ?_
      repeat
        first
          | (refine plan_quiet rfl rfl (fun _ _ _ _ h => h) ?_
             apply Exists.intro
             refine ⟨fun w' hw' => ?_, ?_⟩
             · obtain ⟨hH0, hH1⟩ := hw'
               unfold Blk at hH0
               simp [go_sem, quietTo, World.cell?, hH0, Ext.refl, ↓IntWalk.iteOmega, hx1, hq1, hq2]
               first
                 | rfl
             simp only [Act.put, List.setIfInBounds_toArray, List.set_cons_succ, List.set_cons_zero])
          | (refine plan_skip rfl rfl (fun _ _ _ _ h => h) ?_
             simp only [Act.put, List.setIfInBounds_toArray, List.set_cons_succ, List.set_cons_zero])
      refine plan_nil fun wr her hwr => ?_
      clear her
      obtain ⟨hH0, hH1⟩ := hwr
      obtain ⟨hC0, hF0⟩ := hH0.walk
      simp only [List.drop_succ_cons, List.drop_zero, List.drop_nil]
      clear hq1 hq2
      go_wp2
      go_light
      rw [HG.out]
      exact bodyPost_ret (v := .agg #[.int .i64 (a / Nat.gcd a b : Nat), .int .i64 (b / Nat.gcd a b : Nat)]) (by simp [results, Tryz.results41, go_sem, *]) rfl ⟨rfl, (by (repeat (with_reducible first | assumption | exact Ext.refl _ | refine Ext.drew ?_ | refine Ext.alloc ?_ _ | refine Ext.setCell ?_ (by simp <;> omega) _ | refine Ext.trans ?_ (by assumption))))⟩
    · have h0' : ((y : Int) != 0) = true := by simp [h0]
      have h1 : ((y : Int) == 0) = false := by simp [h0]
      go_wp2
      refine wp_region_planS [(0, true), (1, true), (2, true), (3, true), (4, true), (5, true)] 6 (fun w' => Blk w' w.heap.size 40 #[.int .i64 0, .int .i64 0] ∧ Ext w w') Ext (by kernel_rfl) (by kernel_rfl) Ext.refl (fun _ _ _ => Ext.trans) (fun _ _ h he => ⟨h.1.ext he, h.2.trans he⟩) ⟨(by (repeat (with_reducible first | assumption | exact Blk.new' (by simp) | refine Blk.drew ?_ | refine Blk.alloc ?_ _ | exact Ext.refl _ | refine Ext.drew ?_ | refine Ext.alloc ?_ _))), (by (repeat (with_reducible first | assumption | exact Blk.new' (by simp) | refine Blk.drew ?_ | refine Blk.alloc ?_ _ | exact Ext.refl _ | refine Ext.drew ?_ | refine Ext.alloc ?_ _)))⟩ ?_
      repeat
        first
          | (refine plan_quiet rfl rfl (fun _ _ _ _ h => h) ?_
             apply Exists.intro
             refine ⟨fun w' hw' => ?_, ?_⟩
             · obtain ⟨hH0, hH1⟩ := hw'
               unfold Blk at hH0
               simp [go_sem, quietTo, World.cell?, hH0, Ext.refl, ↓IntWalk.iteOmega, h1]
               first
                 | rfl
             simp only [Act.put, List.setIfInBounds_toArray, List.set_cons_succ, List.set_cons_zero])
          | (refine plan_skip rfl rfl (fun _ _ _ _ h => h) ?_
             simp only [Act.put, List.setIfInBounds_toArray, List.set_cons_succ, List.set_cons_zero])
      refine plan_nil fun wr her hwr => ?_
      clear her
      obtain ⟨hH0, hH1⟩ := hwr
      obtain ⟨hC0, hF0⟩ := hH0.walk
      simp only [List.drop_succ_cons, List.drop_zero, List.drop_nil]
      go_wp2
      go_roundw
      case rel => exact ⟨y, x % y, hy, Nat.le_trans (Nat.mod_le _ _) hx, rfl, val_tmod _ _, gcd_step _ _ _ hg.out, hH0, hH1⟩
      case measure =>
        have hlt : x % y < y := Nat.mod_lt _ (by omega)
        simp [intOf]
        rw [← Int.ofNat_tmod]
        simp
        omega

end Go.Proofs.YtfmkmnnmckbljaaGreatDoor
