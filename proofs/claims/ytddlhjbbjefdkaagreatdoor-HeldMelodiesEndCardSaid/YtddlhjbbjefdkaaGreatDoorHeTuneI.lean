/- Comparing intervals, by both texts. Conditions: as each theorem says. -/
import Derived.Test.YtddlhjbbjefdkaaGreatDoorHeTuneH
import Derived.Deep.DeepCutAuto
set_option linter.unusedSimpArgs false
set_option linter.unusedVariables false
namespace Go.Proofs.YtddlhjbbjefdkaaGreatDoor
open Go Go.RowKit

set_option maxRecDepth 100000 in
theorem com1_any (x y : I4) (w : World) (h : bothB x y = true) (hx : rightB x = true) (hy : rightB y = true) :
    Calls Tryz.prog 15 #[.agg #[.int .i64 x.a, .int .i64 x.b, .int .i64 x.c, .int .i64 x.d], .agg #[.int .i64 y.a, .int .i64 y.b, .int .i64 y.c, .int .i64 y.d]] w fun e w' =>
      e = .returned (.tuple #[.int .i64 (cmpI x y), .int .i64 0]) ∧ Ext w w' := by
  have hF : faultAll [x, y] = 0 := by rw [faultAll_two, h]; rfl
  clear h
  go_enter Tryz.func15, Tryz.ntmps15
  go_wp2_with (first | (go_at_call 49; refine (checkAll_any _ 0 2 [x, y] _ (by simp) (rows4_two (Blk.new' (by simp))) (by simp)).mono ?_; rintro e w1 ⟨rfl, hb1⟩; obtain ⟨hc1, hf1, hz1⟩ := hb1.walk; (try simp only [World.size_alloc, World.size_setCell, World.size_drew] at hz1)) | (go_at_call 45; refine (compare_any x y _ hx hy).mono ?_; rintro e wk ⟨rfl, hbk⟩; replace hb1 := Ext.trans hb1 (Ext.trans (by (repeat (with_reducible first | assumption | exact Ext.refl _ | refine Ext.drew ?_ | refine Ext.alloc ?_ _ | refine Ext.setCell ?_ (by simp <;> omega) _ | refine Ext.trans ?_ (by assumption)))) hbk); clear hbk hc1 hf1 hz1; obtain ⟨hc1, hf1, hz1⟩ := hb1.walk; (try simp only [World.size_alloc, World.size_setCell, World.size_drew] at hz1)))
  go_light
  exact bodyPost_ret (v := .tuple #[.int .i64 (cmpI x y), .int .i64 0]) (by simp [results, Tryz.results15, go_sem, *]) rfl ⟨rfl, (by (repeat (with_reducible first | assumption | exact Ext.refl _ | refine Ext.drew ?_ | refine Ext.alloc ?_ _ | refine Ext.setCell ?_ (by simp <;> omega) _ | refine Ext.trans ?_ (by assumption))))⟩

end Go.Proofs.YtddlhjbbjefdkaaGreatDoor
