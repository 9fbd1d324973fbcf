/- Comparing intervals, by both texts. Conditions: as each theorem says. -/
import Derived.Test.YtebhjmknlhmmdaaGreatDoorTuneH
import Derived.Deep.DeepCutAuto
namespace Go.Proofs.YtebhjmknlhmmdaaGreatDoor
open Go Go.RowKit

theorem hiN_range (m : Nat) (h : m ≤ 18446744073709551615 * 18446744073709551616) : 0 ≤ hiN m ∧ hiN m ≤ 18446744073709551615 := by unfold hiN; omega

set_option maxRecDepth 100000 in
theorem com0_any (x y : I4) (w : World) (h : bothB x y = false) :
    Calls Tryz.prog 12 #[.agg #[.int .i64 x.a, .int .i64 x.b, .int .i64 x.c, .int .i64 x.d], .agg #[.int .i64 y.a, .int .i64 y.b, .int .i64 y.c, .int .i64 y.d]] w fun e w' =>
      e = .returned (.tuple #[.int .i64 0, .int .i64 1]) ∧ Ext w w' := by
  have hF : faultAll [x, y] = 1 := by rw [faultAll_two, h]; rfl
  clear h
  go_enter Tryz.func12, Tryz.ntmps12
  go_wp2_with (go_at_call 22; refine (checkAll_any _ 0 2 [x, y] _ (by simp) (rows4_two (Blk.new' (by simp))) (by simp)).mono ?_; rintro e w1 ⟨rfl, hb1⟩; obtain ⟨hc1, hf1, hz1⟩ := hb1.walk; (try simp only [World.size_alloc, World.size_setCell, World.size_drew] at hz1))
  go_light
  exact bodyPost_ret (v := .tuple #[.int .i64 0, .int .i64 1]) (by simp [results, Tryz.results12, go_sem, *]) rfl ⟨rfl, (by (repeat (with_reducible first | assumption | exact Ext.refl _ | refine Ext.drew ?_ | refine Ext.alloc ?_ _ | refine Ext.setCell ?_ (by simp <;> omega) _ | refine Ext.trans ?_ (by assumption))))⟩

set_option maxRecDepth 100000 in
theorem com1_any (x y : I4) (w : World) (h : bothB x y = true) (hx : rightB x = true) (hy : rightB y = true) :
    Calls Tryz.prog 12 #[.agg #[.int .i64 x.a, .int .i64 x.b, .int .i64 x.c, .int .i64 x.d], .agg #[.int .i64 y.a, .int .i64 y.b, .int .i64 y.c, .int .i64 y.d]] w fun e w' =>
      e = .returned (.tuple #[.int .i64 (cmpI x y), .int .i64 0]) ∧ Ext w w' := by
  have hF : faultAll [x, y] = 0 := by rw [faultAll_two, h]; rfl
  clear h
  go_enter Tryz.func12, Tryz.ntmps12
  go_wp2_with (first | (go_at_call 22; refine (checkAll_any _ 0 2 [x, y] _ (by simp) (rows4_two (Blk.new' (by simp))) (by simp)).mono ?_; rintro e w1 ⟨rfl, hb1⟩; obtain ⟨hc1, hf1, hz1⟩ := hb1.walk; (try simp only [World.size_alloc, World.size_setCell, World.size_drew] at hz1)) | (go_at_call 31; refine (compare_any x y _ hx hy).mono ?_; rintro e wk ⟨rfl, hbk⟩; replace hb1 := Ext.trans hb1 (Ext.trans (by (repeat (with_reducible first | assumption | exact Ext.refl _ | refine Ext.drew ?_ | refine Ext.alloc ?_ _ | refine Ext.setCell ?_ (by simp <;> omega) _ | refine Ext.trans ?_ (by assumption)))) hbk); clear hbk hc1 hf1 hz1; obtain ⟨hc1, hf1, hz1⟩ := hb1.walk; (try simp only [World.size_alloc, World.size_setCell, World.size_drew] at hz1)))
  go_light
  exact bodyPost_ret (v := .tuple #[.int .i64 (cmpI x y), .int .i64 0]) (by simp [results, Tryz.results12, go_sem, *]) rfl ⟨rfl, (by (repeat (with_reducible first | assumption | exact Ext.refl _ | refine Ext.drew ?_ | refine Ext.alloc ?_ _ | refine Ext.setCell ?_ (by simp <;> omega) _ | refine Ext.trans ?_ (by assumption))))⟩

end Go.Proofs.YtebhjmknlhmmdaaGreatDoor
