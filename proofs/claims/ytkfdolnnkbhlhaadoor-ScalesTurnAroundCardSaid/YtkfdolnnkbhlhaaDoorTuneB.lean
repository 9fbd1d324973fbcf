/- Intervals: sums and differences, by both texts. Conditions: none. -/
import Derived.Test.YtkfdolnnkbhlhaaDoorTuneA
namespace Go.Proofs.YtkfdolnnkbhlhaaDoor
open Go Go.RowKit

set_option maxRecDepth 100000 in
theorem inverse_any (x : I4) (w : World) :
    Calls Tryd.prog 42 #[.agg #[.int .i64 x.a, .int .i64 x.b, .int .i64 x.c, .int .i64 x.d]] w fun e w' =>
      e = .returned (.agg #[.int .i64 (negI x).a, .int .i64 (negI x).b, .int .i64 (negI x).c, .int .i64 (negI x).d]) ∧ Ext w w' := by
  go_enter Tryd.func42, Tryd.ntmps42
  go_wp2
  go_light
  exact bodyPost_ret (v := .agg #[.int .i64 (negI x).a, .int .i64 (negI x).b, .int .i64 (negI x).c, .int .i64 (negI x).d]) (by simp [results, Tryd.results42, go_sem, negI]) rfl ⟨rfl, (by (repeat (with_reducible first | assumption | exact Ext.refl _ | refine Ext.drew ?_ | refine Ext.alloc ?_ _ | refine Ext.setCell ?_ (by simp <;> omega) _ | refine Ext.trans ?_ (by assumption))))⟩

theorem rows4_two {w : World} {g : Nat} {t : TypeId} {x y : I4} (h : Blk w g t #[.int .i64 x.a, .int .i64 x.b, .int .i64 x.c, .int .i64 x.d, .int .i64 y.a, .int .i64 y.b, .int .i64 y.c, .int .i64 y.d]) : Rows4 w g 0 [x, y] := by
  intro i z hz
  match i, hz with
  | 0, hz => simp at hz; subst hz; simp [h.cell]
  | 1, hz => simp at hz; subst hz; simp [h.cell]

def bothB (x y : I4) : Bool := rightB x && rightB y
theorem faultAll_two (x y : I4) : faultAll [x, y] = if bothB x y then 0 else 1 := by
  unfold faultAll faultAll faultAll bothB
  cases rightB x <;> cases rightB y <;> rfl
def zeroI : I4 := ⟨0, 0, 0, 0⟩
def sumR (x y : I4) : I4 := if bothB x y then okI (addI x y) else zeroI
def sumE (x y : I4) : Int := if bothB x y then faultI (addI x y) else 1
def difR (x y : I4) : I4 := if bothB x y then okI (addI x (negI y)) else zeroI
def difE (x y : I4) : Int := if bothB x y then faultI (addI x (negI y)) else 1



set_option maxRecDepth 100000 in
theorem sum0_any (x y : I4) (w : World) (h : bothB x y = false) :
    Calls Tryd.prog 11 #[.agg #[.int .i64 x.a, .int .i64 x.b, .int .i64 x.c, .int .i64 x.d], .agg #[.int .i64 y.a, .int .i64 y.b, .int .i64 y.c, .int .i64 y.d]] w fun e w' =>
      e = .returned (.tuple #[.agg #[.int .i64 0, .int .i64 0, .int .i64 0, .int .i64 0], .int .i64 1]) ∧ Ext w w' := by
  have hF : faultAll [x, y] = 1 := by rw [faultAll_two, h]; rfl
  clear h
  go_enter Tryd.func11, Tryd.ntmps11
  go_wp2_with (go_at_call 22; refine (checkAll_any _ 0 2 [x, y] _ (by simp) (rows4_two (Blk.new' (by simp))) (by simp)).mono ?_; rintro e w1 ⟨rfl, hb1⟩; obtain ⟨hc1, hf1, hz1⟩ := hb1.walk; (try simp only [World.size_alloc, World.size_setCell, World.size_drew] at hz1))
  go_light
  exact bodyPost_ret (v := .tuple #[.agg #[.int .i64 0, .int .i64 0, .int .i64 0, .int .i64 0], .int .i64 1]) (by simp [results, Tryd.results11, go_sem, *]) rfl ⟨rfl, (by (repeat (with_reducible first | assumption | exact Ext.refl _ | refine Ext.drew ?_ | refine Ext.alloc ?_ _ | refine Ext.setCell ?_ (by simp <;> omega) _ | refine Ext.trans ?_ (by assumption))))⟩


set_option maxRecDepth 100000 in
theorem sum1_any (x y : I4) (w : World) (h : bothB x y = true) :
    Calls Tryd.prog 11 #[.agg #[.int .i64 x.a, .int .i64 x.b, .int .i64 x.c, .int .i64 x.d], .agg #[.int .i64 y.a, .int .i64 y.b, .int .i64 y.c, .int .i64 y.d]] w fun e w' =>
      e = .returned (.tuple #[.agg #[.int .i64 (okI (addI x y)).a, .int .i64 (okI (addI x y)).b, .int .i64 (okI (addI x y)).c, .int .i64 (okI (addI x y)).d], .int .i64 (faultI (addI x y))]) ∧ Ext w w' := by
  have hF : faultAll [x, y] = 0 := by rw [faultAll_two, h]; rfl
  clear h
  go_enter Tryd.func11, Tryd.ntmps11
  go_wp2_with (first | (go_at_call 22; refine (checkAll_any _ 0 2 [x, y] _ (by simp) (rows4_two (Blk.new' (by simp))) (by simp)).mono ?_; rintro e w1 ⟨rfl, hb1⟩; obtain ⟨hc1, hf1, hz1⟩ := hb1.walk; (try simp only [World.size_alloc, World.size_setCell, World.size_drew] at hz1)) | (go_at_call 27; refine (sum_any x y _).mono ?_; rintro e wk ⟨rfl, hbk⟩; replace hb1 := Ext.trans hb1 (Ext.trans (by (repeat (with_reducible first | assumption | exact Ext.refl _ | refine Ext.drew ?_ | refine Ext.alloc ?_ _ | refine Ext.setCell ?_ (by simp <;> omega) _ | refine Ext.trans ?_ (by assumption)))) hbk); clear hbk hc1 hf1 hz1; obtain ⟨hc1, hf1, hz1⟩ := hb1.walk; (try simp only [World.size_alloc, World.size_setCell, World.size_drew] at hz1)) | (go_at_call 26; refine (checked_any (addI x y) _).mono ?_; rintro e wk ⟨rfl, hbk⟩; replace hb1 := Ext.trans hb1 (Ext.trans (by (repeat (with_reducible first | assumption | exact Ext.refl _ | refine Ext.drew ?_ | refine Ext.alloc ?_ _ | refine Ext.setCell ?_ (by simp <;> omega) _ | refine Ext.trans ?_ (by assumption)))) hbk); clear hbk hc1 hf1 hz1; obtain ⟨hc1, hf1, hz1⟩ := hb1.walk; (try simp only [World.size_alloc, World.size_setCell, World.size_drew] at hz1)))
  go_light
  exact bodyPost_ret (v := .tuple #[.agg #[.int .i64 (okI (addI x y)).a, .int .i64 (okI (addI x y)).b, .int .i64 (okI (addI x y)).c, .int .i64 (okI (addI x y)).d], .int .i64 (faultI (addI x y))]) (by simp [results, Tryd.results11, go_sem, *]) rfl ⟨rfl, (by (repeat (with_reducible first | assumption | exact Ext.refl _ | refine Ext.drew ?_ | refine Ext.alloc ?_ _ | refine Ext.setCell ?_ (by simp <;> omega) _ | refine Ext.trans ?_ (by assumption))))⟩

end Go.Proofs.YtkfdolnnkbhlhaaDoor
