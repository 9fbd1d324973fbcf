/- Intervals: sums and differences, by both texts. Conditions: none. -/
import Derived.Test.YtebhjmknlhmmdaaGreatDoorTuneA
namespace Go.Proofs.YtebhjmknlhmmdaaGreatDoor
open Go Go.RowKit

set_option maxRecDepth 100000 in
theorem inverse_any (x : I4) (w : World) :
    Calls Tryz.prog 25 #[.agg #[.int .i64 x.a, .int .i64 x.b, .int .i64 x.c, .int .i64 x.d]] w fun e w' =>
      e = .returned (.agg #[.int .i64 (negI x).a, .int .i64 (negI x).b, .int .i64 (negI x).c, .int .i64 (negI x).d]) ∧ Ext w w' := by
  go_enter Tryz.func25, Tryz.ntmps25
  go_wp2
  go_light
  exact bodyPost_ret (v := .agg #[.int .i64 (negI x).a, .int .i64 (negI x).b, .int .i64 (negI x).c, .int .i64 (negI x).d]) (by simp [results, Tryz.results25, go_sem, negI]) rfl ⟨rfl, (by (repeat (with_reducible first | assumption | exact Ext.refl _ | refine Ext.drew ?_ | refine Ext.alloc ?_ _ | refine Ext.setCell ?_ (by simp <;> omega) _ | refine Ext.trans ?_ (by assumption))))⟩

theorem rows4_two {w : World} {g : Nat} {t : TypeId} {x y : I4} (h : Blk w g t #[.int .i64 x.a, .int .i64 x.b, .int .i64 x.c, .int .i64 x.d, .int .i64 y.a, .int .i64 y.b, .int .i64 y.c, .int .i64 y.d]) : Rows4 w g 0 [x, y] := by
  intro i z hz
  match i, hz with
  | 0, hz => simp at hz; subst hz; simp [h.cell]
  | 1, hz => simp at hz; subst hz; simp [h.cell]

def bothB (x y : I4) : Bool := rightB x && rightB y
theorem faultAll_two (x y : I4) : faultAll [x, y] = if bothB x y then 0 else 1 := by
  unfold faultAll faultAll faultAll bothB
  cases rightB x <;> cases rightB y <;> rfl
def zeroI : I4 := ⟨0, 0, 0, 0⟩
def sumR (x y : I4) : I4 := if bothB x y then okI (addI x y) else zeroI
def sumE (x y : I4) : Int := if bothB x y then faultI (addI x y) else 1
def difR (x y : I4) : I4 := if bothB x y then okI (addI x (negI y)) else zeroI
def difE (x y : I4) : Int := if bothB x y then faultI (addI x (negI y)) else 1



set_option maxRecDepth 100000 in
theorem sum0_any (x y : I4) (w : World) (h : bothB x y = false) :
    Calls Tryz.prog 11 #[.agg #[.int .i64 x.a, .int .i64 x.b, .int .i64 x.c, .int .i64 x.d], .agg #[.int .i64 y.a, .int .i64 y.b, .int .i64 y.c, .int .i64 y.d]] w fun e w' =>
      e = .returned (.tuple #[.agg #[.int .i64 0, .int .i64 0, .int .i64 0, .int .i64 0], .int .i64 1]) ∧ Ext w w' := by
  have hF : faultAll [x, y] = 1 := by rw [faultAll_two, h]; rfl
  clear h
  go_enter Tryz.func11, Tryz.ntmps11
  go_wp2_with (go_at_call 22; refine (checkAll_any _ 0 2 [x, y] _ (by simp) (rows4_two (Blk.new' (by simp))) (by simp)).mono ?_; rintro e w1 ⟨rfl, hb1⟩; obtain ⟨hc1, hf1, hz1⟩ := hb1.walk; (try simp only [World.size_alloc, World.size_setCell, World.size_drew] at hz1))
  go_light
  exact bodyPost_ret (v := .tuple #[.agg #[.int .i64 0, .int .i64 0, .int .i64 0, .int .i64 0], .int .i64 1]) (by simp [results, Tryz.results11, go_sem, *]) rfl ⟨rfl, (by (repeat (with_reducible first | assumption | exact Ext.refl _ | refine Ext.drew ?_ | refine Ext.alloc ?_ _ | refine Ext.setCell ?_ (by simp <;> omega) _ | refine Ext.trans ?_ (by assumption))))⟩


set_option maxRecDepth 100000 in
theorem sum1_any (x y : I4) (w : World) (h : bothB x y = true) :
    Calls Tryz.prog 11 #[.agg #[.int .i64 x.a, .int .i64 x.b, .int .i64 x.c, .int .i64 x.d], .agg #[.int .i64 y.a, .int .i64 y.b, .int .i64 y.c, .int .i64 y.d]] w fun e w' =>
      e = .returned (.tuple #[.agg #[.int .i64 (okI (addI x y)).a, .int .i64 (okI (addI x y)).b, .int .i64 (okI (addI x y)).c, .int .i64 (okI (addI x y)).d], .int .i64 (faultI (addI x y))]) ∧ Ext w w' := by
  have hF : faultAll [x, y] = 0 := by rw [faultAll_two, h]; rfl
  clear h
  go_enter Tryz.func11, Tryz.ntmps11
  go_wp2_with (first | (go_at_call 22; refine (checkAll_any _ 0 2 [x, y] _ (by simp) (rows4_two (Blk.new' (by simp))) (by simp)).mono ?_; rintro e w1 ⟨rfl, hb1⟩; obtain ⟨hc1, hf1, hz1⟩ := hb1.walk; (try simp only [World.size_alloc, World.size_setCell, World.size_drew] at hz1)) | (go_at_call 24; refine (sum_any x y _).mono ?_; rintro e wk ⟨rfl, hbk⟩; replace hb1 := Ext.trans hb1 (Ext.trans (by (repeat (with_reducible first | assumption | exact Ext.refl _ | refine Ext.drew ?_ | refine Ext.alloc ?_ _ | refine Ext.setCell ?_ (by simp <;> omega) _ | refine Ext.trans ?_ (by assumption)))) hbk); clear hbk hc1 hf1 hz1; obtain ⟨hc1, hf1, hz1⟩ := hb1.walk; (try simp only [World.size_alloc, World.size_setCell, World.size_drew] at hz1)) | (go_at_call 23; refine (checked_any (addI x y) _).mono ?_; rintro e wk ⟨rfl, hbk⟩; replace hb1 := Ext.trans hb1 (Ext.trans (by (repeat (with_reducible first | assumption | exact Ext.refl _ | refine Ext.drew ?_ | refine Ext.alloc ?_ _ | refine Ext.setCell ?_ (by simp <;> omega) _ | refine Ext.trans ?_ (by assumption)))) hbk); clear hbk hc1 hf1 hz1; obtain ⟨hc1, hf1, hz1⟩ := hb1.walk; (try simp only [World.size_alloc, World.size_setCell, World.size_drew] at hz1)))
  go_light
  exact bodyPost_ret (v := .tuple #[.agg #[.int .i64 (okI (addI x y)).a, .int .i64 (okI (addI x y)).b, .int .i64 (okI (addI x y)).c, .int .i64 (okI (addI x y)).d], .int .i64 (faultI (addI x y))]) (by simp [results, Tryz.results11, go_sem, *]) rfl ⟨rfl, (by (repeat (with_reducible first | assumption | exact Ext.refl _ | refine Ext.drew ?_ | refine Ext.alloc ?_ _ | refine Ext.setCell ?_ (by simp <;> omega) _ | refine Ext.trans ?_ (by assumption))))⟩

set_option maxRecDepth 100000 in
theorem dif0_any (x y : I4) (w : World) (h : bothB x y = false) :
    Calls Tryz.prog 8 #[.agg #[.int .i64 x.a, .int .i64 x.b, .int .i64 x.c, .int .i64 x.d], .agg #[.int .i64 y.a, .int .i64 y.b, .int .i64 y.c, .int .i64 y.d]] w fun e w' =>
      e = .returned (.tuple #[.agg #[.int .i64 0, .int .i64 0, .int .i64 0, .int .i64 0], .int .i64 1]) ∧ Ext w w' := by
  have hF : faultAll [x, y] = 1 := by rw [faultAll_two, h]; rfl
  clear h
  go_enter Tryz.func8, Tryz.ntmps8
  go_wp2_with (go_at_call 22; refine (checkAll_any _ 0 2 [x, y] _ (by simp) (rows4_two (Blk.new' (by simp))) (by simp)).mono ?_; rintro e w1 ⟨rfl, hb1⟩; obtain ⟨hc1, hf1, hz1⟩ := hb1.walk; (try simp only [World.size_alloc, World.size_setCell, World.size_drew] at hz1))
  go_light
  exact bodyPost_ret (v := .tuple #[.agg #[.int .i64 0, .int .i64 0, .int .i64 0, .int .i64 0], .int .i64 1]) (by simp [results, Tryz.results8, go_sem, *]) rfl ⟨rfl, (by (repeat (with_reducible first | assumption | exact Ext.refl _ | refine Ext.drew ?_ | refine Ext.alloc ?_ _ | refine Ext.setCell ?_ (by simp <;> omega) _ | refine Ext.trans ?_ (by assumption))))⟩


set_option maxRecDepth 100000 in
theorem dif1_any (x y : I4) (w : World) (h : bothB x y = true) :
    Calls Tryz.prog 8 #[.agg #[.int .i64 x.a, .int .i64 x.b, .int .i64 x.c, .int .i64 x.d], .agg #[.int .i64 y.a, .int .i64 y.b, .int .i64 y.c, .int .i64 y.d]] w fun e w' =>
      e = .returned (.tuple #[.agg #[.int .i64 (okI (addI x (negI y))).a, .int .i64 (okI (addI x (negI y))).b, .int .i64 (okI (addI x (negI y))).c, .int .i64 (okI (addI x (negI y))).d], .int .i64 (faultI (addI x (negI y)))]) ∧ Ext w w' := by
  have hF : faultAll [x, y] = 0 := by rw [faultAll_two, h]; rfl
  clear h
  go_enter Tryz.func8, Tryz.ntmps8
  go_wp2_with (go_at_call 22; refine (checkAll_any _ 0 2 [x, y] _ (by simp) (rows4_two (Blk.new' (by simp))) (by simp)).mono ?_; rintro e w1 ⟨rfl, hb1⟩; obtain ⟨hc1, hf1, hz1⟩ := hb1.walk; (try simp only [World.size_alloc, World.size_setCell, World.size_drew] at hz1))
  have hx : Blk w1 w.heap.size 27 #[.int .i64 x.a, .int .i64 x.b, .int .i64 x.c, .int .i64 x.d] := Blk.ext (by (repeat (with_reducible first | assumption | exact Blk.new' (by simp) | refine Blk.drew ?_ | refine Blk.alloc ?_ _ | exact Ext.refl _ | refine Ext.drew ?_ | refine Ext.alloc ?_ _))) hb1
  have hy : Blk w1 (w.heap.size + 1) 27 #[.int .i64 y.a, .int .i64 y.b, .int .i64 y.c, .int .i64 y.d] := Blk.ext (by (repeat (with_reducible first | assumption | exact Blk.new' (by simp) | refine Blk.drew ?_ | refine Blk.alloc ?_ _ | exact Ext.refl _ | refine Ext.drew ?_ | refine Ext.alloc ?_ _))) hb1
  have hr : Blk w1 (w.heap.size + 1 + 1) 27 #[.int .i64 0, .int .i64 0, .int .i64 0, .int .i64 0] := Blk.ext (by (repeat (with_reducible first | assumption | exact Blk.new' (by simp) | refine Blk.drew ?_ | refine Blk.alloc ?_ _ | exact Ext.refl _ | refine Ext.drew ?_ | refine Ext.alloc ?_ _))) hb1
  have he : Ext w w1 := (by (repeat (with_reducible first | assumption | exact Ext.refl _ | refine Ext.drew ?_ | refine Ext.alloc ?_ _ | refine Ext.setCell ?_ (by simp <;> omega) _ | refine Ext.trans ?_ (by assumption))))
  clear hc1 hf1 hb1
  refine wp_region_planS [(0, true), (1, true), (2, true), (3, true), (4, true), (5, true), (6, true)] 7 (fun w' => Blk w' w.heap.size 27 #[.int .i64 x.a, .int .i64 x.b, .int .i64 x.c, .int .i64 x.d] ∧ Blk w' (w.heap.size + 1) 27 #[.int .i64 y.a, .int .i64 y.b, .int .i64 y.c, .int .i64 y.d] ∧ Blk w' (w.heap.size + 1 + 1) 27 #[.int .i64 0, .int .i64 0, .int .i64 0, .int .i64 0] ∧ Ext w w') Ext (by kernel_rfl) (by kernel_rfl) Ext.refl (fun _ _ _ => Ext.trans) (fun _ _ h he => ⟨h.1.ext he, h.2.1.ext he, h.2.2.1.ext he, h.2.2.2.trans he⟩) ⟨(by (repeat (with_reducible first | assumption | exact Blk.new' (by simp) | refine Blk.drew ?_ | refine Blk.alloc ?_ _ | exact Ext.refl _ | refine Ext.drew ?_ | refine Ext.alloc ?_ _))), (by (repeat (with_reducible first | assumption | exact Blk.new' (by simp) | refine Blk.drew ?_ | refine Blk.alloc ?_ _ | exact Ext.refl _ | refine Ext.drew ?_ | refine Ext.alloc ?_ _))), (by (repeat (with_reducible first | assumption | exact Blk.new' (by simp) | refine Blk.drew ?_ | refine Blk.alloc ?_ _ | exact Ext.refl _ | refine Ext.drew ?_ | refine Ext.alloc ?_ _))), (by (repeat (with_reducible first | assumption | exact Blk.new' (by simp) | refine Blk.drew ?_ | refine Blk.alloc ?_ _ | exact Ext.refl _ | refine Ext.drew ?_ | refine Ext.alloc ?_ _)))⟩ ?_
  repeat
    first
      | (refine plan_quiet rfl rfl (fun _ _ _ _ h => h) ?_
         apply Exists.intro
         refine ⟨fun w' hw' => ?_, ?_⟩
         · obtain ⟨hH0, hH1, hH2, hH3⟩ := hw'
           unfold Blk at hH0 hH1 hH2
           simp [go_sem, quietTo, World.cell?, hH0, hH1, hH2, Ext.refl, ↓IntWalk.iteOmega]
           first
             | rfl
             | (exact inverse_any y _)
             | (exact sum_any x (negI y) _)
             | (exact checked_any (addI x (negI y)) _)
         simp only [Act.put, List.setIfInBounds_toArray, List.set_cons_succ, List.set_cons_zero])
      | (refine plan_skip rfl rfl (fun _ _ _ _ h => h) ?_
         simp only [Act.put, List.setIfInBounds_toArray, List.set_cons_succ, List.set_cons_zero])
  refine plan_nil fun wr her hwr => ?_
  clear her
  obtain ⟨hH0, hH1, hH2, hH3⟩ := hwr
  obtain ⟨hC0, hF0⟩ := hH0.walk
  obtain ⟨hC1, hF1⟩ := hH1.walk
  obtain ⟨hC2, hF2⟩ := hH2.walk
  simp only [List.drop_succ_cons, List.drop_zero, List.drop_nil]
  go_wp2
  go_light
  exact bodyPost_ret (v := .tuple #[.agg #[.int .i64 (okI (addI x (negI y))).a, .int .i64 (okI (addI x (negI y))).b, .int .i64 (okI (addI x (negI y))).c, .int .i64 (okI (addI x (negI y))).d], .int .i64 (faultI (addI x (negI y)))]) (by simp [results, Tryz.results8, go_sem, *]) rfl ⟨rfl, (by (repeat (with_reducible first | assumption | exact Ext.refl _ | refine Ext.drew ?_ | refine Ext.alloc ?_ _ | refine Ext.setCell ?_ (by simp <;> omega) _ | refine Ext.trans ?_ (by assumption))))⟩

end Go.Proofs.YtebhjmknlhmmdaaGreatDoor
