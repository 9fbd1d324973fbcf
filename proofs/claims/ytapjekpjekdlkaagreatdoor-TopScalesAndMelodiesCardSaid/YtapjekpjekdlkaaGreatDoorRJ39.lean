/- A scale that is turned twelve times: plain numbers. Conditions: the scale is right. A scale that is turned once. Conditions: as each theorem says. A scale equals itself. Conditions: twelve intervals. The difference of two pitches, checked. Conditions: as each theorem says. -/
import Derived.Test.YtapjekpjekdlkaaGreatDoorRJ38
import Derived.Laws.StructEq
set_option linter.unusedSimpArgs false
set_option linter.unusedVariables false
namespace Go.Proofs.YtapjekpjekdlkaaGreatDoor
open Go Go.RowKit

/-- The pitch m of a scale, without a bound. -/
def hiI (xs : List I4) (m : Nat) : I4 := (xs.getD (m % 12) zeroI).up ((m / 12 : Nat) : Int)
/-- The scale turned once, as the text reckons it. -/
def turnE (xs : List I4) (k : Nat) : I4 := betI (xs.getD 1 zeroI) (xs.getD ((1 + k) % 12) zeroI) 1 (1 + k)
def turn (xs : List I4) : List I4 := (List.range 12).map (turnE xs)
end Go.Proofs.YtapjekpjekdlkaaGreatDoor

namespace Go.Proofs.YtapjekpjekdlkaaGreatDoor
open Go Go.RowKit

end Go.Proofs.YtapjekpjekdlkaaGreatDoor

namespace Go.Proofs.YtapjekpjekdlkaaGreatDoor
open Go Go.RowKit

end Go.Proofs.YtapjekpjekdlkaaGreatDoor

namespace Go.Proofs.YtapjekpjekdlkaaGreatDoor
open Go Go.RowKit

theorem bet_plain {x y : I4} (hx : rightB x = true) (hy : rightB y = true) {i j : Nat} (hi : i ≤ 127) (hj : j ≤ 127) : betI x y i j = (y.up ((j / 12 : Nat) : Int)).sub_ (x.up ((i / 12 : Nat) : Int)) := by
  obtain ⟨⟨a0, a1⟩, ⟨b0, b1⟩, ⟨c0, c1⟩, ⟨d0, d1⟩⟩ := right_bounds hx
  obtain ⟨⟨e0, e1⟩, ⟨f0, f1⟩, ⟨g0, g1⟩, ⟨h0, h1⟩⟩ := right_bounds hy
  have hw : ∀ z : Int, -1000 ≤ z → z ≤ 1000 → wrap64 z = z := fun z h0 h1 => IntWalk.wrap64_in z (by omega)
  unfold betI addI negI I4.up I4.sub_
  simp only
  refine I4.eq ?_ ?_ ?_ ?_ <;> simp only
  · rw [hw (-(x.a + _)) (by omega) (by omega), hw _ (by omega) (by omega)]; omega
  · rw [hw (-x.b) (by omega) (by omega), hw _ (by omega) (by omega)]; omega
  · rw [hw (-x.c) (by omega) (by omega), hw _ (by omega) (by omega)]; omega
  · rw [hw (-x.d) (by omega) (by omega), hw _ (by omega) (by omega)]; omega
theorem bet_sum {x y z : I4} (hx : rightB x = true) (hy : rightB y = true) (hz : rightB z = true) {i j k : Nat} (hi : i ≤ 127) (hj : j ≤ 127) (hk : k ≤ 127) : addI (betI x y i j) (betI y z j k) = betI x z i k := by
  rw [bet_plain hx hy hi hj, bet_plain hy hz hj hk, bet_plain hx hz hi hk]
  obtain ⟨⟨a0, a1⟩, ⟨b0, b1⟩, ⟨c0, c1⟩, ⟨d0, d1⟩⟩ := right_bounds hx
  obtain ⟨⟨e0, e1⟩, ⟨f0, f1⟩, ⟨g0, g1⟩, ⟨h0, h1⟩⟩ := right_bounds hy
  obtain ⟨⟨i0, i1⟩, ⟨j0, j1⟩, ⟨k0, k1⟩, ⟨l0, l1⟩⟩ := right_bounds hz
  have hw : ∀ z : Int, -1000 ≤ z → z ≤ 1000 → wrap64 z = z := fun z h0 h1 => IntWalk.wrap64_in z (by omega)
  unfold addI I4.up I4.sub_
  simp only
  refine I4.eq ?_ ?_ ?_ ?_ <;> (simp only; rw [hw _ (by omega) (by omega)]; omega)

set_option maxRecDepth 100000 in
set_option maxHeartbeats 1600000 in
theorem betw_any (xs : List I4) (i j : Nat) (x y : I4) (w : World) (h : ScaleOk xs) (hi : i ≤ 127) (hj : j ≤ 127) (hx : xs[i % 12]? = some x) (hy : xs[j % 12]? = some y) :
    Calls Tryz.prog 7 #[.agg (sc xs), .int .i64 (i : Int), .int .i64 (j : Int)] w fun e w' =>
      e = .returned (.tuple #[.agg #[.int .i64 (okI (betI x y i j)).a, .int .i64 (okI (betI x y i j)).b, .int .i64 (okI (betI x y i j)).c, .int .i64 (okI (betI x y i j)).d], .int .i64 (faultI (betI x y i j))]) ∧ Ext w w' := by
  have hl := h.len
  have hinf := sc_info hl
  have hck := fun u => checkScale_ok xs u h
  have hb := fun u => between_any xs i j x y u hl (by omega) (by omega) hx hy (h.right x (List.mem_of_getElem? hx)) (h.right y (List.mem_of_getElem? hy))
  have h1 : outB (i : Int) 0 127 = false := by rw [outB_inB]; simp [inB_iff]; omega
  have h2 : outB (j : Int) 0 127 = false := by rw [outB_inB]; simp [inB_iff]; omega
  have ho1 := fun u => (outside_any (i : Int) 0 127 u)
  have ho2 := fun u => (outside_any (j : Int) 0 127 u)
  have h3 := fun u => checked_any (betI x y i j) u
  rw [h1] at ho1
  rw [h2] at ho2
  have hX : Blk ((w.alloc (.cells (sc xs) 29)).alloc (.cells #[.int .i64 0, .int .i64 0, .int .i64 0, .int .i64 0] 27)) w.heap.size 29 (sc xs) := (Blk.new' rfl).alloc _
  have hZ : Blk ((w.alloc (.cells (sc xs) 29)).alloc (.cells #[.int .i64 0, .int .i64 0, .int .i64 0, .int .i64 0] 27)) (w.heap.size + 1) 27 #[.int .i64 0, .int .i64 0, .int .i64 0, .int .i64 0] := Blk.new' (by simp)
  have hE : Ext w ((w.alloc (.cells (sc xs) 29)).alloc (.cells #[.int .i64 0, .int .i64 0, .int .i64 0, .int .i64 0] 27)) := ((Ext.refl w).alloc _).alloc _
  replace hx := Lib.hid hx
  replace hy := Lib.hid hy
  replace hl := Lib.hid hl
  replace h := Lib.hid h
  replace hck := Lib.hid hck
  replace hb := Lib.hid hb
  replace ho1 := Lib.hid ho1
  replace ho2 := Lib.hid ho2
  replace h3 := Lib.hid h3
  clear h1 h2
  generalize okI (betI x y i j) = p at *
  generalize faultI (betI x y i j) = f at *
  generalize betI x y i j = q at *
  go_enter Tryz.func7, Tryz.ntmps7
  go_wp2_with (first
    | (refine wpList_load_row rfl 29 _ rfl w.heap.size rfl 29 (sc xs) (0, 0) _ hX Tryz.underlying29 rfl hinf ?_)
    | (refine wpList_load_row rfl 29 _ rfl w.heap.size rfl 29 (sc xs) (0, 0) _ hX1 Tryz.underlying29 rfl hinf ?_)
    | (go_at_call 18; (with_reducible refine Calls.mono (hck.out _) ?_); rintro e w1 ⟨rfl, hb1⟩; have hX1 := hX.ext hb1; have hZ1 := hZ.ext hb1; have hE1 := hE.trans hb1; clear hX hZ hE hb1)
    | (go_at_call 19; (with_reducible refine Calls.mono (ho1.out _) ?_); rintro e w' ⟨rfl, rfl⟩)
    | (go_at_call 19; (with_reducible refine Calls.mono (ho2.out _) ?_); rintro e w' ⟨rfl, rfl⟩)
    | (go_at_call 21; (with_reducible refine Calls.mono (hb.out _) ?_); rintro e w2 ⟨rfl, hb2⟩; have hZ2 := hZ1.ext hb2; have hE2 := hE1.trans hb2; clear hX1 hZ1 hE1 hb2)
    | (go_at_call 20; (with_reducible refine Calls.mono (h3.out _) ?_); rintro e w3 ⟨rfl, hb3⟩; have hZ3 := hZ2.ext hb3; have hE3 := hE2.trans hb3; clear hZ2 hE2 hb3; obtain ⟨z1, z2⟩ := hZ3.walk))
  go_light
  exact bodyPost_ret (v := .tuple #[.agg #[.int .i64 p.a, .int .i64 p.b, .int .i64 p.c, .int .i64 p.d], .int .i64 f]) (by simp [results, Tryz.results7, go_sem, *]) rfl ⟨rfl, (by (repeat (with_reducible first | assumption | exact Ext.refl _ | refine Ext.drew ?_ | refine Ext.alloc ?_ _ | refine Ext.setCell ?_ (by simp <;> omega) _ | refine Ext.trans ?_ (by assumption))))⟩
end Go.Proofs.YtapjekpjekdlkaaGreatDoor
