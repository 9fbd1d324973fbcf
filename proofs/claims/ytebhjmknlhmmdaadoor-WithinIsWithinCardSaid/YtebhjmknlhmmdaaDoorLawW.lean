/- What is within its octave: the property answers true. Conditions: the argument is a list of ints that lies in memory; the table of the powers of ten stands. -/
import Derived.Test.YtebhjmknlhmmdaaDoorTuneJ
import Derived.Test.YtebhjmknlhmmdaaDoorTuneM
import Derived.Test.YtebhjmknlhmmdaaDoorReadyK
import Derived.Outline
namespace Go.Proofs.YtebhjmknlhmmdaaDoor
open Go Go.RowKit

theorem octI_shift (x : I4) : octI (shiftI x) = 0 := by
  have h1 := octI_plain (shiftI x)
  have h2 := octI_plain x
  have h3 : (shiftI x).plain = x.plain := rfl
  have h4 : (shiftI x).a = x.a - octI x := rfl
  rw [h3, h4] at h1
  omega
theorem oct_zero {n d : Nat} (hn : 1 ≤ n) (hd : 1 ≤ d) (h : octN n d = 0) : d ≤ n ∧ n < d * 2 := by
  obtain ⟨k, j, e, h1, h2⟩ := octN_is hn hd
  rw [h] at e
  obtain rfl : k = j := by omega
  have hp : 0 < 2 ^ k := Nat.pow_pos (by omega)
  constructor
  · exact Nat.le_of_mul_le_mul_right h1 hp
  · rw [Nat.pow_succ, ← Nat.mul_assoc, Nat.mul_right_comm] at h2
    exact Nat.lt_of_mul_lt_mul_right h2
theorem shift_low (x : I4) : cmpI ⟨0, 0, 0, 0⟩ (shiftI x) ≤ 0 := by
  obtain ⟨h1, h2⟩ := oct_zero (qn_pos _ _) (qn_pos _ _) (octI_shift x)
  unfold cmpI cmpN
  have e1 : qn ⟨0, 0, 0, 0⟩ 4 = 1 := rfl
  have e2 : qd ⟨0, 0, 0, 0⟩ 4 = 1 := rfl
  have e3 : qd (shiftI x) 4 = qn (shiftI x).neg_ 4 := rfl
  rw [e1, e2, e3]
  split
  · decide
  · split
    · decide
    · omega
theorem shift_high (x : I4) : cmpI (shiftI x) ⟨1, 0, 0, 0⟩ = -1 := by
  obtain ⟨h1, h2⟩ := oct_zero (qn_pos _ _) (qn_pos _ _) (octI_shift x)
  unfold cmpI cmpN
  have e1 : qn ⟨1, 0, 0, 0⟩ 4 = 2 := rfl
  have e2 : qd ⟨1, 0, 0, 0⟩ 4 = 1 := rfl
  have e3 : qd (shiftI x) 4 = qn (shiftI x).neg_ 4 := rfl
  rw [e1, e2, e3]
  rw [if_pos (by omega)]

set_option maxRecDepth 100000 in
set_option maxHeartbeats 3200000 in
theorem law_any (B : Nat) (w : World) (p : Option Addr) (n c : Nat) (h : Lst w w.heap.size p n) (ht : Tab B w) :
    Calls Tryd.prog 3 #[.slice p n c] w fun e w' => e = .returned (.bool true) ∧ Ext w w' := by
  have hS0 : Str (w.alloc (.cells #[.slice p n c, .int .i64 0] 25)) w.heap.size 0 := ⟨p, n, c, 0, Nat.le_refl _, Blk.new' rfl, h.low fun j hj => Below.heap_alloc w _ j hj⟩
  have hB := ht.1
  clear h
  go_enter Tryd.func3, Tryd.ntmps3
  go_upto_region 3 with (go_at_call 7; (with_reducible refine Calls.mono (interval_any w.heap.size 0 _ (by omega) hS0) ?_); rintro e w1 ⟨x, rfl, hS1, hE1⟩)
  have hI := Blk.new' (w := w1) (t := 27) (cs := #[.int .i64 x.a, .int .i64 x.b, .int .i64 x.c, .int .i64 x.d]) rfl
  have hE : Ext w (w1.alloc (.cells #[.int .i64 x.a, .int .i64 x.b, .int .i64 x.c, .int .i64 x.d] 27)) := ExtS.back (Ext.refl w) (Nat.le_refl _) (((ExtS.refl _ w).alloc _).trans hE1 |>.alloc _)
  clear hS0 hS1 hE1
  replace hI := Lib.hid hI
  replace hE := Lib.hid hE
  cases ha : rightB x
  · go_wp2_with (first
      | (go_at_call 8; (with_reducible refine Calls.mono (within0_any x _ ha) ?_); rintro e w2 ⟨rfl, hb2⟩)
      | (go_at_call 9; refine (ready_any B _ (by exact ht.ext ((hE.out.trans hb2).alloc _))).mono ?_; rintro e w3 ⟨rfl, hb3⟩))
    go_ret
    exact ⟨rfl, by exact ((hE.out.trans hb2).alloc _).trans hb3⟩
  · cases hs : rightB (shiftI x)
    · have e1 : okI (shiftI x) = ⟨0, 0, 0, 0⟩ := by unfold okI; rw [hs]; rfl
      have e2 : octR x = 0 := by unfold octR; rw [hs]; rfl
      have e3 : faultI (shiftI x) = 1 := by unfold faultI; rw [hs]; rfl
      have hw1 := fun W => within1_any x W ha
      rw [e1, e2, e3] at hw1
      replace hw1 := Lib.hid hw1
      clear e1 e2 e3
      go_wp2_with (first
        | (go_at_call 8; (with_reducible refine Calls.mono (hw1.out _) ?_); rintro e w2 ⟨rfl, hb2⟩)
        | (go_at_call 9; refine (ready_any B _ (by exact ht.ext ((hE.out.trans hb2).alloc _))).mono ?_; rintro e w3 ⟨rfl, hb3⟩))
      go_ret
      exact ⟨rfl, by exact ((hE.out.trans hb2).alloc _).trans hb3⟩
    · have e1 : okI (shiftI x) = shiftI x := by unfold okI; rw [hs]; rfl
      have e2 : octR x = octI x := by unfold octR; rw [hs]; rfl
      have e3 : faultI (shiftI x) = 0 := by unfold faultI; rw [hs]; rfl
      have hw1 := fun W => within1_any x W ha
      rw [e1, e2, e3] at hw1
      have hz : rightB ⟨0, 0, 0, 0⟩ = true := by decide
      have ho : rightB ⟨1, 0, 0, 0⟩ = true := by decide
      have k1 := fun W => com1_any ⟨0, 0, 0, 0⟩ (shiftI x) W (by unfold bothB; rw [hs]; rfl) hz hs
      have k2 := fun W => com1_any (shiftI x) ⟨1, 0, 0, 0⟩ W (by unfold bothB; rw [hs]; rfl) hs ho
      rw [shift_high] at k2
      have hlow := shift_low x
      have hsa : (shiftI x).a + octI x = x.a := by unfold shiftI; simp only; omega
      have hsb : (shiftI x).b = x.b := rfl
      have hsc : (shiftI x).c = x.c := rfl
      have hsd : (shiftI x).d = x.d := rfl
      have bx := right_bounds ha
      have bs := right_bounds hs
      rw [hsb, hsc, hsd] at hw1 k1 k2
      generalize cmpI ⟨0, 0, 0, 0⟩ (shiftI x) = low at k1 hlow
      generalize (shiftI x).a = sa at *
      generalize octI x = oc at *
      clear e1 e2 e3 hsb hsc hsd hs hz ho
      replace hw1 := Lib.hid hw1
      replace k1 := Lib.hid k1
      replace k2 := Lib.hid k2
      have hwx : wrap64 (sa + oc) = x.a := by rw [IntWalk.wrap64_in _ (by omega), hsa]
      replace hsa := Lib.hid hsa
      go_wp2_with (first
        | (go_at_call 8; (with_reducible refine Calls.mono (hw1.out _) ?_); rintro e w2 ⟨rfl, hb2⟩; have l12 : w1.heap.size < w2.heap.size := (by have := hb2.size; simp at this; omega); have n12 : ¬ w1.heap.size = w2.heap.size := (by omega); have l02 : w.heap.size ≤ w2.heap.size := Below.size (hE.out.trans hb2))
        | (go_at_call 10; (with_reducible refine Calls.mono (k1.out _) ?_); rintro e w3 ⟨rfl, hb3⟩; have hW3 : Blk w3 w2.heap.size 27 #[.int .i64 sa, .int .i64 x.b, .int .i64 x.c, .int .i64 x.d] := (by exact Blk.ext (Blk.new' rfl) hb3); have hI3 := Blk.ext (Blk.alloc (Blk.ext hI.out hb2) _) hb3; have hE3 := ((hE.out.trans hb2).alloc _).trans hb3; obtain ⟨s3, f3⟩ := hW3.walk; clear hb2 hb3 hI hE hw1 k1; replace hW3 := Lib.hid hW3; replace hI3 := Lib.hid hI3; replace hE3 := Lib.hid hE3)
        | (go_at_call 10; (with_reducible refine Calls.mono (k2.out _) ?_); rintro e w4 ⟨rfl, hb4⟩; have hW4 := Blk.ext hW3.out hb4; have hI4 := Blk.ext hI3.out hb4; have hE4 := hE3.out.trans hb4; have l1 := hI3.out.lt; have l2 := hW3.out.lt; obtain ⟨s4, f4⟩ := hW4.walk; obtain ⟨q4, r4⟩ := hI4.walk; clear hb4 s3 f3 hW3 hI3 hE3 k2; replace hW4 := Lib.hid hW4; replace hI4 := Lib.hid hI4; replace hE4 := Lib.hid hE4)
        | (go_at_call 9; refine (ready_any B _ (by exact ht.ext (hE4.out.setCell (by exact l02) _))).mono ?_; rintro e w5 ⟨rfl, hb5⟩))
      go_ret
      exact ⟨rfl, by exact (hE4.out.setCell (by exact l02) _).trans hb5⟩

end Go.Proofs.YtebhjmknlhmmdaaDoor
