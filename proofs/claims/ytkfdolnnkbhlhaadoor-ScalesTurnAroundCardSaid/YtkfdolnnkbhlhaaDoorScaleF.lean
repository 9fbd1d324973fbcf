/- A right scale that the stream makes. Conditions: as each theorem says. -/
import Derived.Test.YtkfdolnnkbhlhaaDoorScaleE
namespace Go.Proofs.YtkfdolnnkbhlhaaDoor
open Go Go.RowKit

set_option maxRecDepth 100000 in
set_option maxHeartbeats 1600000 in
theorem rightScale_any (s k : Nat) (w : World) (hk : k ≤ 980000) (h : Str w s k) :
    Calls Tryd.prog 5 #[.pointer (some ⟨s, 0, none⟩)] w fun e w' => ∃ xs : List I4, ScaleOk xs ∧ e = .returned (.agg (sc xs)) ∧ Str w' s (k + 180) ∧ ExtS s w w' := by
  have l0 := h.lt
  go_enter Tryd.func5, Tryd.ntmps5
  have hR : Blk (w.alloc (.cells (sc zeroL) 29)) w.heap.size 29 (sc zeroL) := Blk.new' rfl
  have hS := h.ext (Ext.alloc (Ext.refl w) (.cells (sc zeroL) 29))
  have hE := (ExtS.refl s w).alloc (.cells (sc zeroL) 29)
  go_wp2
  clear h
  go_loopw [4] (fun i wr => ∃ j : Nat, j ≤ 6 ∧ i = .int .i64 j ∧ Blk wr w.heap.size 29 (sc zeroL) ∧ Str wr s (k + 30 * j) ∧ ExtS s w wr) (fun i _ => 6 - (intOf i).toNat)
  case atStart => exact ⟨0, by omega, rfl, hR, hS, hE⟩
  case round =>
    clear hR hS hE
    obtain ⟨j, hj, rfl, hR, hS, hE⟩ := hrel
    by_cases hlt : j < 6
    · go_upto_region 4 with (first
        | (go_at_call 17; (with_reducible refine Calls.mono (scaleOf_any s (k + 30 * j) _ (by omega) hS) ?_); rintro e w2 ⟨xs, hl, rfl, hS2, hE2⟩; have hi := sc_info hl; have ho := sc_one xs; have hs := sc_same (show zeroL.length = 12 from rfl) hl; replace hl := Lib.hid hl)
        | (refine wpList_store_row rfl 29 _ _ rfl w2.heap.size (sc xs) rfl rfl 29 _ (heap_alloc_new w2 _) hi hs ho ?_))
      have hX : Blk ((w2.alloc (.cells (sc zeroL) 29)).setRow w2.heap.size (sc xs)) w2.heap.size 29 (sc xs) := setRow_blk (heap_alloc_new w2 _)
      have hR2 := ((hR.extS (show w.heap.size ≠ s by omega) hE2).alloc (.cells (sc zeroL) 29)).rowFar (g' := w2.heap.size) (Nat.ne_of_lt (Nat.lt_of_lt_of_le hR.lt hE2.2.2.2.1)) (sc xs)
      have hS3 := (hS2.ext (Ext.alloc (Ext.refl _) (.cells (sc zeroL) 29))).setRow (g := w2.heap.size) hS2.lt (sc xs)
      have hE3 := ((hE.trans hE2).alloc (.cells (sc zeroL) 29)).setRow (g := w2.heap.size) (cs := sc xs) (hE.trans hE2).2.2.2.1
      clear hR hS hE hE2 hS2
      have hrf := fun u => refScale_any xs u hl.out
      replace hrf := Lib.hid hrf
      go_upto_if 10 with (first
        | ((refine wpList_load_row rfl 29 _ rfl w2.heap.size rfl 29 (sc xs) (0, 0) _ hX Tryd.underlying29 rfl hi ?_))
        | (go_at_call 18; (with_reducible refine Calls.mono (hrf.out _) ?_); rintro e w4 ⟨v, rfl, hv, hb4⟩))
      have hX4 := hX.ext hb4
      have hR4 := hR2.ext hb4
      have hS4 := hS3.ext hb4
      have hE4 := hE3.ext hb4
      clear hX hR2 hS3 hE3 hb4 hrf
      by_cases hz : v = 0
      · subst hz
        replace hv := Lib.hid hv
        go_wp2_with (first
          | (refine wpList_load_row rfl 29 _ rfl w2.heap.size rfl 29 (sc xs) (0, 0) _ hX4 Tryd.underlying29 rfl hi ?_)
          | (refine wpList_store_row rfl 29 _ _ rfl w.heap.size (sc xs) rfl rfl 29 _ hR4 hi hs ho ?_))
        exact bodyPost_ret (v := .agg (sc xs)) (results_cell_row Tryd.results5 _ _ w.heap.size 29 (sc xs) (0, 0) _ rfl (setRow_blk hR4) Tryd.underlying29 rfl hi) rfl ⟨xs, hv.out (by trivial), rfl, (hS4.setRow (by omega) _).more (by omega), hE4.setRow (Nat.le_refl _)⟩
      · have hz' : (v == 0) = false := by simpa using hz
        replace hv := Lib.hid hv
        replace hz := Lib.hid hz
        go_wp2
        go_roundw
        case rel => exact ⟨j + 1, by omega, by go_num, hR4, hS4.more (by omega), hE4⟩
        case measure => simp [intOf]; omega
    · obtain rfl : j = 6 := by omega
      rw [show ((6 : Nat) : Int) = 6 from rfl]
      go_wp2_with (first
        | (go_at_call 19; refine Calls.mono (pureScale_any _) ?_; rintro e w1 ⟨rfl, hE1⟩; have hR1 := hR.ext hE1; have hS1 := hS.ext hE1; have hX1 := hE.ext hE1; clear hE1 hR hS hE)
        | (refine wpList_store_row rfl 29 _ _ rfl w.heap.size (sc pureL) rfl rfl 29 _ hR1 (sc_info rfl) (by kernel_rfl) (by kernel_rfl) ?_))
      exact bodyPost_ret (v := .agg (sc pureL)) (results_cell_row Tryd.results5 _ _ w.heap.size 29 (sc pureL) (0, 0) _ rfl (setRow_blk hR1) Tryd.underlying29 rfl (sc_info rfl)) rfl ⟨pureL, pure_ok, rfl, (hS1.setRow (by omega) _).more (by omega), hX1.setRow (Nat.le_refl _)⟩
end Go.Proofs.YtkfdolnnkbhlhaaDoor
