/- Scales that the stream makes. Conditions: as each theorem says. -/
import Derived.Test.YtkfdolnnkbhlhaaDoorScaleC
import Derived.Test.YtkfdolnnkbhlhaaDoorTuneM
namespace Go.Proofs.YtkfdolnnkbhlhaaDoor
open Go Go.RowKit

def pureL : List I4 := [⟨0, 0, 0, 0⟩, ⟨4, -1, -1, 0⟩, ⟨-3, 2, 0, 0⟩, ⟨1, 1, -1, 0⟩, ⟨-2, 0, 1, 0⟩, ⟨2, -1, 0, 0⟩, ⟨-5, 2, 1, 0⟩, ⟨-1, 1, 0, 0⟩, ⟨3, 0, -1, 0⟩, ⟨0, -1, 1, 0⟩, ⟨0, 2, -1, 0⟩, ⟨-3, 1, 1, 0⟩]
def fifthL : List I4 := [⟨0, 0, 0, 0⟩, ⟨-11, 7, 0, 0⟩, ⟨-3, 2, 0, 0⟩, ⟨5, -3, 0, 0⟩, ⟨-6, 4, 0, 0⟩, ⟨2, -1, 0, 0⟩, ⟨-9, 6, 0, 0⟩, ⟨-1, 1, 0, 0⟩, ⟨7, -4, 0, 0⟩, ⟨-4, 3, 0, 0⟩, ⟨4, -2, 0, 0⟩, ⟨-7, 5, 0, 0⟩]
theorem pure_ok : ScaleOk pureL := by
  refine ⟨rfl, by decide +kernel, rfl, fun j x y hx hy => ?_, fun x hx => ?_⟩
  · have hj : j < 11 := by have := (List.getElem?_eq_some_iff.1 hy).1; simp [pureL] at this; omega
    have key : ∀ j : Fin 11, cmpI (pureL.getD j.val zeroI) (pureL.getD (j.val + 1) zeroI) = -1 := by decide +kernel
    have := key ⟨j, hj⟩
    simp only [List.getD_eq_getElem?_getD, hx, hy, Option.getD_some] at this
    exact this
  · cases hx
    decide +kernel

theorem setRow_blk {w : World} {g : Nat} {t : TypeId} {old cs : Array Value} (h : Blk w g t old) : Blk (w.setRow g cs) g t cs := setRow_heap w g old cs t (0, 0) h
theorem setRow_ext {a w : World} {g : Nat} {cs : Array Value} (h : Ext a w) (hg : a.heap.size ≤ g) : Ext a (w.setRow g cs) :=
  ⟨h.os, h.tape, h.output, by simpa using h.size, fun k hk => (setRow_other w g k cs (by omega)).trans (h.block k hk)⟩

set_option maxRecDepth 100000 in
set_option maxHeartbeats 1600000 in
theorem pureScale_any (w : World) :
    Calls Tryd.prog 19 #[] w fun e w' => e = .returned (.agg (sc pureL)) ∧ Ext w w' := by
  go_enter Tryd.func19, Tryd.ntmps19
  go_wp2_with (refine wpList_store_row rfl 29 _ _ rfl w.heap.size (sc pureL) rfl rfl 29 _ (heap_alloc_new w _) (sc_info rfl) (by kernel_rfl) (by kernel_rfl) ?_)
  exact bodyPost_ret (v := .agg (sc pureL)) (results_cell_row Tryd.results19 _ _ w.heap.size 29 (sc pureL) (0, 0) _ rfl (setRow_blk (heap_alloc_new w _)) Tryd.underlying29 rfl (sc_info rfl)) rfl ⟨rfl, setRow_ext ((Ext.refl w).alloc _) (Nat.le_refl _)⟩
end Go.Proofs.YtkfdolnnkbhlhaaDoor
