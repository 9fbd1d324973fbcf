/- Scales that the stream makes. Conditions: as each theorem says. A scale that the stream makes. Conditions: as each theorem says. -/
import Derived.Test.YtapjekpjekdlkaaGreatDoorRScaleC
import Derived.Test.YtapjekpjekdlkaaGreatDoorRTuneM
set_option linter.unusedSimpArgs false
set_option linter.unusedVariables false
namespace Go.Proofs.YtapjekpjekdlkaaGreatDoor
open Go Go.RowKit

def pureL : List I4 := [⟨0, 0, 0, 0⟩, ⟨4, -1, -1, 0⟩, ⟨-3, 2, 0, 0⟩, ⟨1, 1, -1, 0⟩, ⟨-2, 0, 1, 0⟩, ⟨2, -1, 0, 0⟩, ⟨-5, 2, 1, 0⟩, ⟨-1, 1, 0, 0⟩, ⟨3, 0, -1, 0⟩, ⟨0, -1, 1, 0⟩, ⟨0, 2, -1, 0⟩, ⟨-3, 1, 1, 0⟩]
def fifthL : List I4 := [⟨0, 0, 0, 0⟩, ⟨-11, 7, 0, 0⟩, ⟨-3, 2, 0, 0⟩, ⟨5, -3, 0, 0⟩, ⟨-6, 4, 0, 0⟩, ⟨2, -1, 0, 0⟩, ⟨-9, 6, 0, 0⟩, ⟨-1, 1, 0, 0⟩, ⟨7, -4, 0, 0⟩, ⟨-4, 3, 0, 0⟩, ⟨4, -2, 0, 0⟩, ⟨-7, 5, 0, 0⟩]
theorem pure_ok : ScaleOk pureL := by
  refine ⟨rfl, by decide +kernel, rfl, fun j x y hx hy => ?_, fun x hx => ?_⟩
  · have hj : j < 11 := by have := (List.getElem?_eq_some_iff.1 hy).1; simp [pureL] at this; omega
    have key : ∀ j : Fin 11, cmpI (pureL.getD j.val zeroI) (pureL.getD (j.val + 1) zeroI) = -1 := by decide +kernel
    have := key ⟨j, hj⟩
    simp only [List.getD_eq_getElem?_getD, hx, hy, Option.getD_some] at this
    exact this
  · cases hx
    decide +kernel

theorem setRow_blk {w : World} {g : Nat} {t : TypeId} {old cs : Array Value} (h : Blk w g t old) : Blk (w.setRow g cs) g t cs := setRow_heap w g old cs t (0, 0) h
theorem setRow_ext {a w : World} {g : Nat} {cs : Array Value} (h : Ext a w) (hg : a.heap.size ≤ g) : Ext a (w.setRow g cs) :=
  ⟨h.os, h.tape, h.output, by simpa using h.size, fun k hk => (setRow_other w g k cs (by omega)).trans (h.block k hk)⟩

set_option maxRecDepth 100000 in
set_option maxHeartbeats 1600000 in
theorem pureScale_any (w : World) :
    Calls Tryz.prog 16 #[] w fun e w' => e = .returned (.agg (sc pureL)) ∧ Ext w w' := by
  go_enter Tryz.func16, Tryz.ntmps16
  go_wp2_with (refine wpList_store_row rfl 29 _ _ rfl w.heap.size (sc pureL) rfl rfl 29 _ (heap_alloc_new w _) (sc_info rfl) (by kernel_rfl) (by kernel_rfl) ?_)
  exact bodyPost_ret (v := .agg (sc pureL)) (results_cell_row Tryz.results16 _ _ w.heap.size 29 (sc pureL) (0, 0) _ rfl (setRow_blk (heap_alloc_new w _)) Tryz.underlying29 rfl (sc_info rfl)) rfl ⟨rfl, setRow_ext ((Ext.refl w).alloc _) (Nat.le_refl _)⟩
end Go.Proofs.YtapjekpjekdlkaaGreatDoor

namespace Go.Proofs.YtapjekpjekdlkaaGreatDoor
open Go Go.RowKit

def zeroL : List I4 := List.replicate 12 zeroI
theorem sc_one (xs : List I4) : (sc xs).all (·.oneCell') = true := by
  rw [Array.all_eq_true_iff_forall_mem]
  intro v hv
  unfold sc at hv
  rw [List.mem_toArray, List.mem_flatMap] at hv
  obtain ⟨x, -, hx⟩ := hv
  exact i4_one x v hx
theorem sc_same {xs ys : List I4} (hx : xs.length = 12) (hy : ys.length = 12) : (sc xs).size = (sc ys).size := by rw [sc_size, sc_size, hx, hy]
theorem Blk.rowFar {w : World} {g g' : Nat} {t : TypeId} {cs : Array Value} (h : Blk w g t cs) (hg : g ≠ g') (cs' : Array Value) : Blk (w.setRow g' cs') g t cs := (setRow_other w g' g cs' hg).trans h
theorem Str.setRow {w : World} {s k g : Nat} (h : Str w s k) (hg : s < g) (cs : Array Value) : Str (w.setRow g cs) s k := h.low fun j hj => setRow_other w g j cs (by omega)
theorem ExtS.setRow {s : Nat} {a w : World} {g : Nat} {cs : Array Value} (h : ExtS s a w) (hg : a.heap.size ≤ g) : ExtS s a (w.setRow g cs) :=
  ⟨h.1, h.2.1, h.2.2.1, by simpa using h.2.2.2.1, fun k hk hn => (setRow_other w g k cs (by omega)).trans (h.2.2.2.2 k hk hn)⟩
/-- One interval of a scale is set. -/
theorem sc_put {w : World} {g : Nat} {t : TypeId} {xs : List I4} (h : Blk w g t (sc xs)) {k : Nat} {x : I4} (hx : xs[k]? = some x) (y : I4) :
    Blk ((((w.setCell ⟨g, k * 4, none⟩ (.int .i64 y.a)).setCell ⟨g, k * 4 + 1, none⟩ (.int .i64 y.b)).setCell ⟨g, k * 4 + 2, none⟩ (.int .i64 y.c)).setCell ⟨g, k * 4 + 3, none⟩ (.int .i64 y.d)) g t (sc (xs.set k y)) := by
  have hk := (List.getElem?_eq_some_iff.1 hx).1
  have hs : ∀ y : I4, (xs.set k y)[k]? = some y := fun y => List.getElem?_set_self hk
  have step : ∀ {w : World} {zs : List I4} {z : I4}, Blk w g t (sc zs) → zs[k]? = some z → ∀ (j : Nat) (u : I4) (v : Value), j < 4 → i4C u = (i4C z).set j v → Blk (w.setCell ⟨g, k * 4 + j, none⟩ v) g t (sc (zs.set k u)) := fun {w zs z} hB hz j u v hj he =>
    (hB.set_ (k * 4 + j) v).cast (by
      unfold sc
      rw [← flat_set1 i4C_len hz j hj v he]
      simp)
  have h1 := step h hx 0 ⟨y.a, x.b, x.c, x.d⟩ (.int .i64 y.a) (by decide) rfl
  have h2 := step h1 (hs _) 1 ⟨y.a, y.b, x.c, x.d⟩ (.int .i64 y.b) (by decide) rfl
  rw [List.set_set] at h2
  have h3 := step h2 (hs _) 2 ⟨y.a, y.b, y.c, x.d⟩ (.int .i64 y.c) (by decide) rfl
  rw [List.set_set] at h3
  have h4 := step h3 (hs _) 3 y (.int .i64 y.d) (by decide) rfl
  rw [List.set_set] at h4
  exact h4

set_option maxRecDepth 100000 in
set_option maxHeartbeats 3200000 in
theorem scaleOf_any (s k : Nat) (w : World) (hk : k ≤ 990000) (h : Str w s k) :
    Calls Tryz.prog 14 #[.pointer (some ⟨s, 0, none⟩)] w fun e w' => ∃ xs : List I4, xs.length = 12 ∧ e = .returned (.agg (sc xs)) ∧ Str w' s (k + 30) ∧ ExtS s w w' := by
  have l0 := h.lt
  go_enter Tryz.func14, Tryz.ntmps14
  go_upto_region 1 with fail
  go_cut [3] (fun s3 w' => ∃ (g : Nat) (xs : List I4), s3 = .pointer (some ⟨g, 0, none⟩) ∧ w.heap.size < g ∧ xs.length = 12 ∧ Blk w' g 29 (sc xs) ∧ Blk w' w.heap.size 29 (sc zeroL) ∧ Str w' s k ∧ ExtS s w w')
  case first =>
    have hR : Blk (w.alloc (.cells (sc zeroL) 29)) w.heap.size 29 (sc zeroL) := Blk.new' rfl
    go_wp2_with (first
      | (go_at_call 16; refine Calls.mono (pureScale_any _) ?_; rintro e w1 ⟨rfl, hE1⟩; have hR1 := hR.ext hE1; have hS1 := (h.ext ((Ext.refl w).alloc _)).ext hE1; have hX1 : ExtS s w w1 := ((ExtS.refl s w).alloc _).ext hE1; clear hE1 hR h)
      | (refine wpList_store_row rfl 29 _ _ rfl w1.heap.size (sc pureL) rfl rfl 29 _ (heap_alloc_new w1 _) (sc_info rfl) (by kernel_rfl) (by kernel_rfl) ?_))
    go_meet
    exact ⟨w1.heap.size, pureL, rfl, hR1.lt, rfl, setRow_blk (heap_alloc_new w1 _), (hR1.alloc _).rowFar (Nat.ne_of_lt hR1.lt) _, (hS1.ext (Ext.alloc (Ext.refl _) _)).setRow (by have := hR1.lt; omega) _, (hX1.alloc _).setRow (Nat.le_of_lt hR1.lt)⟩
  case rest =>
    obtain ⟨g, xs, rfl, hg, hl, hI, hR, hS, hE⟩ := hcut
    clear h
    go_upto_if 6 with (go_at_call 34; refine (flip_any s k 3 _ (by omega) (by omega) (by omega) hS).mono ?_; rintro e w1 ⟨b, rfl, hS1, hE1⟩)
    replace hI := hI.extS (show g ≠ s by omega) hE1
    replace hR := hR.extS (show w.heap.size ≠ s by omega) hE1
    replace hE := hE.trans hE1
    clear hS hE1
    go_cut [3] (fun s3 w' => ∃ xs : List I4, s3 = .pointer (some ⟨g, 0, none⟩) ∧ xs.length = 12 ∧ Blk w' g 29 (sc xs) ∧ Blk w' w.heap.size 29 (sc zeroL) ∧ Str w' s (k + 1) ∧ ExtS s w w')
    case first =>
      have hl' := Lib.hid hl
      clear hl
      cases b
      · go_wp2
        go_meet
        exact ⟨xs, rfl, hl'.out, hI, hR, hS1, hE⟩
      · go_wp2_with (refine wpList_store_row rfl 29 _ _ rfl g (sc fifthL) rfl rfl 29 _ hI (sc_info rfl) (sc_same hl'.out rfl) (by kernel_rfl) ?_)
        go_meet
        exact ⟨fifthL, rfl, rfl, setRow_blk hI, hR.rowFar (by omega) _, hS1.setRow (by omega) _, hE.setRow (by omega)⟩
    case rest =>
      clear hI hR hE hS1 hl
      obtain ⟨xs, rfl, hl, hI, hR, hS, hE⟩ := hcut
      go_upto_if 21 with (go_at_call 34; refine (flip_any s (k + 1) 4 _ (by omega) (by omega) (by omega) hS).mono ?_; rintro e w1 ⟨b, rfl, hS1, hE1⟩)
      replace hI := hI.extS (show g ≠ s by omega) hE1
      replace hR := hR.extS (show w.heap.size ≠ s by omega) hE1
      replace hE := hE.trans hE1
      clear hS hE1
      go_cut [3] (fun s3 w' => ∃ xs : List I4, s3 = .pointer (some ⟨g, 0, none⟩) ∧ xs.length = 12 ∧ Blk w' g 29 (sc xs) ∧ Blk w' w.heap.size 29 (sc zeroL) ∧ Str w' s (k + 2) ∧ ExtS s w w')
      case first =>
        obtain ⟨x, hx⟩ := getD_some hl (show 2 < 12 by omega)
        obtain ⟨c0, c1, c2, c3⟩ := (sc_rows hI).at_ hx
        have hfz := hI.frozen
        simp only [Nat.reduceMul, Nat.reduceAdd] at c0 c1 c2 c3
        have hl' := Lib.hid hl
        replace hx := Lib.hid hx
        clear hl
        cases b
        · go_wp2
          go_meet
          exact ⟨xs, rfl, hl'.out, hI, hR, hS1, hE⟩
        · go_wp2
          go_meet
          have n1 : w.heap.size ≠ g := by omega
          have n2 : s < g := by omega
          have n3 : g = s ∨ w.heap.size ≤ g := .inr (by omega)
          exact ⟨xs.set 2 ⟨1, -2, 1, 0⟩, rfl, by rw [List.length_set]; exact hl'.out, sc_put hI hx.out ⟨1, -2, 1, 0⟩, ((((hR.far n1 _).far n1 _).far n1 _).far n1 _), ((((hS1.set n2 _).set n2 _).set n2 _).set n2 _), ((((hE.setCell n3 _).setCell n3 _).setCell n3 _).setCell n3 _)⟩
      case rest =>
        clear hI hR hE hS1 hl
        obtain ⟨xs, rfl, hl, hI, hR, hS, hE⟩ := hcut
        go_upto_if 25 with (go_at_call 34; refine (flip_any s (k + 2) 12 _ (by omega) (by omega) (by omega) hS).mono ?_; rintro e w1 ⟨b, rfl, hS1, hE1⟩)
        replace hI := hI.extS (show g ≠ s by omega) hE1
        replace hR := hR.extS (show w.heap.size ≠ s by omega) hE1
        replace hE := hE.trans hE1
        clear hS hE1
        go_cut [3] (fun s3 w' => ∃ xs : List I4, s3 = .pointer (some ⟨g, 0, none⟩) ∧ xs.length = 12 ∧ Blk w' g 29 (sc xs) ∧ Blk w' w.heap.size 29 (sc zeroL) ∧ Str w' s (k + 30) ∧ ExtS s w w')
        case first =>
          have hl' := Lib.hid hl
          clear hl
          cases b
          · go_wp2
            go_meet
            exact ⟨xs, rfl, hl'.out, hI, hR, hS1.more (by omega), hE⟩
          · go_wp2_with (first
              | (go_at_call 6; refine (next_any s (k + 2 + 1) 12 _ (by omega) (by omega) (by omega) hS1).mono ?_; rintro e w2 ⟨v, rfl, hv, hS2, hE2⟩)
              | (go_at_call 35; refine (interval_any s (k + 2 + 1 + 1) _ (by omega) hS2).mono ?_; rintro e w3 ⟨y, rfl, hS3, hE3⟩; have hI3 := (hI.extS (show g ≠ s by omega) hE2).extS (show g ≠ s by omega) hE3; have hR3 := (hR.extS (show w.heap.size ≠ s by omega) hE2).extS (show w.heap.size ≠ s by omega) hE3; have hX3 := (hE.trans hE2).trans hE3; obtain ⟨x, hx⟩ := getD_some hl'.out hv; obtain ⟨c0, c1, c2, c3⟩ := (sc_rows hI3).at_ hx; have hfz := hI3.frozen; replace hx := Lib.hid hx; clear hE2 hE3 hS2 hI hR hE))
            go_meet
            have n1 : w.heap.size ≠ g := by omega
            have n2 : s < g := by omega
            have n3 : g = s ∨ w.heap.size ≤ g := .inr (by omega)
            exact ⟨xs.set v y, rfl, by rw [List.length_set]; exact hl'.out, sc_put hI3 hx.out y, ((((hR3.far n1 _).far n1 _).far n1 _).far n1 _), (((((hS3.set n2 _).set n2 _).set n2 _).set n2 _).more (by omega)), ((((hX3.setCell n3 _).setCell n3 _).setCell n3 _).setCell n3 _)⟩
        case rest =>
          clear hI hR hE hS1 hl
          obtain ⟨xs, rfl, hl, hI, hR, hS, hE⟩ := hcut
          have hi := sc_info hl
          have hs := sc_same (show zeroL.length = 12 from rfl) hl
          have ho := sc_one xs
          have hl' := Lib.hid hl
          clear hl
          go_wp2_with (first
            | (refine wpList_load_row rfl 29 _ rfl g rfl 29 (sc xs) (0, 0) _ hI Tryz.underlying29 rfl hi ?_)
            | (refine wpList_store_row rfl 29 _ _ rfl w.heap.size (sc xs) rfl rfl 29 _ hR hi hs ho ?_))
          exact bodyPost_ret (v := .agg (sc xs)) (results_cell_row Tryz.results14 _ _ w.heap.size 29 (sc xs) (0, 0) _ rfl (setRow_blk hR) Tryz.underlying29 rfl hi) rfl ⟨xs, hl'.out, rfl, hS.setRow (by omega) _, hE.setRow (Nat.le_refl _)⟩
end Go.Proofs.YtapjekpjekdlkaaGreatDoor
