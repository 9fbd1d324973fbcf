/- A right scale that the stream makes. Conditions: as each theorem says. Pitches of a scale, without a bound. Conditions: as each theorem says. The difference of two pitches of a scale. Conditions: as each theorem says. -/
import Derived.Test.YtapjekpjekdlkaaGreatDoorRJ37
set_option linter.unusedSimpArgs false
set_option linter.unusedVariables false
namespace Go.Proofs.YtapjekpjekdlkaaGreatDoor
open Go Go.RowKit

set_option maxRecDepth 100000 in
set_option maxHeartbeats 1600000 in
theorem rightScale_any (s k : Nat) (w : World) (hk : k ≤ 980000) (h : Str w s k) :
    Calls Tryz.prog 4 #[.pointer (some ⟨s, 0, none⟩)] w fun e w' => ∃ xs : List I4, ScaleOk xs ∧ e = .returned (.agg (sc xs)) ∧ Str w' s (k + 180) ∧ ExtS s w w' := by
  have l0 := h.lt
  go_enter Tryz.func4, Tryz.ntmps4
  have hR : Blk (w.alloc (.cells (sc zeroL) 29)) w.heap.size 29 (sc zeroL) := Blk.new' rfl
  have hS := h.ext (Ext.alloc (Ext.refl w) (.cells (sc zeroL) 29))
  have hE := (ExtS.refl s w).alloc (.cells (sc zeroL) 29)
  go_wp2
  clear h
  go_loopw [4] (fun i wr => ∃ j : Nat, j ≤ 6 ∧ i = .int .i64 j ∧ Blk wr w.heap.size 29 (sc zeroL) ∧ Str wr s (k + 30 * j) ∧ ExtS s w wr) (fun i _ => 6 - (intOf i).toNat)
  case atStart => exact ⟨0, by omega, rfl, hR, hS, hE⟩
  case round =>
    clear hR hS hE
    obtain ⟨j, hj, rfl, hR, hS, hE⟩ := hrel
    by_cases hlt : j < 6
    · go_upto_region 4 with (first
        | (go_at_call 14; (with_reducible refine Calls.mono (scaleOf_any s (k + 30 * j) _ (by omega) hS) ?_); rintro e w2 ⟨xs, hl, rfl, hS2, hE2⟩; have hi := sc_info hl; have ho := sc_one xs; have hs := sc_same (show zeroL.length = 12 from rfl) hl; replace hl := Lib.hid hl)
        | (refine wpList_store_row rfl 29 _ _ rfl w2.heap.size (sc xs) rfl rfl 29 _ (heap_alloc_new w2 _) hi hs ho ?_))
      have hX : Blk ((w2.alloc (.cells (sc zeroL) 29)).setRow w2.heap.size (sc xs)) w2.heap.size 29 (sc xs) := setRow_blk (heap_alloc_new w2 _)
      have hR2 := ((hR.extS (show w.heap.size ≠ s by omega) hE2).alloc (.cells (sc zeroL) 29)).rowFar (g' := w2.heap.size) (Nat.ne_of_lt (Nat.lt_of_lt_of_le hR.lt hE2.2.2.2.1)) (sc xs)
      have hS3 := (hS2.ext (Ext.alloc (Ext.refl _) (.cells (sc zeroL) 29))).setRow (g := w2.heap.size) hS2.lt (sc xs)
      have hE3 := ((hE.trans hE2).alloc (.cells (sc zeroL) 29)).setRow (g := w2.heap.size) (cs := sc xs) (hE.trans hE2).2.2.2.1
      clear hR hS hE hE2 hS2
      have hrf := fun u => refScale_any xs u hl.out
      replace hrf := Lib.hid hrf
      go_upto_if 10 with (first
        | ((refine wpList_load_row rfl 29 _ rfl w2.heap.size rfl 29 (sc xs) (0, 0) _ hX Tryz.underlying29 rfl hi ?_))
        | (go_at_call 15; (with_reducible refine Calls.mono (hrf.out _) ?_); rintro e w4 ⟨v, rfl, hv, hb4⟩))
      have hX4 := hX.ext hb4
      have hR4 := hR2.ext hb4
      have hS4 := hS3.ext hb4
      have hE4 := hE3.ext hb4
      clear hX hR2 hS3 hE3 hb4 hrf
      by_cases hz : v = 0
      · subst hz
        replace hv := Lib.hid hv
        go_wp2_with (first
          | (refine wpList_load_row rfl 29 _ rfl w2.heap.size rfl 29 (sc xs) (0, 0) _ hX4 Tryz.underlying29 rfl hi ?_)
          | (refine wpList_store_row rfl 29 _ _ rfl w.heap.size (sc xs) rfl rfl 29 _ hR4 hi hs ho ?_))
        exact bodyPost_ret (v := .agg (sc xs)) (results_cell_row Tryz.results4 _ _ w.heap.size 29 (sc xs) (0, 0) _ rfl (setRow_blk hR4) Tryz.underlying29 rfl hi) rfl ⟨xs, hv.out (by trivial), rfl, (hS4.setRow (by omega) _).more (by omega), hE4.setRow (Nat.le_refl _)⟩
      · have hz' : (v == 0) = false := by simpa using hz
        replace hv := Lib.hid hv
        replace hz := Lib.hid hz
        go_wp2
        go_roundw
        case rel => exact ⟨j + 1, by omega, by go_num, hR4, hS4.more (by omega), hE4⟩
        case measure => simp [intOf]; omega
    · obtain rfl : j = 6 := by omega
      rw [show ((6 : Nat) : Int) = 6 from rfl]
      go_wp2_with (first
        | (go_at_call 16; refine Calls.mono (pureScale_any _) ?_; rintro e w1 ⟨rfl, hE1⟩; have hR1 := hR.ext hE1; have hS1 := hS.ext hE1; have hX1 := hE.ext hE1; clear hE1 hR hS hE)
        | (refine wpList_store_row rfl 29 _ _ rfl w.heap.size (sc pureL) rfl rfl 29 _ hR1 (sc_info rfl) (by kernel_rfl) (by kernel_rfl) ?_))
      exact bodyPost_ret (v := .agg (sc pureL)) (results_cell_row Tryz.results4 _ _ w.heap.size 29 (sc pureL) (0, 0) _ rfl (setRow_blk hR1) Tryz.underlying29 rfl (sc_info rfl)) rfl ⟨pureL, pure_ok, rfl, (hS1.setRow (by omega) _).more (by omega), hX1.setRow (Nat.le_refl _)⟩
end Go.Proofs.YtapjekpjekdlkaaGreatDoor

namespace Go.Proofs.YtapjekpjekdlkaaGreatDoor
open Go Go.RowKit

set_option maxRecDepth 100000 in
set_option maxHeartbeats 1600000 in
theorem high_any (xs : List I4) (k : Nat) (x : I4) (w : World) (hk : k ≤ 1000) (hx : xs[k % 12]? = some x) (hr : rightB x = true) :
    Calls Tryz.prog 41 #[.agg (sc xs), .int .i64 (k : Int)] w fun e w' => e = .returned (.agg #[.int .i64 (x.up ((k / 12 : Nat) : Int)).a, .int .i64 (x.up ((k / 12 : Nat) : Int)).b, .int .i64 (x.up ((k / 12 : Nat) : Int)).c, .int .i64 (x.up ((k / 12 : Nat) : Int)).d]) ∧ Ext w w' := by
  have hG := (Blk.new' (w := w) (t := 29) (cs := sc xs) rfl).alloc (.cells #[.int .i64 0, .int .i64 0, .int .i64 0, .int .i64 0] 27)
  obtain ⟨c0, c1, c2, c3⟩ := (sc_rows hG).at_ hx
  obtain ⟨⟨r0, r1⟩, -⟩ := right_bounds hr
  have hw : IntKind.i64.wrap (x.a + ((k / 12 : Nat) : Int)) = x.a + ((k / 12 : Nat) : Int) := IntWalk.i64_in _ (by omega)
  have hm : Int.tmod (k : Int) 12 = ((k % 12 : Nat) : Int) := rfl
  have hq : Int.tdiv (k : Int) 12 = ((k / 12 : Nat) : Int) := rfl
  have hm1 : ((k % 12 : Nat) : Int) < 12 := by omega
  have hm2 : IntKind.i64.wrap ((k % 12 : Nat) : Int) = ((k % 12 : Nat) : Int) := IntWalk.i64_in _ (by omega)
  have hq2 : IntKind.i64.wrap ((k / 12 : Nat) : Int) = ((k / 12 : Nat) : Int) := IntWalk.i64_in _ (by omega)
  clear hG hr
  replace hx := Lib.hid hx
  generalize k % 12 = j at *
  generalize k / 12 = q at *
  go_enter Tryz.func41, Tryz.ntmps41
  go_wp2
  go_light
  exact bodyPost_ret (v := .agg #[.int .i64 (x.a + q), .int .i64 x.b, .int .i64 x.c, .int .i64 x.d]) (by simp [results, Tryz.results41, go_sem, *]) rfl ⟨rfl, (by (repeat (with_reducible first | assumption | exact Ext.refl _ | refine Ext.drew ?_ | refine Ext.alloc ?_ _ | refine Ext.setCell ?_ (by simp <;> omega) _ | refine Ext.trans ?_ (by assumption))))⟩

theorem exec_load_row {P : Program} {ev : Operand → Value} {o : Oper} {w : World} (ty : TypeId) (x : Operand) (ho : o.op = .load ty x)
    (g : Nat) (hx : ev x = .pointer (some ⟨g, 0, none⟩)) (t : TypeId) (cs : Array Value) (fr : Nat × Nat) (d : TypeDesc) (hg : w.heap[g]? = some (.cells cs t fr))
    (hu : P.underlying ty = some d) (hd : (match d with | .struct _ | .array _ _ => true | _ => false) = true) (hi : (P.info? ty).map (·.size) = some cs.size) :
    (execOp ev o).run P w = .ok (.value (.agg cs)) w := by
  unfold execOp
  simp only [ho, hx, Instr.loadAt, Instr.sureAddr, Sem.run_bind, Sem.run_pure, Result.andThen_ok, run_loadVar_row w g t ty cs fr d hg hu hd hi]
end Go.Proofs.YtapjekpjekdlkaaGreatDoor

namespace Go.Proofs.YtapjekpjekdlkaaGreatDoor
open Go Go.RowKit

def betI (x y : I4) (i j : Nat) : I4 := addI (y.up ((j / 12 : Nat) : Int)) (negI (x.up ((i / 12 : Nat) : Int)))

set_option maxRecDepth 100000 in
set_option maxHeartbeats 1600000 in
theorem between_any (xs : List I4) (i j : Nat) (x y : I4) (w : World) (hl : xs.length = 12) (hi : i ≤ 1000) (hj : j ≤ 1000) (hx : xs[i % 12]? = some x) (hy : xs[j % 12]? = some y) (hrx : rightB x = true) (hry : rightB y = true) :
    Calls Tryz.prog 21 #[.agg (sc xs), .int .i64 (i : Int), .int .i64 (j : Int)] w fun e w' => e = .returned (.agg #[.int .i64 (betI x y i j).a, .int .i64 (betI x y i j).b, .int .i64 (betI x y i j).c, .int .i64 (betI x y i j).d]) ∧ Ext w w' := by
  have hinf := sc_info hl
  have h1 := fun u => high_any xs i x u hi hx hrx
  have h2 := fun u => high_any xs j y u hj hy hry
  have h3 := fun u => inverse_any (x.up ((i / 12 : Nat) : Int)) u
  have h4 := fun u => sum_any (y.up ((j / 12 : Nat) : Int)) (negI (x.up ((i / 12 : Nat) : Int))) u
  have hG := (Blk.new' (w := w) (t := 29) (cs := sc xs) rfl).alloc (.cells #[.int .i64 0, .int .i64 0, .int .i64 0, .int .i64 0] 27)
  have hZ : Blk ((w.alloc (.cells (sc xs) 29)).alloc (.cells #[.int .i64 0, .int .i64 0, .int .i64 0, .int .i64 0] 27)) (w.heap.size + 1) 27 #[.int .i64 0, .int .i64 0, .int .i64 0, .int .i64 0] := Blk.new' (by simp)
  have hE : Ext w ((w.alloc (.cells (sc xs) 29)).alloc (.cells #[.int .i64 0, .int .i64 0, .int .i64 0, .int .i64 0] 27)) := ((Ext.refl w).alloc _).alloc _
  replace hx := Lib.hid hx
  replace hy := Lib.hid hy
  replace hl := Lib.hid hl
  generalize hp : x.up ((i / 12 : Nat) : Int) = p at *
  generalize hq : y.up ((j / 12 : Nat) : Int) = q at *
  replace hp := Lib.hid hp
  replace hq := Lib.hid hq
  replace h1 := Lib.hid h1
  replace h2 := Lib.hid h2
  replace h3 := Lib.hid h3
  replace h4 := Lib.hid h4
  go_enter Tryz.func21, Tryz.ntmps21
  go_upto_region 1 with fail
  generalize (w.alloc (.cells (sc xs) 29)).alloc (.cells #[.int .i64 0, .int .i64 0, .int .i64 0, .int .i64 0] 27) = W at *
  refine wp_region_facts [] [([], false, false), ([], false, false), ([0, 1], false, false), ([], false, false), ([], false, false), ([3, 4], false, false), ([3, 4, 5], false, false), ([0, 1, 2, 3, 4, 5, 6], false, false)] (Ext) Ext (fun _ => True) (by kernel_rfl) (by kernel_rfl) Ext.refl (fun _ _ _ => Ext.trans) (fun _ _ h => h) (fun _ _ h => h.size) (fun _ _ h _ => h) trivial ?_
  dsimp only [List.length_cons, List.length_nil, List.drop_succ_cons, List.drop_zero, List.drop_nil]
  refine fac_quiet 0 rfl rfl rfl (fun _ _ h _ => h) rfl rfl ?_
  apply Exists.intro
  refine ⟨fun sv w' hw' hfa => ?_, ?_⟩
  · skip
    refine ⟨rfl, ?_⟩
    simp only [putsL]
    change quietTo _ _ _ _ (Sem.run _ (execOp (Act.eval _) _) _)
    rw [exec_load_row 29 (.tmp 3) rfl w.heap.size rfl 29 (sc xs) (0, 0) _ (hG.ext ((Ext.refl W).drew.trans hw')) Tryz.underlying29 rfl hinf]
    simp [quietTo, Ext.refl]
    all_goals rfl
  refine fac_quiet 1 rfl rfl rfl (fun _ _ h _ => h) rfl rfl ?_
  apply Exists.intro
  refine ⟨fun sv w' hw' hfa => ?_, ?_⟩
  · refine ⟨rfl, ?_⟩
    simp only [putsL]
    change quietTo _ _ _ _ (Sem.run _ (execOp (Act.eval _) _) _)
    try simp only [Act.put, List.setIfInBounds_toArray, List.set_cons_succ, List.set_cons_zero]
    simp [go_sem, quietTo, Ext.refl]
    all_goals first
      | rfl
  refine fac_quiet 2 rfl rfl rfl (fun _ _ h _ => h) rfl rfl ?_
  apply Exists.intro
  refine ⟨fun sv w' hw' hfa => ?_, ?_⟩
  · obtain ⟨f0, f1, -⟩ := hfa
    replace f0 : sv 0 = _ := f0
    try dsimp only at f0
    replace f1 : sv 1 = _ := f1
    try dsimp only at f1
    refine ⟨rfl, ?_⟩
    simp only [putsL]
    change quietTo _ _ _ _ (Sem.run _ (execOp (Act.eval (Act.put (Act.put _ (some 8) (sv 1)) (some 7) (sv 0))) _) _)
    try simp only [Act.put, List.setIfInBounds_toArray, List.set_cons_succ, List.set_cons_zero]
    simp [go_sem, quietTo, Ext.refl, ↓IntWalk.iteOmega, f0, f1]
    all_goals try simp (disch := omega) only [IntWalk.i64_in]
    all_goals first
      | rfl
      | (exact h2.out _)
  refine fac_quiet 3 rfl rfl rfl (fun _ _ h _ => h) rfl rfl ?_
  apply Exists.intro
  refine ⟨fun sv w' hw' hfa => ?_, ?_⟩
  · skip
    refine ⟨rfl, ?_⟩
    simp only [putsL]
    change quietTo _ _ _ _ (Sem.run _ (execOp (Act.eval _) _) _)
    rw [exec_load_row 29 (.tmp 3) rfl w.heap.size rfl 29 (sc xs) (0, 0) _ (hG.ext ((Ext.refl W).drew.trans hw')) Tryz.underlying29 rfl hinf]
    simp [quietTo, Ext.refl]
    all_goals rfl
  refine fac_quiet 4 rfl rfl rfl (fun _ _ h _ => h) rfl rfl ?_
  apply Exists.intro
  refine ⟨fun sv w' hw' hfa => ?_, ?_⟩
  · refine ⟨rfl, ?_⟩
    simp only [putsL]
    change quietTo _ _ _ _ (Sem.run _ (execOp (Act.eval _) _) _)
    try simp only [Act.put, List.setIfInBounds_toArray, List.set_cons_succ, List.set_cons_zero]
    simp [go_sem, quietTo, Ext.refl]
    all_goals first
      | rfl
  refine fac_quiet 5 rfl rfl rfl (fun _ _ h _ => h) rfl rfl ?_
  apply Exists.intro
  refine ⟨fun sv w' hw' hfa => ?_, ?_⟩
  · obtain ⟨f3, f4, -⟩ := hfa
    replace f3 : sv 3 = _ := f3
    try dsimp only at f3
    replace f4 : sv 4 = _ := f4
    try dsimp only at f4
    refine ⟨rfl, ?_⟩
    simp only [putsL]
    change quietTo _ _ _ _ (Sem.run _ (execOp (Act.eval (Act.put (Act.put _ (some 11) (sv 4)) (some 10) (sv 3))) _) _)
    try simp only [Act.put, List.setIfInBounds_toArray, List.set_cons_succ, List.set_cons_zero]
    simp [go_sem, quietTo, Ext.refl, ↓IntWalk.iteOmega, f3, f4]
    all_goals try simp (disch := omega) only [IntWalk.i64_in]
    all_goals first
      | rfl
      | (exact h1.out _)
  refine fac_quiet 6 rfl rfl rfl (fun _ _ h _ => h) rfl rfl ?_
  apply Exists.intro
  refine ⟨fun sv w' hw' hfa => ?_, ?_⟩
  · obtain ⟨f3, f4, f5, -⟩ := hfa
    replace f3 : sv 3 = _ := f3
    try dsimp only at f3
    replace f4 : sv 4 = _ := f4
    try dsimp only at f4
    replace f5 : sv 5 = _ := f5
    try dsimp only at f5
    refine ⟨rfl, ?_⟩
    simp only [putsL]
    change quietTo _ _ _ _ (Sem.run _ (execOp (Act.eval (Act.put (Act.put (Act.put _ (some 12) (sv 5)) (some 11) (sv 4)) (some 10) (sv 3))) _) _)
    try simp only [Act.put, List.setIfInBounds_toArray, List.set_cons_succ, List.set_cons_zero]
    simp [go_sem, quietTo, Ext.refl, ↓IntWalk.iteOmega, f5]
    all_goals try simp (disch := omega) only [IntWalk.i64_in]
    all_goals first
      | rfl
      | (exact h3.out _)
  refine fac_quiet 7 rfl rfl rfl (fun _ _ h _ => h) rfl rfl ?_
  apply Exists.intro
  refine ⟨fun sv w' hw' hfa => ?_, ?_⟩
  · obtain ⟨f0, f1, f2, f3, f4, f5, f6, -⟩ := hfa
    replace f0 : sv 0 = _ := f0
    try dsimp only at f0
    replace f1 : sv 1 = _ := f1
    try dsimp only at f1
    replace f2 : sv 2 = _ := f2
    try dsimp only at f2
    replace f3 : sv 3 = _ := f3
    try dsimp only at f3
    replace f4 : sv 4 = _ := f4
    try dsimp only at f4
    replace f5 : sv 5 = _ := f5
    try dsimp only at f5
    replace f6 : sv 6 = _ := f6
    try dsimp only at f6
    refine ⟨rfl, ?_⟩
    simp only [putsL]
    change quietTo _ _ _ _ (Sem.run _ (execOp (Act.eval (Act.put (Act.put (Act.put (Act.put (Act.put (Act.put (Act.put _ (some 13) (sv 6)) (some 12) (sv 5)) (some 11) (sv 4)) (some 10) (sv 3)) (some 9) (sv 2)) (some 8) (sv 1)) (some 7) (sv 0))) _) _)
    try simp only [Act.put, List.setIfInBounds_toArray, List.set_cons_succ, List.set_cons_zero]
    simp [go_sem, quietTo, Ext.refl, ↓IntWalk.iteOmega, f2, f6]
    all_goals try simp (disch := omega) only [IntWalk.i64_in]
    all_goals first
      | rfl
      | (exact h4.out _)
  refine fac_nil fun xb wrb herb hfrb hcrb holdb hapb => ?_
  obtain ⟨f0, f1, f2, f3, f4, f5, f6, f7, -⟩ := hfrb
  replace f0 : xb 0 = _ := f0
  try dsimp only at f0
  replace f1 : xb 1 = _ := f1
  try dsimp only at f1
  replace f2 : xb 2 = _ := f2
  try dsimp only at f2
  replace f3 : xb 3 = _ := f3
  try dsimp only at f3
  replace f4 : xb 4 = _ := f4
  try dsimp only at f4
  replace f5 : xb 5 = _ := f5
  try dsimp only at f5
  replace f6 : xb 6 = _ := f6
  try dsimp only at f6
  replace f7 : xb 7 = _ := f7
  try dsimp only at f7
  change wpList _ _ _ _ (Act.put (Act.put (Act.put (Act.put (Act.put (Act.put (Act.put (Act.put _ (some 7) (xb 0)) (some 8) (xb 1)) (some 9) (xb 2)) (some 10) (xb 3)) (some 11) (xb 4)) (some 12) (xb 5)) (some 13) (xb 6)) (some 14) (xb 7)) _
  simp only [putsL, Nat.reduceAdd, List.drop_succ_cons, List.drop_zero, List.drop_nil, Act.put, List.setIfInBounds_toArray, List.set_cons_succ, List.set_cons_zero]
  try simp only [f0, f1, f2, f3, f4, f5, f6, f7]
  clear f0 f1 f2 f3 f4 f5 f6 f7
  clear holdb hapb
  have hE2 := hE.trans ((Ext.refl _).drew.trans herb)
  have hZ2 := hZ.ext ((Ext.refl _).drew.trans herb)
  obtain ⟨z1, z2⟩ := hZ2.walk
  go_wp2
  go_light
  have hv : betI x y i j = addI q (negI p) := by unfold betI; rw [hp.out, hq.out]
  rw [hv]
  exact bodyPost_ret (v := .agg #[.int .i64 (addI q (negI p)).a, .int .i64 (addI q (negI p)).b, .int .i64 (addI q (negI p)).c, .int .i64 (addI q (negI p)).d]) (by simp [results, Tryz.results21, go_sem, *]) rfl ⟨rfl, (by (repeat (with_reducible first | assumption | exact Ext.refl _ | refine Ext.drew ?_ | refine Ext.alloc ?_ _ | refine Ext.setCell ?_ (by simp <;> omega) _ | refine Ext.trans ?_ (by assumption))))⟩
end Go.Proofs.YtapjekpjekdlkaaGreatDoor
