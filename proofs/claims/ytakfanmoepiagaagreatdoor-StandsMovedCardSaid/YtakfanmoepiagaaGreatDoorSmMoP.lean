/- People, a stage and stands, put there by the stream, and how the stream stands behind it. Conditions: sizes. -/
import Derived.Test.YtakfanmoepiagaaGreatDoorSmJ35
set_option linter.unusedSimpArgs false
set_option linter.unusedVariables false
namespace Go.Proofs.YtakfanmoepiagaaGreatDoor
open Go Go.RowKit

def PutQ (s k : Nat) (w : World) (e : Ending) (w' : World) : Prop := ∃ (pp : Option Addr) (pc : Nat) (P : List PersonV) (wp : Option Addr) (wc : Nat) (wide : List Int) (hp : Option Addr) (hc : Nat) (high : List Int) (lp : Option Addr) (lc : Nat) (S : List StandV),
  e = .returned (.tuple #[.slice pp P.length pc, .agg #[.slice wp wide.length wc, .slice hp high.length hc], .slice lp S.length lc, .int .i64 (standsF P wide high S)]) ∧ PsM w' pp pc P wp wc wide hp hc high lp lc S ∧ (P.length ≤ 9 ∧ wide.length ≤ 4 ∧ S.length ≤ 9) ∧
  ((∀ a, pp = some a → a.block ≠ s) ∧ (∀ a, wp = some a → a.block ≠ s) ∧ (∀ a, hp = some a → a.block ≠ s) ∧ ∀ a, lp = some a → a.block ≠ s) ∧ Str w' s (k + 2080) ∧ ExtS s w w'

set_option maxRecDepth 100000 in
set_option maxHeartbeats 3200000 in
theorem put2_any (s k most : Nat) (w : World) (hk : k ≤ 800000) (hmo : most ≤ 9) (h : Str w s k) :
    Calls Tryz.prog 26 #[.pointer (some ⟨s, 0, none⟩), .int .i64 most] w (PutQ s k w) := by
  have l0 := h.lt
  have hE0 : Ext w (w.alloc (.cells #[.slice none 0 0, .slice none 0 0] 29)) := (Ext.refl _).alloc _
  have hR0 : Blk (w.alloc (.cells #[.slice none 0 0, .slice none 0 0] 29)) w.heap.size 29 #[.slice none 0 0, .slice none 0 0] := Blk.new' rfl
  have hpe := people_any s k most _ (by omega) hmo (h.ext hE0)
  replace hpe := Lib.hid hpe
  go_enter Tryz.func26, Tryz.ntmps26
  go_upto_region 2 with (first
    | (go_at_call 7; (with_reducible refine Calls.mono hpe.out ?_); rintro e w1 ⟨pp, n, pc, P, rfl, hn9, hP, hpf, hPs, hS1, hE1⟩; obtain rfl : n = P.length := (slcC hP).1; have hE1' := (hE0.extS).trans hE1; have hR1 := hR0.extS (by omega) hE1)
    | (go_at_call 8; (with_reducible refine Calls.mono (stageOf_any s (k + 40) _ (by omega) (by exact hS1)) ?_); rintro e w2 ⟨wp, wc, hp, hc, wide, high, rfl, hw4, hh4, hws, hhs, hW, hH, hwf, hhf, hS2, hE2⟩; have hE2' := hE1'.trans hE2; have hR2 := hR1.extS (by omega) hE2))
  have hsz1 := hE1'.2.2.2.1
  have hsz1' : w.heap.size + 1 ≤ w1.heap.size := by have := hE1.2.2.2.1; simpa using this
  have hpg : ∀ a, pp = some a → a.block ≠ w.heap.size := fun a ha e => by have := hpf a ha; simp at this; omega
  have hwg : ∀ a, wp = some a → a.block ≠ w.heap.size := fun a ha e => by have := hwf a ha; omega
  have hhg : ∀ a, hp = some a → a.block ≠ w.heap.size := fun a ha e => by have := hhf a ha; omega
  have hP2 := hP.extS hE2 fun a ha e => by have := hpf a ha; simp at this; omega
  have hpf2 : ∀ a, pp = some a → a.block ≠ s := fun a ha e => by have := hpf a ha; simp at this; omega
  have hwf2 : ∀ a, wp = some a → a.block ≠ s := fun a ha e => by have := hwf a ha; omega
  have hhf2 : ∀ a, hp = some a → a.block ≠ s := fun a ha e => by have := hhf a ha; omega
  have hE3 := hE2'.alloc (.cells #[.slice wp wide.length wc, .slice hp high.length hc] 29)
  have hEa : Ext w2 (w2.alloc (.cells #[.slice wp wide.length wc, .slice hp high.length hc] 29)) := (Ext.refl _).alloc _
  have hB3 : Blk (w2.alloc (.cells #[.slice wp wide.length wc, .slice hp high.length hc] 29)) w2.heap.size 29 #[.slice wp wide.length wc, .slice hp high.length hc] := Blk.new' rfl
  have hR3 := hR2.alloc (.cells #[.slice wp wide.length wc, .slice hp high.length hc] 29)
  have hsl := standList_any s (k + 40 + 40) _ pp pc P wp wc wide hp hc high (by omega) (hS2.ext hEa) (hP2.ext hEa) (hW.ext hEa) (hH.ext hEa) hpf2 hwf2 hPs hws hhs hn9 hw4
  have hsz2 := hE2'.2.2.2.1
  have hP3 := hP2.ext hEa
  have hW3 := hW.ext hEa
  have hH3 := hH.ext hEa
  replace hsl := Lib.hid hsl
  clear hpe hE0 hR0 hE1 hS1 hP hE2 hS2 hE1' hR1 hR2 hE2' hP2 hW hH hpf hwf hhf
  replace hP3 := Lib.hid hP3
  replace hW3 := Lib.hid hW3
  replace hH3 := Lib.hid hH3
  replace hPs := Lib.hid hPs
  go_upto_region 3 with (go_at_call 32; (with_reducible refine Calls.mono hsl.out ?_); rintro e w4 ⟨lp, lc, S, rfl, hS9, hSl, hSs, hlf, hS4, hE4⟩)
  have hM : PsM w4 pp pc P wp wc wide hp hc high lp lc S := ⟨hP3.out.extS hE4 hpf2, hW3.out.extS hE4 hwf2, hH3.out.extS hE4 hhf2, hSl, hPs.out, hws, hhs, hSs, by omega, by omega⟩
  have hE5 := hE3.trans hE4
  have hB5 := hB3.extS (by omega) hE4
  have hR5 := hR3.extS (by omega) hE4
  have hfl := fun u (hu : Ext w4 u) => standsFault_any pp pc P wp wc wide hp hc high lp lc S u (hM.more hu)
  have hff : standsF P wide high S = standsF P wide high S := rfl
  generalize hsf : standsF P wide high S = sf at *
  clear hff
  replace hfl := Lib.hid hfl
  replace hM := Lib.hid hM
  replace hsf := Lib.hid hsf
  clear hsl hP3 hW3 hH3 hE3 hE4 hB3 hR3 hEa hSl hSs
  refine wp_region_facts [2] [([], false, false), ([], false, false), ([], false, false), ([], false, false), ([], false, false), ([], false, false), ([3, 4, 5], false, false), ([0], false, false)] (Ext) Ext (fun _ => True) (by kernel_rfl) (by kernel_rfl) Ext.refl (fun _ _ _ => Ext.trans) (fun _ _ h => h) (fun _ _ h => h.size) (fun _ _ h _ => h) trivial ?_
  dsimp only [List.length_cons, List.length_nil, List.drop_succ_cons, List.drop_zero, List.drop_nil]
  refine fac_quiet 0 rfl rfl rfl (fun _ _ h _ => h) rfl rfl ?_
  apply Exists.intro
  refine ⟨fun sv w' hw' hfa => ?_, ?_⟩
  · refine ⟨rfl, ?_⟩
    simp only [putsL]
    change quietTo _ _ _ _ (Sem.run _ (execOp (Act.eval _) _) _)
    try simp only [Act.put, List.setIfInBounds_toArray, List.set_cons_succ, List.set_cons_zero]
    simp [go_sem, quietTo, Ext.refl]
    all_goals first
      | rfl
  refine fac_quiet 1 rfl rfl rfl (fun _ _ h _ => h) rfl rfl ?_
  apply Exists.intro
  refine ⟨fun sv w' hw' hfa => ?_, ?_⟩
  · have hk9 := (Ext.refl w4).drew.trans hw'; obtain ⟨y1, -⟩ := (hB5.ext hk9).walk
    refine ⟨rfl, ?_⟩
    simp only [putsL]
    change quietTo _ _ _ _ (Sem.run _ (execOp (Act.eval _) _) _)
    try simp only [Act.put, List.setIfInBounds_toArray, List.set_cons_succ, List.set_cons_zero]
    simp [go_sem, quietTo, Ext.refl, ↓IntWalk.iteOmega, y1]
    all_goals try simp (disch := omega) only [IntWalk.i64_in]
    all_goals first
      | rfl
  refine fac_late 2 rfl rfl Ext.refl (fun _ _ h _ => h) rfl rfl (fun _ _ _ _ h => h) ?_
  apply Exists.intro
  refine ⟨fun sv w' hw' hfa => ?_, ?_⟩
  · refine ⟨rfl, fun w2 => ?_⟩
    simp only [putsL]
    change pureTo _ _ (Sem.run _ (execOp (Act.eval _) _) _)
    try simp only [Act.put, List.setIfInBounds_toArray, List.set_cons_succ, List.set_cons_zero]
    simp [go_sem, pureTo]
    all_goals try simp (disch := omega) only [IntWalk.i64_in]
    all_goals first
      | rfl
  refine fac_quiet 3 rfl rfl rfl (fun _ _ h _ => h) rfl rfl ?_
  apply Exists.intro
  refine ⟨fun sv w' hw' hfa => ?_, ?_⟩
  · refine ⟨rfl, ?_⟩
    simp only [putsL]
    change quietTo _ _ _ _ (Sem.run _ (execOp (Act.eval _) _) _)
    try simp only [Act.put, List.setIfInBounds_toArray, List.set_cons_succ, List.set_cons_zero]
    simp [go_sem, quietTo, Ext.refl]
    all_goals first
      | rfl
  refine fac_quiet 4 rfl rfl rfl (fun _ _ h _ => h) rfl rfl ?_
  apply Exists.intro
  refine ⟨fun sv w' hw' hfa => ?_, ?_⟩
  · have hk9 := (Ext.refl w4).drew.trans hw'; obtain ⟨y1, -⟩ := (hB5.ext hk9).walk
    refine ⟨rfl, ?_⟩
    simp only [putsL]
    change quietTo _ _ _ _ (Sem.run _ (execOp (Act.eval _) _) _)
    try simp only [Act.put, List.setIfInBounds_toArray, List.set_cons_succ, List.set_cons_zero]
    simp [go_sem, quietTo, Ext.refl, ↓IntWalk.iteOmega, y1]
    all_goals try simp (disch := omega) only [IntWalk.i64_in]
    all_goals first
      | rfl
  refine fac_quiet 5 rfl rfl rfl (fun _ _ h _ => h) rfl rfl ?_
  apply Exists.intro
  refine ⟨fun sv w' hw' hfa => ?_, ?_⟩
  · refine ⟨rfl, ?_⟩
    simp only [putsL]
    change quietTo _ _ _ _ (Sem.run _ (execOp (Act.eval _) _) _)
    try simp only [Act.put, List.setIfInBounds_toArray, List.set_cons_succ, List.set_cons_zero]
    simp [go_sem, quietTo, Ext.refl]
    all_goals first
      | rfl
  refine fac_quiet 6 rfl rfl rfl (fun _ _ h _ => h) rfl rfl ?_
  apply Exists.intro
  refine ⟨fun sv w' hw' hfa => ?_, ?_⟩
  · obtain ⟨f3, f4, f5, -⟩ := hfa
    replace f3 : sv 3 = _ := f3
    try dsimp only at f3
    replace f4 : sv 4 = _ := f4
    try dsimp only at f4
    replace f5 : sv 5 = _ := f5
    try dsimp only at f5
    have hk9 := (Ext.refl w4).drew.trans hw'; obtain ⟨y1, -⟩ := (hB5.ext hk9).walk
    refine ⟨rfl, ?_⟩
    simp only [putsL]
    change quietTo _ _ _ _ (Sem.run _ (execOp (Act.eval (Act.put (Act.put (Act.put _ (some 25) (sv 5)) (some 24) (sv 4)) (some 23) (sv 3))) _) _)
    try simp only [Act.put, List.setIfInBounds_toArray, List.set_cons_succ, List.set_cons_zero]
    simp [go_sem, quietTo, Ext.refl, ↓IntWalk.iteOmega, f3, f4, f5]
    all_goals try simp (disch := omega) only [IntWalk.i64_in]
    all_goals first
      | rfl
      | (exact hfl.out _ hk9)
  refine fac_quiet 7 rfl rfl rfl (fun _ _ h _ => h) rfl rfl ?_
  apply Exists.intro
  refine ⟨fun sv w' hw' hfa => ?_, ?_⟩
  · obtain ⟨f0, -⟩ := hfa
    replace f0 : sv 0 = _ := f0
    try dsimp only at f0
    refine ⟨rfl, ?_⟩
    simp only [putsL]
    change quietTo _ _ _ _ (Sem.run _ (execOp (Act.eval (Act.put _ (some 20) (sv 0))) _) _)
    try simp only [Act.put, List.setIfInBounds_toArray, List.set_cons_succ, List.set_cons_zero]
    simp [go_sem, quietTo, Ext.refl, f0]
    all_goals first
      | rfl
  refine fac_nil fun xq wrq herq hfrq hcrq holdq hapq => ?_
  obtain ⟨f0, f1, f2, f3, f4, f5, f6, f7, -⟩ := hfrq
  replace f0 : xq 0 = _ := f0
  try dsimp only at f0
  replace f1 : xq 1 = _ := f1
  try dsimp only at f1
  replace f2 : xq 2 = _ := f2
  try dsimp only at f2
  replace f3 : xq 3 = _ := f3
  try dsimp only at f3
  replace f4 : xq 4 = _ := f4
  try dsimp only at f4
  replace f5 : xq 5 = _ := f5
  try dsimp only at f5
  replace f6 : xq 6 = _ := f6
  try dsimp only at f6
  replace f7 : xq 7 = _ := f7
  try dsimp only at f7
  change wpList _ _ _ _ (Act.put (Act.put (Act.put (Act.put (Act.put (Act.put (Act.put (Act.put _ (some 20) (xq 0)) (some 21) (xq 1)) (some 22) (xq 2)) (some 23) (xq 3)) (some 24) (xq 4)) (some 25) (xq 5)) (some 26) (xq 6)) (some 4) (xq 7)) _
  simp only [putsL, Nat.reduceAdd, List.drop_succ_cons, List.drop_zero, List.drop_nil, Act.put, List.setIfInBounds_toArray, List.set_cons_succ, List.set_cons_zero]
  try simp only [f0, f1, f2, f3, f4, f5, f6, f7]
  clear f0 f1 f2 f3 f4 f5 f6 f7
  clear holdq hapq
  have hkq := (Ext.refl w4).drew.trans herq
  have hR6 := hR5.ext hkq
  obtain ⟨r1, r2⟩ := hR6.walk
  have rl := hR6.lt
  go_wp2
  go_light
  have hF1 := ((hR6.set_ 0 (.slice wp wide.length wc)).set_ 1 (.slice hp high.length hc)).cast (cs' := #[.slice wp wide.length wc, .slice hp high.length hc]) (by simp)
  have hEf : ExtS s w ((wrq.setCell ⟨w.heap.size, 0, none⟩ (.slice wp wide.length wc)).setCell ⟨w.heap.size, 1, none⟩ (.slice hp high.length hc)) := ((hE5.ext hkq).setCell (p := ⟨w.heap.size, 0, none⟩) (.inr (Nat.le_refl _)) _).setCell (p := ⟨w.heap.size, 1, none⟩) (.inr (Nat.le_refl _)) _
  have hMf : PsM ((wrq.setCell ⟨w.heap.size, 0, none⟩ (.slice wp wide.length wc)).setCell ⟨w.heap.size, 1, none⟩ (.slice hp high.length hc)) pp pc P wp wc wide hp hc high lp lc S := by
    have hG : ExtS w.heap.size wrq ((wrq.setCell ⟨w.heap.size, 0, none⟩ (.slice wp wide.length wc)).setCell ⟨w.heap.size, 1, none⟩ (.slice hp high.length hc)) := ((ExtS.refl _ _).setCell (p := ⟨w.heap.size, 0, none⟩) (.inl rfl) _).setCell (p := ⟨w.heap.size, 1, none⟩) (.inl rfl) _
    have hM6 := hM.out.more hkq
    exact ⟨hM6.per.extS hG hpg, hM6.wid.extS hG hwg, hM6.hig.extS hG hhg, hM6.sta.extS hG (fun a ha e => by have := hlf a ha; simp at this; omega), hM6.sP, hM6.sw, hM6.sh, hM6.sS, hM6.nP, hM6.nS⟩
  exact bodyPost_ret (v := .tuple #[.slice pp P.length pc, .agg #[.slice wp wide.length wc, .slice hp high.length hc], .slice lp S.length lc, .int .i64 sf]) (results_tctt Tryz.results26 _ _ w.heap.size 29 _ (0, 0) _ rfl hF1 Tryz.underlying29 rfl (by kernel_rfl) _ _ _ rfl rfl rfl) rfl ⟨pp, pc, P, wp, wc, wide, hp, hc, high, lp, lc, S, by rw [hsf.out], hMf, ⟨by omega, hw4, hS9⟩, ⟨hpf2, hwf2, hhf2, fun a ha e => by have := hlf a ha; simp at this; omega⟩, ((hS4.ext hkq).set (p := ⟨w.heap.size, 0, none⟩) l0 _).set (p := ⟨w.heap.size, 1, none⟩) l0 _, hEf⟩
end Go.Proofs.YtakfanmoepiagaaGreatDoor
