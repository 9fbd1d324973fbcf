/- Whether stands are near; who stands in front of whom. Conditions: the stands are on the stage. -/
import Derived.Test.YtfcoeikekbjgpaaGreatDoorSxJ16
set_option linter.unusedSimpArgs false
set_option linter.unusedVariables false
namespace Go.Proofs.YtfcoeikekbjgpaaGreatDoor
open Go Go.RowKit

set_option maxRecDepth 100000 in
set_option maxHeartbeats 1600000 in
theorem near_any (wp : Option Addr) (wc : Nat) (hp : Option Addr) (hn hc : Nat) (wide : List Int) (x y : StandV) (w : World) (hw : Slc 1 intC w wp wide.length wc wide) (hok : WideOk wide) (hx : OnStage wide x) (hy : OnStage wide y) :
    Calls Tryz.prog 101 #[.agg #[.slice wp wide.length wc, .slice hp hn hc], .agg #[.string x.name, .int .i64 x.row, .int .i64 x.place], .agg #[.string y.name, .int .i64 y.row, .int .i64 y.place]] w fun e w' => e = .returned (.bool (nearS wide x y)) ∧ Ext w w' := by
  have bx := pos_bound hok hx
  have b2 := pos_bound hok hy
  have hn9 : nearS wide x y = !outB (posS wide x - posS wide y) (-1) 1 := by unfold nearS; rw [outB_inB]; simp
  rw [hn9]
  clear hn9
  have hpx := fun u (hu : Ext w u) => position_any wp wc hp hn hc wide x u (hw.ext hu) hok hx
  have hpy := fun u (hu : Ext w u) => position_any wp wc hp hn hc wide y u (hw.ext hu) hok hy
  generalize posS wide x = px at *
  generalize posS wide y = py at *
  have hX : Blk (((w.alloc (.cells #[.slice wp wide.length wc, .slice hp hn hc] 29)).alloc (.cells #[.string x.name, .int .i64 x.row, .int .i64 x.place] 48)).alloc (.cells #[.string y.name, .int .i64 y.row, .int .i64 y.place] 48)) w.heap.size 29 #[.slice wp wide.length wc, .slice hp hn hc] := ((Blk.new' rfl).alloc _).alloc _
  have hY : Blk (((w.alloc (.cells #[.slice wp wide.length wc, .slice hp hn hc] 29)).alloc (.cells #[.string x.name, .int .i64 x.row, .int .i64 x.place] 48)).alloc (.cells #[.string y.name, .int .i64 y.row, .int .i64 y.place] 48)) (w.heap.size + 1) 48 #[.string x.name, .int .i64 x.row, .int .i64 x.place] := (Blk.new' (by simp)).alloc _
  have hZ : Blk (((w.alloc (.cells #[.slice wp wide.length wc, .slice hp hn hc] 29)).alloc (.cells #[.string x.name, .int .i64 x.row, .int .i64 x.place] 48)).alloc (.cells #[.string y.name, .int .i64 y.row, .int .i64 y.place] 48)) (w.heap.size + 1 + 1) 48 #[.string y.name, .int .i64 y.row, .int .i64 y.place] := Blk.new' (by simp)
  have hE : Ext w (((w.alloc (.cells #[.slice wp wide.length wc, .slice hp hn hc] 29)).alloc (.cells #[.string x.name, .int .i64 x.row, .int .i64 x.place] 48)).alloc (.cells #[.string y.name, .int .i64 y.row, .int .i64 y.place] 48)) := (((Ext.refl _).alloc _).alloc _).alloc _
  have hwr : IntKind.i64.wrap (px - py) = px - py := IntWalk.i64_in _ (by omega)
  replace hpx := Lib.hid hpx
  replace hpy := Lib.hid hpy
  clear hw hok hx hy
  go_enter Tryz.func101, Tryz.ntmps101
  go_upto_region 1 with fail
  generalize ((w.alloc (.cells #[.slice wp wide.length wc, .slice hp hn hc] 29)).alloc (.cells #[.string x.name, .int .i64 x.row, .int .i64 x.place] 48)).alloc (.cells #[.string y.name, .int .i64 y.row, .int .i64 y.place] 48) = W at *
  refine wp_region_facts [] [([], false, false), ([], false, false), ([0, 1], false, false), ([], false, false), ([], false, false), ([3, 4], false, false), ([0, 1, 2, 3, 4, 5], false, false), ([0, 1, 2, 3, 4, 5, 6], false, false), ([0, 1, 2, 3, 4, 5, 6, 7], false, false)] (Ext) Ext (fun _ => True) (by kernel_rfl) (by kernel_rfl) Ext.refl (fun _ _ _ => Ext.trans) (fun _ _ h => h) (fun _ _ h => h.size) (fun _ _ h _ => h) trivial ?_
  dsimp only [List.length_cons, List.length_nil, List.drop_succ_cons, List.drop_zero, List.drop_nil]
  refine fac_quiet 0 rfl rfl rfl (fun _ _ h _ => h) rfl rfl ?_
  apply Exists.intro
  refine ⟨fun sv w' hw' hfa => ?_, ?_⟩
  · have hk9 := (Ext.refl W).drew.trans hw'; obtain ⟨y1, -⟩ := (hX.ext hk9).walk; obtain ⟨y2, -⟩ := (hY.ext hk9).walk; obtain ⟨y3, -⟩ := (hZ.ext hk9).walk
    refine ⟨rfl, ?_⟩
    simp only [putsL]
    change quietTo _ _ _ _ (Sem.run _ (execOp (Act.eval _) _) _)
    try simp only [Act.put, List.setIfInBounds_toArray, List.set_cons_succ, List.set_cons_zero]
    simp [go_sem, quietTo, Ext.refl, ↓IntWalk.iteOmega, y1]
    all_goals try simp (disch := omega) only [IntWalk.i64_in]
    all_goals first
      | rfl
  refine fac_quiet 1 rfl rfl rfl (fun _ _ h _ => h) rfl rfl ?_
  apply Exists.intro
  refine ⟨fun sv w' hw' hfa => ?_, ?_⟩
  · have hk9 := (Ext.refl W).drew.trans hw'; obtain ⟨y1, -⟩ := (hX.ext hk9).walk; obtain ⟨y2, -⟩ := (hY.ext hk9).walk; obtain ⟨y3, -⟩ := (hZ.ext hk9).walk
    refine ⟨rfl, ?_⟩
    simp only [putsL]
    change quietTo _ _ _ _ (Sem.run _ (execOp (Act.eval _) _) _)
    try simp only [Act.put, List.setIfInBounds_toArray, List.set_cons_succ, List.set_cons_zero]
    simp [go_sem, quietTo, Ext.refl, ↓IntWalk.iteOmega, y2]
    all_goals try simp (disch := omega) only [IntWalk.i64_in]
    all_goals first
      | rfl
  refine fac_quiet 2 rfl rfl rfl (fun _ _ h _ => h) rfl rfl ?_
  apply Exists.intro
  refine ⟨fun sv w' hw' hfa => ?_, ?_⟩
  · obtain ⟨f0, f1, -⟩ := hfa
    replace f0 : sv 0 = _ := f0
    try dsimp only at f0
    replace f1 : sv 1 = _ := f1
    try dsimp only at f1
    have hk9 := (Ext.refl W).drew.trans hw'; obtain ⟨y1, -⟩ := (hX.ext hk9).walk; obtain ⟨y2, -⟩ := (hY.ext hk9).walk; obtain ⟨y3, -⟩ := (hZ.ext hk9).walk
    refine ⟨rfl, ?_⟩
    simp only [putsL]
    change quietTo _ _ _ _ (Sem.run _ (execOp (Act.eval (Act.put (Act.put _ (some 8) (sv 1)) (some 7) (sv 0))) _) _)
    try simp only [Act.put, List.setIfInBounds_toArray, List.set_cons_succ, List.set_cons_zero]
    simp [go_sem, quietTo, Ext.refl, ↓IntWalk.iteOmega, f0, f1]
    all_goals try simp (disch := omega) only [IntWalk.i64_in]
    all_goals first
      | rfl
      | (exact hpx.out _ (hE.trans ((Ext.refl W).drew.trans hw')))
  refine fac_quiet 3 rfl rfl rfl (fun _ _ h _ => h) rfl rfl ?_
  apply Exists.intro
  refine ⟨fun sv w' hw' hfa => ?_, ?_⟩
  · have hk9 := (Ext.refl W).drew.trans hw'; obtain ⟨y1, -⟩ := (hX.ext hk9).walk; obtain ⟨y2, -⟩ := (hY.ext hk9).walk; obtain ⟨y3, -⟩ := (hZ.ext hk9).walk
    refine ⟨rfl, ?_⟩
    simp only [putsL]
    change quietTo _ _ _ _ (Sem.run _ (execOp (Act.eval _) _) _)
    try simp only [Act.put, List.setIfInBounds_toArray, List.set_cons_succ, List.set_cons_zero]
    simp [go_sem, quietTo, Ext.refl, ↓IntWalk.iteOmega, y1]
    all_goals try simp (disch := omega) only [IntWalk.i64_in]
    all_goals first
      | rfl
  refine fac_quiet 4 rfl rfl rfl (fun _ _ h _ => h) rfl rfl ?_
  apply Exists.intro
  refine ⟨fun sv w' hw' hfa => ?_, ?_⟩
  · have hk9 := (Ext.refl W).drew.trans hw'; obtain ⟨y1, -⟩ := (hX.ext hk9).walk; obtain ⟨y2, -⟩ := (hY.ext hk9).walk; obtain ⟨y3, -⟩ := (hZ.ext hk9).walk
    refine ⟨rfl, ?_⟩
    simp only [putsL]
    change quietTo _ _ _ _ (Sem.run _ (execOp (Act.eval _) _) _)
    try simp only [Act.put, List.setIfInBounds_toArray, List.set_cons_succ, List.set_cons_zero]
    simp [go_sem, quietTo, Ext.refl, ↓IntWalk.iteOmega, y3]
    all_goals try simp (disch := omega) only [IntWalk.i64_in]
    all_goals first
      | rfl
  refine fac_quiet 5 rfl rfl rfl (fun _ _ h _ => h) rfl rfl ?_
  apply Exists.intro
  refine ⟨fun sv w' hw' hfa => ?_, ?_⟩
  · obtain ⟨f3, f4, -⟩ := hfa
    replace f3 : sv 3 = _ := f3
    try dsimp only at f3
    replace f4 : sv 4 = _ := f4
    try dsimp only at f4
    have hk9 := (Ext.refl W).drew.trans hw'; obtain ⟨y1, -⟩ := (hX.ext hk9).walk; obtain ⟨y2, -⟩ := (hY.ext hk9).walk; obtain ⟨y3, -⟩ := (hZ.ext hk9).walk
    refine ⟨rfl, ?_⟩
    simp only [putsL]
    change quietTo _ _ _ _ (Sem.run _ (execOp (Act.eval (Act.put (Act.put _ (some 11) (sv 4)) (some 10) (sv 3))) _) _)
    try simp only [Act.put, List.setIfInBounds_toArray, List.set_cons_succ, List.set_cons_zero]
    simp [go_sem, quietTo, Ext.refl, ↓IntWalk.iteOmega, f3, f4]
    all_goals try simp (disch := omega) only [IntWalk.i64_in]
    all_goals first
      | rfl
      | (exact hpy.out _ (hE.trans ((Ext.refl W).drew.trans hw')))
  refine fac_quiet 6 rfl rfl rfl (fun _ _ h _ => h) rfl rfl ?_
  apply Exists.intro
  refine ⟨fun sv w' hw' hfa => ?_, ?_⟩
  · obtain ⟨_, _, f2, _, _, f5, -⟩ := hfa
    replace f2 : sv 2 = _ := f2
    try dsimp only at f2
    replace f5 : sv 5 = _ := f5
    try dsimp only at f5
    have hk9 := (Ext.refl W).drew.trans hw'; obtain ⟨y1, -⟩ := (hX.ext hk9).walk; obtain ⟨y2, -⟩ := (hY.ext hk9).walk; obtain ⟨y3, -⟩ := (hZ.ext hk9).walk
    refine ⟨rfl, ?_⟩
    simp only [putsL]
    change quietTo _ _ _ _ (Sem.run _ (execOp (Act.eval (Act.put (Act.put (Act.put (Act.put (Act.put (Act.put _ (some 12) (sv 5)) (some 11) (sv 4)) (some 10) (sv 3)) (some 9) (sv 2)) (some 8) (sv 1)) (some 7) (sv 0))) _) _)
    try simp only [Act.put, List.setIfInBounds_toArray, List.set_cons_succ, List.set_cons_zero]
    simp [go_sem, quietTo, Ext.refl, ↓IntWalk.iteOmega, f2, f5, hwr]
    all_goals try simp (disch := omega) only [IntWalk.i64_in]
    all_goals first
      | rfl
  refine fac_quiet 7 rfl rfl rfl (fun _ _ h _ => h) rfl rfl ?_
  apply Exists.intro
  refine ⟨fun sv w' hw' hfa => ?_, ?_⟩
  · obtain ⟨f0, f1, f2, f3, f4, f5, f6, -⟩ := hfa
    replace f0 : sv 0 = _ := f0
    try dsimp only at f0
    replace f1 : sv 1 = _ := f1
    try dsimp only at f1
    replace f2 : sv 2 = _ := f2
    try dsimp only at f2
    replace f3 : sv 3 = _ := f3
    try dsimp only at f3
    replace f4 : sv 4 = _ := f4
    try dsimp only at f4
    replace f5 : sv 5 = _ := f5
    try dsimp only at f5
    replace f6 : sv 6 = _ := f6
    try dsimp only at f6
    have hk9 := (Ext.refl W).drew.trans hw'; obtain ⟨y1, -⟩ := (hX.ext hk9).walk; obtain ⟨y2, -⟩ := (hY.ext hk9).walk; obtain ⟨y3, -⟩ := (hZ.ext hk9).walk
    refine ⟨rfl, ?_⟩
    simp only [putsL]
    change quietTo _ _ _ _ (Sem.run _ (execOp (Act.eval (Act.put (Act.put (Act.put (Act.put (Act.put (Act.put (Act.put _ (some 13) (sv 6)) (some 12) (sv 5)) (some 11) (sv 4)) (some 10) (sv 3)) (some 9) (sv 2)) (some 8) (sv 1)) (some 7) (sv 0))) _) _)
    try simp only [Act.put, List.setIfInBounds_toArray, List.set_cons_succ, List.set_cons_zero]
    simp [go_sem, quietTo, Ext.refl, ↓IntWalk.iteOmega, f6]
    all_goals try simp (disch := omega) only [IntWalk.i64_in]
    all_goals first
      | rfl
      | (exact (outside_any _ _ _ _).mono fun _ _ h => ⟨h.1, h.2 ▸ Ext.refl _⟩)
  refine fac_quiet 8 rfl rfl rfl (fun _ _ h _ => h) rfl rfl ?_
  apply Exists.intro
  refine ⟨fun sv w' hw' hfa => ?_, ?_⟩
  · obtain ⟨_, _, _, _, _, _, _, f7, -⟩ := hfa
    replace f7 : sv 7 = _ := f7
    try dsimp only at f7
    refine ⟨rfl, ?_⟩
    simp only [putsL]
    change quietTo _ _ _ _ (Sem.run _ (execOp (Act.eval (Act.put (Act.put (Act.put (Act.put (Act.put (Act.put (Act.put (Act.put _ (some 14) (sv 7)) (some 13) (sv 6)) (some 12) (sv 5)) (some 11) (sv 4)) (some 10) (sv 3)) (some 9) (sv 2)) (some 8) (sv 1)) (some 7) (sv 0))) _) _)
    try simp only [Act.put, List.setIfInBounds_toArray, List.set_cons_succ, List.set_cons_zero]
    simp [go_sem, quietTo, Ext.refl, ↓IntWalk.iteOmega, f7]
    all_goals try simp (disch := omega) only [IntWalk.i64_in]
    all_goals first
      | rfl
  refine fac_nil fun xq wrq herq hfrq hcrq holdq hapq => ?_
  obtain ⟨f0, f1, f2, f3, f4, f5, f6, f7, f8, -⟩ := hfrq
  replace f0 : xq 0 = _ := f0
  try dsimp only at f0
  replace f1 : xq 1 = _ := f1
  try dsimp only at f1
  replace f2 : xq 2 = _ := f2
  try dsimp only at f2
  replace f3 : xq 3 = _ := f3
  try dsimp only at f3
  replace f4 : xq 4 = _ := f4
  try dsimp only at f4
  replace f5 : xq 5 = _ := f5
  try dsimp only at f5
  replace f6 : xq 6 = _ := f6
  try dsimp only at f6
  replace f7 : xq 7 = _ := f7
  try dsimp only at f7
  replace f8 : xq 8 = _ := f8
  try dsimp only at f8
  change wpList _ _ _ _ (Act.put (Act.put (Act.put (Act.put (Act.put (Act.put (Act.put (Act.put (Act.put _ (some 7) (xq 0)) (some 8) (xq 1)) (some 9) (xq 2)) (some 10) (xq 3)) (some 11) (xq 4)) (some 12) (xq 5)) (some 13) (xq 6)) (some 14) (xq 7)) (some 15) (xq 8)) _
  simp only [putsL, Nat.reduceAdd, List.drop_succ_cons, List.drop_zero, List.drop_nil, Act.put, List.setIfInBounds_toArray, List.set_cons_succ, List.set_cons_zero]
  try simp only [f0, f1, f2, f3, f4, f5, f6, f7, f8]
  clear f0 f1 f2 f3 f4 f5 f6 f7 f8
  clear holdq hapq
  go_wp2
  go_ret
  exact ⟨by simp, hE.trans ((Ext.refl _).drew.trans herq)⟩

/-- A choir in memory. -/
structure ChM (w : World) (g : Nat) (pp : Option Addr) (pc : Nat) (P : List PersonV) (wp : Option Addr) (wc : Nat) (wide : List Int) (hp : Option Addr) (hc : Nat) (high : List Int) (lp : Option Addr) (lc : Nat) (S : List StandV) : Prop where
  blk : Blk w g 130 #[.slice pp P.length pc, .slice wp wide.length wc, .slice hp high.length hc, .slice lp S.length lc]
  per : Slc 3 perC w pp P.length pc P
  wid : Slc 1 intC w wp wide.length wc wide
  hig : Slc 1 intC w hp high.length hc high
  sta : Slc 3 staC w lp S.length lc S
theorem ChM.more {w w' : World} {g : Nat} {pp : Option Addr} {pc : Nat} {P : List PersonV} {wp : Option Addr} {wc : Nat} {wide : List Int} {hp : Option Addr} {hc : Nat} {high : List Int} {lp : Option Addr} {lc : Nat} {S : List StandV} (h : ChM w g pp pc P wp wc wide hp hc high lp lc S) (he : Ext w w') : ChM w' g pp pc P wp wc wide hp hc high lp lc S :=
  ⟨h.blk.ext he, h.per.ext he, h.wid.ext he, h.hig.ext he, h.sta.ext he⟩

set_option maxRecDepth 100000 in
set_option maxHeartbeats 1600000 in
theorem before_any (g : Nat) (pp : Option Addr) (pc : Nat) (P : List PersonV) (wp : Option Addr) (wc : Nat) (wide : List Int) (hp : Option Addr) (hc : Nat) (high : List Int) (lp : Option Addr) (lc : Nat) (S : List StandV) (w : World) (h : ChM w g pp pc P wp wc wide hp hc high lp lc S) (hok : WideOk wide) (hl : S.length ≤ 1000) (hon : ∀ x ∈ S, OnStage wide x) {i k : Nat} {x y : StandV} (hx : S[i]? = some x) (hy : S[k]? = some y) :
    Calls Tryz.prog 66 #[.pointer (some ⟨g, 0, none⟩), .int .i64 i, .int .i64 k] w fun e w' => e = .returned (.bool (beforeS wide x y)) ∧ Ext w w' := by
  have hnr := fun u (hu : Ext w u) => near_any wp wc hp high.length hc wide x y u (h.wid.ext hu) hok (hon x (List.mem_of_getElem? hx)) (hon y (List.mem_of_getElem? hy))
  have hbe : beforeS wide x y = (decide (x.row < y.row) && nearS wide x y) := rfl
  rw [hbe]
  clear hbe
  have hi := (List.getElem?_eq_some_iff.1 hx).1
  have hk := (List.getElem?_eq_some_iff.1 hy).1
  rcases (slcC h.sta).2 with ⟨-, e⟩ | ⟨b, off, rfl, hb, hEl⟩
  · rw [e] at hx; cases hx
  obtain ⟨c0, c1, c2⟩ := hEl.sta hx
  obtain ⟨d0, d1, d2⟩ := hEl.sta hy
  have hB := h.blk
  have hiI : (i : Int) < S.length := by omega
  have hkI : (k : Int) < S.length := by omega
  generalize nearS wide x y = nn at *
  replace hnr := Lib.hid hnr
  clear h hok hon hx hy hEl
  go_enter Tryz.func66, Tryz.ntmps66
  go_upto_region 1 with fail
  by_cases hlt : x.row < y.row
  · skip
    refine wp_region_facts [] [([], false, false), ([0], false, false), ([0, 1], false, false), ([0, 1, 2], false, false), ([], false, false), ([0, 1, 2, 3, 4], false, false), ([0, 1, 2, 3, 4, 5], false, false), ([0, 1, 2, 3, 4, 5, 6], false, false), ([], false, false), ([8], false, false), ([8, 9], false, false), ([8, 9, 10], false, false), ([], false, false), ([8, 9, 10, 11, 12], false, false), ([8, 9, 10, 11, 12, 13], false, false), ([8, 9, 10, 11, 12, 13, 14], false, false), ([0, 1, 2, 3, 4, 5, 6, 7, 8, 9, 10, 11, 12, 13, 14, 15], false, false), ([0, 1, 2, 3, 4, 5, 6, 7, 8, 9, 10, 11, 12, 13, 14, 15, 16], false, false), ([0, 1, 2, 3, 4, 5, 6, 7, 8, 9, 10, 11, 12, 13, 14, 15, 16, 17], false, false), ([0, 1, 2, 3, 4, 5, 6, 7, 8, 9, 10, 11, 12, 13, 14, 15, 16, 17, 18], false, false), ([0, 1, 2, 3, 4, 5, 6, 7, 8, 9, 10, 11, 12, 13, 14, 15, 16, 17, 18, 19], false, false), ([0, 1, 2, 3, 4, 5, 6, 7, 8, 9, 10, 11, 12, 13, 14, 15, 16, 17, 18, 19, 20], false, false), ([0, 1, 2, 3, 4, 5, 6, 7, 8, 9, 10, 11, 12, 13, 14, 15, 16, 17], false, false), ([0, 1, 2, 3, 4, 5, 6, 7, 8, 9, 10, 11, 12, 13, 14, 15, 16, 17, 22], false, false), ([0, 1, 2, 3, 4, 5, 6, 7, 8, 9, 10, 11, 12, 13, 14, 15, 16, 17, 22, 23], false, false), ([0, 1, 2, 3, 4, 5, 6, 7, 8, 9, 10, 11, 12, 13, 14, 15, 16, 17, 22, 23, 24], false, false), ([0, 1, 2, 3, 4, 5, 6, 7, 8, 9, 10, 11, 12, 13, 14, 15, 16, 17], false, false), ([0, 1, 2, 3, 4, 5, 6, 7, 8, 9, 10, 11, 12, 13, 14, 15, 16, 17, 22, 23, 24, 25, 26], false, false), ([0, 1, 2, 3, 4, 5, 6, 7, 8, 9, 10, 11, 12, 13, 14, 15, 16, 17, 22, 23, 24, 25, 26, 27], false, false), ([0, 1, 2, 3, 4, 5, 6, 7, 8, 9, 10, 11, 12, 13, 14, 15, 16, 17], false, false), ([0, 1, 2, 3, 4, 5, 6, 7, 8, 9, 10, 11, 12, 13, 14, 15, 16, 17, 29], false, false), ([0, 1, 2, 3, 4, 5, 6, 7, 8, 9, 10, 11, 12, 13, 14, 15, 16, 17, 29, 30], false, false), ([0, 1, 2, 3, 4, 5, 6, 7, 8, 9, 10, 11, 12, 13, 14, 15, 16, 17, 29, 30, 31], false, false), ([0, 1, 2, 3, 4, 5, 6, 7, 8, 9, 10, 11, 12, 13, 14, 15, 16, 17], false, false), ([0, 1, 2, 3, 4, 5, 6, 7, 8, 9, 10, 11, 12, 13, 14, 15, 16, 17, 29, 30, 31, 32, 33], false, false), ([0, 1, 2, 3, 4, 5, 6, 7, 8, 9, 10, 11, 12, 13, 14, 15, 16, 17, 29, 30, 31, 32, 33, 34], false, false), ([0, 1, 2, 3, 4, 5, 6, 7, 8, 9, 10, 11, 12, 13, 14, 15, 16, 17, 18, 19, 20, 21, 22, 23, 24, 25, 26, 27, 28, 29, 30, 31, 32, 33, 34, 35], false, false), ([0, 1, 2, 3, 4, 5, 6, 7, 8, 9, 10, 11, 12, 13, 14, 15, 16, 17, 18, 19, 20, 21, 22, 23, 24, 25, 26, 27, 28, 29, 30, 31, 32, 33, 34, 35, 36], false, false)] (Ext) Ext (fun _ => True) (by kernel_rfl) (by kernel_rfl) Ext.refl (fun _ _ _ => Ext.trans) (fun _ _ h => h) (fun _ _ h => h.size) (fun _ _ h _ => h) trivial ?_
    dsimp only [List.length_cons, List.length_nil, List.drop_succ_cons, List.drop_zero, List.drop_nil]
    refine fac_quiet 0 rfl rfl rfl (fun _ _ h _ => h) rfl rfl ?_
    apply Exists.intro
    refine ⟨fun sv w' hw' hfa => ?_, ?_⟩
    · refine ⟨rfl, ?_⟩
      simp only [putsL]
      change quietTo _ _ _ _ (Sem.run _ (execOp (Act.eval _) _) _)
      try simp only [Act.put, List.setIfInBounds_toArray, List.set_cons_succ, List.set_cons_zero]
      simp [go_sem, quietTo, Ext.refl]
      all_goals first
        | rfl
    refine fac_quiet 1 rfl rfl rfl (fun _ _ h _ => h) rfl rfl ?_
    apply Exists.intro
    refine ⟨fun sv w' hw' hfa => ?_, ?_⟩
    · obtain ⟨f0, -⟩ := hfa
      replace f0 : sv 0 = _ := f0
      try dsimp only at f0
      refine ⟨rfl, ?_⟩
      simp only [putsL]
      change quietTo _ _ _ _ (Sem.run _ (execOp (Act.eval (Act.put _ (some 7) (sv 0))) _) _)
      try simp only [Act.put, List.setIfInBounds_toArray, List.set_cons_succ, List.set_cons_zero]
      simp [go_sem, quietTo, Ext.refl, f0]
      all_goals first
        | rfl
    refine fac_quiet 2 rfl rfl rfl (fun _ _ h _ => h) rfl rfl ?_
    apply Exists.intro
    refine ⟨fun sv w' hw' hfa => ?_, ?_⟩
    · obtain ⟨_, f1, -⟩ := hfa
      replace f1 : sv 1 = _ := f1
      try dsimp only at f1
      refine ⟨rfl, ?_⟩
      simp only [putsL]
      change quietTo _ _ _ _ (Sem.run _ (execOp (Act.eval (Act.put (Act.put _ (some 8) (sv 1)) (some 7) (sv 0))) _) _)
      try simp only [Act.put, List.setIfInBounds_toArray, List.set_cons_succ, List.set_cons_zero]
      simp [go_sem, quietTo, Ext.refl, f1]
      all_goals first
        | rfl
    refine fac_quiet 3 rfl rfl rfl (fun _ _ h _ => h) rfl rfl ?_
    apply Exists.intro
    refine ⟨fun sv w' hw' hfa => ?_, ?_⟩
    · obtain ⟨_, _, f2, -⟩ := hfa
      replace f2 : sv 2 = _ := f2
      try dsimp only at f2
      have hk9 := (Ext.refl w).drew.trans hw'; obtain ⟨y1, -⟩ := (hB.ext hk9).walk; obtain ⟨hc9, hff, hz9⟩ := hk9.walk; have v0 := (hc9 _ _ hb).trans c0; have v1 := (hc9 _ _ hb).trans c1; have v2 := (hc9 _ _ hb).trans c2; have u0 := (hc9 _ _ hb).trans d0; have u1 := (hc9 _ _ hb).trans d1; have u2 := (hc9 _ _ hb).trans d2
      refine ⟨rfl, ?_⟩
      simp only [putsL]
      change quietTo _ _ _ _ (Sem.run _ (execOp (Act.eval (Act.put (Act.put (Act.put _ (some 9) (sv 2)) (some 8) (sv 1)) (some 7) (sv 0))) _) _)
      try simp only [Act.put, List.setIfInBounds_toArray, List.set_cons_succ, List.set_cons_zero]
      simp [go_sem, quietTo, Ext.refl, ↓IntWalk.iteOmega, f2, y1]
      all_goals try simp (disch := omega) only [IntWalk.i64_in]
      all_goals first
        | rfl
    refine fac_quiet 4 rfl rfl rfl (fun _ _ h _ => h) rfl rfl ?_
    apply Exists.intro
    refine ⟨fun sv w' hw' hfa => ?_, ?_⟩
    · refine ⟨rfl, ?_⟩
      simp only [putsL]
      change quietTo _ _ _ _ (Sem.run _ (execOp (Act.eval _) _) _)
      try simp only [Act.put, List.setIfInBounds_toArray, List.set_cons_succ, List.set_cons_zero]
      simp [go_sem, quietTo, Ext.refl]
      all_goals first
        | rfl
    refine fac_quiet 5 rfl rfl rfl (fun _ _ h _ => h) rfl rfl ?_
    apply Exists.intro
    refine ⟨fun sv w' hw' hfa => ?_, ?_⟩
    · obtain ⟨_, _, _, f3, f4, -⟩ := hfa
      replace f3 : sv 3 = _ := f3
      try dsimp only at f3
      replace f4 : sv 4 = _ := f4
      try dsimp only at f4
      have hk9 := (Ext.refl w).drew.trans hw'; obtain ⟨y1, -⟩ := (hB.ext hk9).walk; obtain ⟨hc9, hff, hz9⟩ := hk9.walk; have v0 := (hc9 _ _ hb).trans c0; have v1 := (hc9 _ _ hb).trans c1; have v2 := (hc9 _ _ hb).trans c2; have u0 := (hc9 _ _ hb).trans d0; have u1 := (hc9 _ _ hb).trans d1; have u2 := (hc9 _ _ hb).trans d2
      refine ⟨rfl, ?_⟩
      simp only [putsL]
      change quietTo _ _ _ _ (Sem.run _ (execOp (Act.eval (Act.put (Act.put (Act.put (Act.put (Act.put _ (some 11) (sv 4)) (some 10) (sv 3)) (some 9) (sv 2)) (some 8) (sv 1)) (some 7) (sv 0))) _) _)
      try simp only [Act.put, List.setIfInBounds_toArray, List.set_cons_succ, List.set_cons_zero]
      simp [go_sem, quietTo, Ext.refl, ↓IntWalk.iteOmega, f3, f4, hiI]
      all_goals try simp (disch := omega) only [IntWalk.i64_in]
      all_goals first
        | rfl
    refine fac_quiet 6 rfl rfl rfl (fun _ _ h _ => h) rfl rfl ?_
    apply Exists.intro
    refine ⟨fun sv w' hw' hfa => ?_, ?_⟩
    · obtain ⟨_, _, _, _, _, f5, -⟩ := hfa
      replace f5 : sv 5 = _ := f5
      try dsimp only at f5
      refine ⟨rfl, ?_⟩
      simp only [putsL]
      change quietTo _ _ _ _ (Sem.run _ (execOp (Act.eval (Act.put (Act.put (Act.put (Act.put (Act.put (Act.put _ (some 12) (sv 5)) (some 11) (sv 4)) (some 10) (sv 3)) (some 9) (sv 2)) (some 8) (sv 1)) (some 7) (sv 0))) _) _)
      try simp only [Act.put, List.setIfInBounds_toArray, List.set_cons_succ, List.set_cons_zero]
      simp [go_sem, quietTo, Ext.refl, f5]
      all_goals first
        | rfl
    refine fac_quiet 7 rfl rfl rfl (fun _ _ h _ => h) rfl rfl ?_
    apply Exists.intro
    refine ⟨fun sv w' hw' hfa => ?_, ?_⟩
    · obtain ⟨_, _, _, _, _, _, f6, -⟩ := hfa
      replace f6 : sv 6 = _ := f6
      try dsimp only at f6
      have hk9 := (Ext.refl w).drew.trans hw'; obtain ⟨y1, -⟩ := (hB.ext hk9).walk; obtain ⟨hc9, hff, hz9⟩ := hk9.walk; have v0 := (hc9 _ _ hb).trans c0; have v1 := (hc9 _ _ hb).trans c1; have v2 := (hc9 _ _ hb).trans c2; have u0 := (hc9 _ _ hb).trans d0; have u1 := (hc9 _ _ hb).trans d1; have u2 := (hc9 _ _ hb).trans d2
      refine ⟨rfl, ?_⟩
      simp only [putsL]
      change quietTo _ _ _ _ (Sem.run _ (execOp (Act.eval (Act.put (Act.put (Act.put (Act.put (Act.put (Act.put (Act.put _ (some 13) (sv 6)) (some 12) (sv 5)) (some 11) (sv 4)) (some 10) (sv 3)) (some 9) (sv 2)) (some 8) (sv 1)) (some 7) (sv 0))) _) _)
      try simp only [Act.put, List.setIfInBounds_toArray, List.set_cons_succ, List.set_cons_zero]
      simp [go_sem, quietTo, Ext.refl, ↓IntWalk.iteOmega, f6, v1]
      all_goals try simp (disch := omega) only [IntWalk.i64_in]
      all_goals first
        | rfl
    refine fac_quiet 8 rfl rfl rfl (fun _ _ h _ => h) rfl rfl ?_
    apply Exists.intro
    refine ⟨fun sv w' hw' hfa => ?_, ?_⟩
    · refine ⟨rfl, ?_⟩
      simp only [putsL]
      change quietTo _ _ _ _ (Sem.run _ (execOp (Act.eval _) _) _)
      try simp only [Act.put, List.setIfInBounds_toArray, List.set_cons_succ, List.set_cons_zero]
      simp [go_sem, quietTo, Ext.refl]
      all_goals first
        | rfl
    refine fac_quiet 9 rfl rfl rfl (fun _ _ h _ => h) rfl rfl ?_
    apply Exists.intro
    refine ⟨fun sv w' hw' hfa => ?_, ?_⟩
    · obtain ⟨f8, -⟩ := hfa
      replace f8 : sv 8 = _ := f8
      try dsimp only at f8
      refine ⟨rfl, ?_⟩
      simp only [putsL]
      change quietTo _ _ _ _ (Sem.run _ (execOp (Act.eval (Act.put _ (some 15) (sv 8))) _) _)
      try simp only [Act.put, List.setIfInBounds_toArray, List.set_cons_succ, List.set_cons_zero]
      simp [go_sem, quietTo, Ext.refl, f8]
      all_goals first
        | rfl
    refine fac_quiet 10 rfl rfl rfl (fun _ _ h _ => h) rfl rfl ?_
    apply Exists.intro
    refine ⟨fun sv w' hw' hfa => ?_, ?_⟩
    · obtain ⟨_, f9, -⟩ := hfa
      replace f9 : sv 9 = _ := f9
      try dsimp only at f9
      refine ⟨rfl, ?_⟩
      simp only [putsL]
      change quietTo _ _ _ _ (Sem.run _ (execOp (Act.eval (Act.put (Act.put _ (some 16) (sv 9)) (some 15) (sv 8))) _) _)
      try simp only [Act.put, List.setIfInBounds_toArray, List.set_cons_succ, List.set_cons_zero]
      simp [go_sem, quietTo, Ext.refl, f9]
      all_goals first
        | rfl
    refine fac_quiet 11 rfl rfl rfl (fun _ _ h _ => h) rfl rfl ?_
    apply Exists.intro
    refine ⟨fun sv w' hw' hfa => ?_, ?_⟩
    · obtain ⟨_, _, f10, -⟩ := hfa
      replace f10 : sv 10 = _ := f10
      try dsimp only at f10
      have hk9 := (Ext.refl w).drew.trans hw'; obtain ⟨y1, -⟩ := (hB.ext hk9).walk; obtain ⟨hc9, hff, hz9⟩ := hk9.walk; have v0 := (hc9 _ _ hb).trans c0; have v1 := (hc9 _ _ hb).trans c1; have v2 := (hc9 _ _ hb).trans c2; have u0 := (hc9 _ _ hb).trans d0; have u1 := (hc9 _ _ hb).trans d1; have u2 := (hc9 _ _ hb).trans d2
      refine ⟨rfl, ?_⟩
      simp only [putsL]
      change quietTo _ _ _ _ (Sem.run _ (execOp (Act.eval (Act.put (Act.put (Act.put _ (some 17) (sv 10)) (some 16) (sv 9)) (some 15) (sv 8))) _) _)
      try simp only [Act.put, List.setIfInBounds_toArray, List.set_cons_succ, List.set_cons_zero]
      simp [go_sem, quietTo, Ext.refl, ↓IntWalk.iteOmega, f10, y1]
      all_goals try simp (disch := omega) only [IntWalk.i64_in]
      all_goals first
        | rfl
    refine fac_quiet 12 rfl rfl rfl (fun _ _ h _ => h) rfl rfl ?_
    apply Exists.intro
    refine ⟨fun sv w' hw' hfa => ?_, ?_⟩
    · refine ⟨rfl, ?_⟩
      simp only [putsL]
      change quietTo _ _ _ _ (Sem.run _ (execOp (Act.eval _) _) _)
      try simp only [Act.put, List.setIfInBounds_toArray, List.set_cons_succ, List.set_cons_zero]
      simp [go_sem, quietTo, Ext.refl]
      all_goals first
        | rfl
    refine fac_quiet 13 rfl rfl rfl (fun _ _ h _ => h) rfl rfl ?_
    apply Exists.intro
    refine ⟨fun sv w' hw' hfa => ?_, ?_⟩
    · obtain ⟨_, _, _, f11, f12, -⟩ := hfa
      replace f11 : sv 11 = _ := f11
      try dsimp only at f11
      replace f12 : sv 12 = _ := f12
      try dsimp only at f12
      have hk9 := (Ext.refl w).drew.trans hw'; obtain ⟨y1, -⟩ := (hB.ext hk9).walk; obtain ⟨hc9, hff, hz9⟩ := hk9.walk; have v0 := (hc9 _ _ hb).trans c0; have v1 := (hc9 _ _ hb).trans c1; have v2 := (hc9 _ _ hb).trans c2; have u0 := (hc9 _ _ hb).trans d0; have u1 := (hc9 _ _ hb).trans d1; have u2 := (hc9 _ _ hb).trans d2
      refine ⟨rfl, ?_⟩
      simp only [putsL]
      change quietTo _ _ _ _ (Sem.run _ (execOp (Act.eval (Act.put (Act.put (Act.put (Act.put (Act.put _ (some 19) (sv 12)) (some 18) (sv 11)) (some 17) (sv 10)) (some 16) (sv 9)) (some 15) (sv 8))) _) _)
      try simp only [Act.put, List.setIfInBounds_toArray, List.set_cons_succ, List.set_cons_zero]
      simp [go_sem, quietTo, Ext.refl, ↓IntWalk.iteOmega, f11, f12, hkI]
      all_goals try simp (disch := omega) only [IntWalk.i64_in]
      all_goals first
        | rfl
    refine fac_quiet 14 rfl rfl rfl (fun _ _ h _ => h) rfl rfl ?_
    apply Exists.intro
    refine ⟨fun sv w' hw' hfa => ?_, ?_⟩
    · obtain ⟨_, _, _, _, _, f13, -⟩ := hfa
      replace f13 : sv 13 = _ := f13
      try dsimp only at f13
      refine ⟨rfl, ?_⟩
      simp only [putsL]
      change quietTo _ _ _ _ (Sem.run _ (execOp (Act.eval (Act.put (Act.put (Act.put (Act.put (Act.put (Act.put _ (some 20) (sv 13)) (some 19) (sv 12)) (some 18) (sv 11)) (some 17) (sv 10)) (some 16) (sv 9)) (some 15) (sv 8))) _) _)
      try simp only [Act.put, List.setIfInBounds_toArray, List.set_cons_succ, List.set_cons_zero]
      simp [go_sem, quietTo, Ext.refl, f13]
      all_goals first
        | rfl
    refine fac_quiet 15 rfl rfl rfl (fun _ _ h _ => h) rfl rfl ?_
    apply Exists.intro
    refine ⟨fun sv w' hw' hfa => ?_, ?_⟩
    · obtain ⟨_, _, _, _, _, _, f14, -⟩ := hfa
      replace f14 : sv 14 = _ := f14
      try dsimp only at f14
      have hk9 := (Ext.refl w).drew.trans hw'; obtain ⟨y1, -⟩ := (hB.ext hk9).walk; obtain ⟨hc9, hff, hz9⟩ := hk9.walk; have v0 := (hc9 _ _ hb).trans c0; have v1 := (hc9 _ _ hb).trans c1; have v2 := (hc9 _ _ hb).trans c2; have u0 := (hc9 _ _ hb).trans d0; have u1 := (hc9 _ _ hb).trans d1; have u2 := (hc9 _ _ hb).trans d2
      refine ⟨rfl, ?_⟩
      simp only [putsL]
      change quietTo _ _ _ _ (Sem.run _ (execOp (Act.eval (Act.put (Act.put (Act.put (Act.put (Act.put (Act.put (Act.put _ (some 21) (sv 14)) (some 20) (sv 13)) (some 19) (sv 12)) (some 18) (sv 11)) (some 17) (sv 10)) (some 16) (sv 9)) (some 15) (sv 8))) _) _)
      try simp only [Act.put, List.setIfInBounds_toArray, List.set_cons_succ, List.set_cons_zero]
      simp [go_sem, quietTo, Ext.refl, ↓IntWalk.iteOmega, f14, u1]
      all_goals try simp (disch := omega) only [IntWalk.i64_in]
      all_goals first
        | rfl
    refine fac_quiet 16 rfl rfl rfl (fun _ _ h _ => h) rfl rfl ?_
    apply Exists.intro
    refine ⟨fun sv w' hw' hfa => ?_, ?_⟩
    · obtain ⟨_, _, _, _, _, _, _, f7, _, _, _, _, _, _, _, f15, -⟩ := hfa
      replace f7 : sv 7 = _ := f7
      try dsimp only at f7
      replace f15 : sv 15 = _ := f15
      try dsimp only at f15
      have hk9 := (Ext.refl w).drew.trans hw'; obtain ⟨y1, -⟩ := (hB.ext hk9).walk; obtain ⟨hc9, hff, hz9⟩ := hk9.walk; have v0 := (hc9 _ _ hb).trans c0; have v1 := (hc9 _ _ hb).trans c1; have v2 := (hc9 _ _ hb).trans c2; have u0 := (hc9 _ _ hb).trans d0; have u1 := (hc9 _ _ hb).trans d1; have u2 := (hc9 _ _ hb).trans d2
      refine ⟨rfl, ?_⟩
      simp only [putsL]
      change quietTo _ _ _ _ (Sem.run _ (execOp (Act.eval (Act.put (Act.put (Act.put (Act.put (Act.put (Act.put (Act.put (Act.put (Act.put (Act.put (Act.put (Act.put (Act.put (Act.put (Act.put (Act.put _ (some 22) (sv 15)) (some 21) (sv 14)) (some 20) (sv 13)) (some 19) (sv 12)) (some 18) (sv 11)) (some 17) (sv 10)) (some 16) (sv 9)) (some 15) (sv 8)) (some 14) (sv 7)) (some 13) (sv 6)) (some 12) (sv 5)) (some 11) (sv 4)) (some 10) (sv 3)) (some 9) (sv 2)) (some 8) (sv 1)) (some 7) (sv 0))) _) _)
      try simp only [Act.put, List.setIfInBounds_toArray, List.set_cons_succ, List.set_cons_zero]
      simp [go_sem, quietTo, Ext.refl, ↓IntWalk.iteOmega, f7, f15, hlt]
      all_goals try simp (disch := omega) only [IntWalk.i64_in]
      all_goals first
        | rfl
    refine fac_quiet 17 rfl rfl rfl (fun _ _ h _ => h) rfl rfl ?_
    apply Exists.intro
    refine ⟨fun sv w' hw' hfa => ?_, ?_⟩
    · obtain ⟨_, _, _, _, _, _, _, _, _, _, _, _, _, _, _, _, f16, -⟩ := hfa
      replace f16 : sv 16 = _ := f16
      try dsimp only at f16
      refine ⟨rfl, ?_⟩
      simp only [putsL]
      change quietTo _ _ _ _ (Sem.run _ (execOp (Act.eval (Act.put (Act.put (Act.put (Act.put (Act.put (Act.put (Act.put (Act.put (Act.put (Act.put (Act.put (Act.put (Act.put (Act.put (Act.put (Act.put (Act.put _ (some 23) (sv 16)) (some 22) (sv 15)) (some 21) (sv 14)) (some 20) (sv 13)) (some 19) (sv 12)) (some 18) (sv 11)) (some 17) (sv 10)) (some 16) (sv 9)) (some 15) (sv 8)) (some 14) (sv 7)) (some 13) (sv 6)) (some 12) (sv 5)) (some 11) (sv 4)) (some 10) (sv 3)) (some 9) (sv 2)) (some 8) (sv 1)) (some 7) (sv 0))) _) _)
      try simp only [Act.put, List.setIfInBounds_toArray, List.set_cons_succ, List.set_cons_zero]
      simp [go_sem, quietTo, Ext.refl, f16]
      all_goals first
        | rfl
    refine fac_quiet 18 rfl rfl rfl (fun _ _ h _ => h) rfl rfl ?_
    apply Exists.intro
    refine ⟨fun sv w' hw' hfa => ?_, ?_⟩
    · obtain ⟨_, _, _, _, _, _, _, _, _, _, _, _, _, _, _, _, _, f17, -⟩ := hfa
      replace f17 : sv 17 = _ := f17
      try dsimp only at f17
      refine ⟨by simp [Region.wanted, yielded, putsL, Act.put, f17], ?_⟩
      simp only [putsL]
      change quietTo _ _ _ _ (Sem.run _ (execOp (Act.eval (Act.put (Act.put (Act.put (Act.put (Act.put (Act.put (Act.put (Act.put (Act.put (Act.put (Act.put (Act.put (Act.put (Act.put (Act.put (Act.put (Act.put (Act.put _ (some 24) (sv 17)) (some 23) (sv 16)) (some 22) (sv 15)) (some 21) (sv 14)) (some 20) (sv 13)) (some 19) (sv 12)) (some 18) (sv 11)) (some 17) (sv 10)) (some 16) (sv 9)) (some 15) (sv 8)) (some 14) (sv 7)) (some 13) (sv 6)) (some 12) (sv 5)) (some 11) (sv 4)) (some 10) (sv 3)) (some 9) (sv 2)) (some 8) (sv 1)) (some 7) (sv 0))) _) _)
      try simp only [Act.put, List.setIfInBounds_toArray, List.set_cons_succ, List.set_cons_zero]
      simp [go_sem, quietTo, Ext.refl, f17]
      all_goals first
        | rfl
    refine fac_quiet 19 rfl rfl rfl (fun _ _ h _ => h) rfl rfl ?_
    apply Exists.intro
    refine ⟨fun sv w' hw' hfa => ?_, ?_⟩
    · obtain ⟨_, _, _, _, _, _, _, _, _, _, _, _, _, _, _, _, _, f17, f18, -⟩ := hfa
      replace f17 : sv 17 = _ := f17
      try dsimp only at f17
      replace f18 : sv 18 = _ := f18
      try dsimp only at f18
      refine ⟨by simp [Region.wanted, yielded, putsL, Act.put, f17, f18], ?_⟩
      simp only [putsL]
      change quietTo _ _ _ _ (Sem.run _ (execOp (Act.eval (Act.put (Act.put (Act.put (Act.put (Act.put (Act.put (Act.put (Act.put (Act.put (Act.put (Act.put (Act.put (Act.put (Act.put (Act.put (Act.put (Act.put (Act.put (Act.put _ (some 25) (sv 18)) (some 24) (sv 17)) (some 23) (sv 16)) (some 22) (sv 15)) (some 21) (sv 14)) (some 20) (sv 13)) (some 19) (sv 12)) (some 18) (sv 11)) (some 17) (sv 10)) (some 16) (sv 9)) (some 15) (sv 8)) (some 14) (sv 7)) (some 13) (sv 6)) (some 12) (sv 5)) (some 11) (sv 4)) (some 10) (sv 3)) (some 9) (sv 2)) (some 8) (sv 1)) (some 7) (sv 0))) _) _)
      try simp only [Act.put, List.setIfInBounds_toArray, List.set_cons_succ, List.set_cons_zero]
      simp [go_sem, quietTo, Ext.refl, f17, f18]
      all_goals first
        | rfl
    refine fac_quiet 20 rfl rfl rfl (fun _ _ h _ => h) rfl rfl ?_
    apply Exists.intro
    refine ⟨fun sv w' hw' hfa => ?_, ?_⟩
    · obtain ⟨_, _, _, _, _, _, _, _, _, _, _, _, _, _, _, _, _, f17, _, f19, -⟩ := hfa
      replace f17 : sv 17 = _ := f17
      try dsimp only at f17
      replace f19 : sv 19 = _ := f19
      try dsimp only at f19
      refine ⟨by simp [Region.wanted, yielded, putsL, Act.put, f17, f19], ?_⟩
      simp only [putsL]
      change quietTo _ _ _ _ (Sem.run _ (execOp (Act.eval (Act.put (Act.put (Act.put (Act.put (Act.put (Act.put (Act.put (Act.put (Act.put (Act.put (Act.put (Act.put (Act.put (Act.put (Act.put (Act.put (Act.put (Act.put (Act.put (Act.put _ (some 26) (sv 19)) (some 25) (sv 18)) (some 24) (sv 17)) (some 23) (sv 16)) (some 22) (sv 15)) (some 21) (sv 14)) (some 20) (sv 13)) (some 19) (sv 12)) (some 18) (sv 11)) (some 17) (sv 10)) (some 16) (sv 9)) (some 15) (sv 8)) (some 14) (sv 7)) (some 13) (sv 6)) (some 12) (sv 5)) (some 11) (sv 4)) (some 10) (sv 3)) (some 9) (sv 2)) (some 8) (sv 1)) (some 7) (sv 0))) _) _)
      try simp only [Act.put, List.setIfInBounds_toArray, List.set_cons_succ, List.set_cons_zero]
      simp [go_sem, quietTo, Ext.refl, f17, f19]
      all_goals first
        | rfl
    refine fac_quiet 21 rfl rfl rfl (fun _ _ h _ => h) rfl rfl ?_
    apply Exists.intro
    refine ⟨fun sv w' hw' hfa => ?_, ?_⟩
    · obtain ⟨_, _, _, _, _, _, _, _, _, _, _, _, _, _, _, _, _, f17, _, _, f20, -⟩ := hfa
      replace f17 : sv 17 = _ := f17
      try dsimp only at f17
      replace f20 : sv 20 = _ := f20
      try dsimp only at f20
      have hk9 := (Ext.refl w).drew.trans hw'; obtain ⟨y1, -⟩ := (hB.ext hk9).walk; obtain ⟨hc9, hff, hz9⟩ := hk9.walk; have v0 := (hc9 _ _ hb).trans c0; have v1 := (hc9 _ _ hb).trans c1; have v2 := (hc9 _ _ hb).trans c2; have u0 := (hc9 _ _ hb).trans d0; have u1 := (hc9 _ _ hb).trans d1; have u2 := (hc9 _ _ hb).trans d2
      refine ⟨by simp [Region.wanted, yielded, putsL, Act.put, f17, f20], ?_⟩
      simp only [putsL]
      change quietTo _ _ _ _ (Sem.run _ (execOp (Act.eval (Act.put (Act.put (Act.put (Act.put (Act.put (Act.put (Act.put (Act.put (Act.put (Act.put (Act.put (Act.put (Act.put (Act.put (Act.put (Act.put (Act.put (Act.put (Act.put (Act.put (Act.put _ (some 27) (sv 20)) (some 26) (sv 19)) (some 25) (sv 18)) (some 24) (sv 17)) (some 23) (sv 16)) (some 22) (sv 15)) (some 21) (sv 14)) (some 20) (sv 13)) (some 19) (sv 12)) (some 18) (sv 11)) (some 17) (sv 10)) (some 16) (sv 9)) (some 15) (sv 8)) (some 14) (sv 7)) (some 13) (sv 6)) (some 12) (sv 5)) (some 11) (sv 4)) (some 10) (sv 3)) (some 9) (sv 2)) (some 8) (sv 1)) (some 7) (sv 0))) _) _)
      try simp only [Act.put, List.setIfInBounds_toArray, List.set_cons_succ, List.set_cons_zero]
      simp [go_sem, quietTo, Ext.refl, ↓IntWalk.iteOmega, f17, f20, y1]
      all_goals try simp (disch := omega) only [IntWalk.i64_in]
      all_goals first
        | rfl
    refine fac_quiet 22 rfl rfl rfl (fun _ _ h _ => h) rfl rfl ?_
    apply Exists.intro
    refine ⟨fun sv w' hw' hfa => ?_, ?_⟩
    · obtain ⟨_, _, _, _, _, _, _, _, _, _, _, _, _, _, _, _, _, f17, -⟩ := hfa
      replace f17 : sv 17 = _ := f17
      try dsimp only at f17
      refine ⟨by simp [Region.wanted, yielded, putsL, Act.put, f17], ?_⟩
      simp only [putsL]
      change quietTo _ _ _ _ (Sem.run _ (execOp (Act.eval (Act.put (Act.put (Act.put (Act.put (Act.put (Act.put (Act.put (Act.put (Act.put (Act.put (Act.put (Act.put (Act.put (Act.put (Act.put (Act.put (Act.put (Act.put _ (some 24) (sv 17)) (some 23) (sv 16)) (some 22) (sv 15)) (some 21) (sv 14)) (some 20) (sv 13)) (some 19) (sv 12)) (some 18) (sv 11)) (some 17) (sv 10)) (some 16) (sv 9)) (some 15) (sv 8)) (some 14) (sv 7)) (some 13) (sv 6)) (some 12) (sv 5)) (some 11) (sv 4)) (some 10) (sv 3)) (some 9) (sv 2)) (some 8) (sv 1)) (some 7) (sv 0))) _) _)
      try simp only [Act.put, List.setIfInBounds_toArray, List.set_cons_succ, List.set_cons_zero]
      simp [go_sem, quietTo, Ext.refl, f17]
      all_goals first
        | rfl
    refine fac_quiet 23 rfl rfl rfl (fun _ _ h _ => h) rfl rfl ?_
    apply Exists.intro
    refine ⟨fun sv w' hw' hfa => ?_, ?_⟩
    · obtain ⟨_, _, _, _, _, _, _, _, _, _, _, _, _, _, _, _, _, f17, f22, -⟩ := hfa
      replace f17 : sv 17 = _ := f17
      try dsimp only at f17
      replace f22 : sv 22 = _ := f22
      try dsimp only at f22
      refine ⟨by simp [Region.wanted, yielded, putsL, Act.put, f17, f22], ?_⟩
      simp only [putsL]
      change quietTo _ _ _ _ (Sem.run _ (execOp (Act.eval (Act.put (Act.put (Act.put (Act.put (Act.put (Act.put (Act.put (Act.put (Act.put (Act.put (Act.put (Act.put (Act.put (Act.put (Act.put (Act.put (Act.put (Act.put (Act.put _ (some 29) (sv 22)) (some 24) (sv 17)) (some 23) (sv 16)) (some 22) (sv 15)) (some 21) (sv 14)) (some 20) (sv 13)) (some 19) (sv 12)) (some 18) (sv 11)) (some 17) (sv 10)) (some 16) (sv 9)) (some 15) (sv 8)) (some 14) (sv 7)) (some 13) (sv 6)) (some 12) (sv 5)) (some 11) (sv 4)) (some 10) (sv 3)) (some 9) (sv 2)) (some 8) (sv 1)) (some 7) (sv 0))) _) _)
      try simp only [Act.put, List.setIfInBounds_toArray, List.set_cons_succ, List.set_cons_zero]
      simp [go_sem, quietTo, Ext.refl, f17, f22]
      all_goals first
        | rfl
    refine fac_quiet 24 rfl rfl rfl (fun _ _ h _ => h) rfl rfl ?_
    apply Exists.intro
    refine ⟨fun sv w' hw' hfa => ?_, ?_⟩
    · obtain ⟨_, _, _, _, _, _, _, _, _, _, _, _, _, _, _, _, _, f17, _, f23, -⟩ := hfa
      replace f17 : sv 17 = _ := f17
      try dsimp only at f17
      replace f23 : sv 23 = _ := f23
      try dsimp only at f23
      refine ⟨by simp [Region.wanted, yielded, putsL, Act.put, f17, f23], ?_⟩
      simp only [putsL]
      change quietTo _ _ _ _ (Sem.run _ (execOp (Act.eval (Act.put (Act.put (Act.put (Act.put (Act.put (Act.put (Act.put (Act.put (Act.put (Act.put (Act.put (Act.put (Act.put (Act.put (Act.put (Act.put (Act.put (Act.put (Act.put (Act.put _ (some 30) (sv 23)) (some 29) (sv 22)) (some 24) (sv 17)) (some 23) (sv 16)) (some 22) (sv 15)) (some 21) (sv 14)) (some 20) (sv 13)) (some 19) (sv 12)) (some 18) (sv 11)) (some 17) (sv 10)) (some 16) (sv 9)) (some 15) (sv 8)) (some 14) (sv 7)) (some 13) (sv 6)) (some 12) (sv 5)) (some 11) (sv 4)) (some 10) (sv 3)) (some 9) (sv 2)) (some 8) (sv 1)) (some 7) (sv 0))) _) _)
      try simp only [Act.put, List.setIfInBounds_toArray, List.set_cons_succ, List.set_cons_zero]
      simp [go_sem, quietTo, Ext.refl, f17, f23]
      all_goals first
        | rfl
    refine fac_quiet 25 rfl rfl rfl (fun _ _ h _ => h) rfl rfl ?_
    apply Exists.intro
    refine ⟨fun sv w' hw' hfa => ?_, ?_⟩
    · obtain ⟨_, _, _, _, _, _, _, _, _, _, _, _, _, _, _, _, _, f17, _, _, f24, -⟩ := hfa
      replace f17 : sv 17 = _ := f17
      try dsimp only at f17
      replace f24 : sv 24 = _ := f24
      try dsimp only at f24
      have hk9 := (Ext.refl w).drew.trans hw'; obtain ⟨y1, -⟩ := (hB.ext hk9).walk; obtain ⟨hc9, hff, hz9⟩ := hk9.walk; have v0 := (hc9 _ _ hb).trans c0; have v1 := (hc9 _ _ hb).trans c1; have v2 := (hc9 _ _ hb).trans c2; have u0 := (hc9 _ _ hb).trans d0; have u1 := (hc9 _ _ hb).trans d1; have u2 := (hc9 _ _ hb).trans d2
      refine ⟨by simp [Region.wanted, yielded, putsL, Act.put, f17, f24], ?_⟩
      simp only [putsL]
      change quietTo _ _ _ _ (Sem.run _ (execOp (Act.eval (Act.put (Act.put (Act.put (Act.put (Act.put (Act.put (Act.put (Act.put (Act.put (Act.put (Act.put (Act.put (Act.put (Act.put (Act.put (Act.put (Act.put (Act.put (Act.put (Act.put (Act.put _ (some 31) (sv 24)) (some 30) (sv 23)) (some 29) (sv 22)) (some 24) (sv 17)) (some 23) (sv 16)) (some 22) (sv 15)) (some 21) (sv 14)) (some 20) (sv 13)) (some 19) (sv 12)) (some 18) (sv 11)) (some 17) (sv 10)) (some 16) (sv 9)) (some 15) (sv 8)) (some 14) (sv 7)) (some 13) (sv 6)) (some 12) (sv 5)) (some 11) (sv 4)) (some 10) (sv 3)) (some 9) (sv 2)) (some 8) (sv 1)) (some 7) (sv 0))) _) _)
      try simp only [Act.put, List.setIfInBounds_toArray, List.set_cons_succ, List.set_cons_zero]
      simp [go_sem, quietTo, Ext.refl, ↓IntWalk.iteOmega, f17, f24, y1]
      all_goals try simp (disch := omega) only [IntWalk.i64_in]
      all_goals first
        | rfl
    refine fac_quiet 26 rfl rfl rfl (fun _ _ h _ => h) rfl rfl ?_
    apply Exists.intro
    refine ⟨fun sv w' hw' hfa => ?_, ?_⟩
    · obtain ⟨_, _, _, _, _, _, _, _, _, _, _, _, _, _, _, _, _, f17, -⟩ := hfa
      replace f17 : sv 17 = _ := f17
      try dsimp only at f17
      refine ⟨by simp [Region.wanted, yielded, putsL, Act.put, f17], ?_⟩
      simp only [putsL]
      change quietTo _ _ _ _ (Sem.run _ (execOp (Act.eval (Act.put (Act.put (Act.put (Act.put (Act.put (Act.put (Act.put (Act.put (Act.put (Act.put (Act.put (Act.put (Act.put (Act.put (Act.put (Act.put (Act.put (Act.put _ (some 24) (sv 17)) (some 23) (sv 16)) (some 22) (sv 15)) (some 21) (sv 14)) (some 20) (sv 13)) (some 19) (sv 12)) (some 18) (sv 11)) (some 17) (sv 10)) (some 16) (sv 9)) (some 15) (sv 8)) (some 14) (sv 7)) (some 13) (sv 6)) (some 12) (sv 5)) (some 11) (sv 4)) (some 10) (sv 3)) (some 9) (sv 2)) (some 8) (sv 1)) (some 7) (sv 0))) _) _)
      try simp only [Act.put, List.setIfInBounds_toArray, List.set_cons_succ, List.set_cons_zero]
      simp [go_sem, quietTo, Ext.refl, f17]
      all_goals first
        | rfl
    refine fac_quiet 27 rfl rfl rfl (fun _ _ h _ => h) rfl rfl ?_
    apply Exists.intro
    refine ⟨fun sv w' hw' hfa => ?_, ?_⟩
    · obtain ⟨_, _, _, _, _, _, _, _, _, _, _, _, _, _, _, _, _, f17, _, _, _, f25, f26, -⟩ := hfa
      replace f17 : sv 17 = _ := f17
      try dsimp only at f17
      replace f25 : sv 25 = _ := f25
      try dsimp only at f25
      replace f26 : sv 26 = _ := f26
      try dsimp only at f26
      have hk9 := (Ext.refl w).drew.trans hw'; obtain ⟨y1, -⟩ := (hB.ext hk9).walk; obtain ⟨hc9, hff, hz9⟩ := hk9.walk; have v0 := (hc9 _ _ hb).trans c0; have v1 := (hc9 _ _ hb).trans c1; have v2 := (hc9 _ _ hb).trans c2; have u0 := (hc9 _ _ hb).trans d0; have u1 := (hc9 _ _ hb).trans d1; have u2 := (hc9 _ _ hb).trans d2
      refine ⟨by simp [Region.wanted, yielded, putsL, Act.put, f17, f25, f26], ?_⟩
      simp only [putsL]
      change quietTo _ _ _ _ (Sem.run _ (execOp (Act.eval (Act.put (Act.put (Act.put (Act.put (Act.put (Act.put (Act.put (Act.put (Act.put (Act.put (Act.put (Act.put (Act.put (Act.put (Act.put (Act.put (Act.put (Act.put (Act.put (Act.put (Act.put (Act.put (Act.put _ (some 33) (sv 26)) (some 32) (sv 25)) (some 31) (sv 24)) (some 30) (sv 23)) (some 29) (sv 22)) (some 24) (sv 17)) (some 23) (sv 16)) (some 22) (sv 15)) (some 21) (sv 14)) (some 20) (sv 13)) (some 19) (sv 12)) (some 18) (sv 11)) (some 17) (sv 10)) (some 16) (sv 9)) (some 15) (sv 8)) (some 14) (sv 7)) (some 13) (sv 6)) (some 12) (sv 5)) (some 11) (sv 4)) (some 10) (sv 3)) (some 9) (sv 2)) (some 8) (sv 1)) (some 7) (sv 0))) _) _)
      try simp only [Act.put, List.setIfInBounds_toArray, List.set_cons_succ, List.set_cons_zero]
      simp [go_sem, quietTo, Ext.refl, ↓IntWalk.iteOmega, f17, f25, f26, hiI]
      all_goals try simp (disch := omega) only [IntWalk.i64_in]
      all_goals first
        | rfl
    refine fac_quiet 28 rfl rfl rfl (fun _ _ h _ => h) rfl rfl ?_
    apply Exists.intro
    refine ⟨fun sv w' hw' hfa => ?_, ?_⟩
    · obtain ⟨_, _, _, _, _, _, _, _, _, _, _, _, _, _, _, _, _, f17, _, _, _, _, _, f27, -⟩ := hfa
      replace f17 : sv 17 = _ := f17
      try dsimp only at f17
      replace f27 : sv 27 = _ := f27
      try dsimp only at f27
      have hk9 := (Ext.refl w).drew.trans hw'; obtain ⟨y1, -⟩ := (hB.ext hk9).walk; obtain ⟨hc9, hff, hz9⟩ := hk9.walk; have v0 := (hc9 _ _ hb).trans c0; have v1 := (hc9 _ _ hb).trans c1; have v2 := (hc9 _ _ hb).trans c2; have u0 := (hc9 _ _ hb).trans d0; have u1 := (hc9 _ _ hb).trans d1; have u2 := (hc9 _ _ hb).trans d2
      refine ⟨by simp [Region.wanted, yielded, putsL, Act.put, f17, f27], ?_⟩
      simp only [putsL]
      change quietTo _ _ _ _ (Sem.run _ (execOp (Act.eval (Act.put (Act.put (Act.put (Act.put (Act.put (Act.put (Act.put (Act.put (Act.put (Act.put (Act.put (Act.put (Act.put (Act.put (Act.put (Act.put (Act.put (Act.put (Act.put (Act.put (Act.put (Act.put (Act.put (Act.put _ (some 34) (sv 27)) (some 33) (sv 26)) (some 32) (sv 25)) (some 31) (sv 24)) (some 30) (sv 23)) (some 29) (sv 22)) (some 24) (sv 17)) (some 23) (sv 16)) (some 22) (sv 15)) (some 21) (sv 14)) (some 20) (sv 13)) (some 19) (sv 12)) (some 18) (sv 11)) (some 17) (sv 10)) (some 16) (sv 9)) (some 15) (sv 8)) (some 14) (sv 7)) (some 13) (sv 6)) (some 12) (sv 5)) (some 11) (sv 4)) (some 10) (sv 3)) (some 9) (sv 2)) (some 8) (sv 1)) (some 7) (sv 0))) _) _)
      try simp only [Act.put, List.setIfInBounds_toArray, List.set_cons_succ, List.set_cons_zero]
      simp [go_sem, quietTo, Ext.refl, ↓IntWalk.iteOmega, f17, f27, v0, v1, v2]
      all_goals try simp (disch := omega) only [IntWalk.i64_in]
      all_goals first
        | rfl
    refine fac_quiet 29 rfl rfl rfl (fun _ _ h _ => h) rfl rfl ?_
    apply Exists.intro
    refine ⟨fun sv w' hw' hfa => ?_, ?_⟩
    · obtain ⟨_, _, _, _, _, _, _, _, _, _, _, _, _, _, _, _, _, f17, -⟩ := hfa
      replace f17 : sv 17 = _ := f17
      try dsimp only at f17
      refine ⟨by simp [Region.wanted, yielded, putsL, Act.put, f17], ?_⟩
      simp only [putsL]
      change quietTo _ _ _ _ (Sem.run _ (execOp (Act.eval (Act.put (Act.put (Act.put (Act.put (Act.put (Act.put (Act.put (Act.put (Act.put (Act.put (Act.put (Act.put (Act.put (Act.put (Act.put (Act.put (Act.put (Act.put _ (some 24) (sv 17)) (some 23) (sv 16)) (some 22) (sv 15)) (some 21) (sv 14)) (some 20) (sv 13)) (some 19) (sv 12)) (some 18) (sv 11)) (some 17) (sv 10)) (some 16) (sv 9)) (some 15) (sv 8)) (some 14) (sv 7)) (some 13) (sv 6)) (some 12) (sv 5)) (some 11) (sv 4)) (some 10) (sv 3)) (some 9) (sv 2)) (some 8) (sv 1)) (some 7) (sv 0))) _) _)
      try simp only [Act.put, List.setIfInBounds_toArray, List.set_cons_succ, List.set_cons_zero]
      simp [go_sem, quietTo, Ext.refl, f17]
      all_goals first
        | rfl
    refine fac_quiet 30 rfl rfl rfl (fun _ _ h _ => h) rfl rfl ?_
    apply Exists.intro
    refine ⟨fun sv w' hw' hfa => ?_, ?_⟩
    · obtain ⟨_, _, _, _, _, _, _, _, _, _, _, _, _, _, _, _, _, f17, f29, -⟩ := hfa
      replace f17 : sv 17 = _ := f17
      try dsimp only at f17
      replace f29 : sv 29 = _ := f29
      try dsimp only at f29
      refine ⟨by simp [Region.wanted, yielded, putsL, Act.put, f17, f29], ?_⟩
      simp only [putsL]
      change quietTo _ _ _ _ (Sem.run _ (execOp (Act.eval (Act.put (Act.put (Act.put (Act.put (Act.put (Act.put (Act.put (Act.put (Act.put (Act.put (Act.put (Act.put (Act.put (Act.put (Act.put (Act.put (Act.put (Act.put (Act.put _ (some 36) (sv 29)) (some 24) (sv 17)) (some 23) (sv 16)) (some 22) (sv 15)) (some 21) (sv 14)) (some 20) (sv 13)) (some 19) (sv 12)) (some 18) (sv 11)) (some 17) (sv 10)) (some 16) (sv 9)) (some 15) (sv 8)) (some 14) (sv 7)) (some 13) (sv 6)) (some 12) (sv 5)) (some 11) (sv 4)) (some 10) (sv 3)) (some 9) (sv 2)) (some 8) (sv 1)) (some 7) (sv 0))) _) _)
      try simp only [Act.put, List.setIfInBounds_toArray, List.set_cons_succ, List.set_cons_zero]
      simp [go_sem, quietTo, Ext.refl, f17, f29]
      all_goals first
        | rfl
    refine fac_quiet 31 rfl rfl rfl (fun _ _ h _ => h) rfl rfl ?_
    apply Exists.intro
    refine ⟨fun sv w' hw' hfa => ?_, ?_⟩
    · obtain ⟨_, _, _, _, _, _, _, _, _, _, _, _, _, _, _, _, _, f17, _, f30, -⟩ := hfa
      replace f17 : sv 17 = _ := f17
      try dsimp only at f17
      replace f30 : sv 30 = _ := f30
      try dsimp only at f30
      refine ⟨by simp [Region.wanted, yielded, putsL, Act.put, f17, f30], ?_⟩
      simp only [putsL]
      change quietTo _ _ _ _ (Sem.run _ (execOp (Act.eval (Act.put (Act.put (Act.put (Act.put (Act.put (Act.put (Act.put (Act.put (Act.put (Act.put (Act.put (Act.put (Act.put (Act.put (Act.put (Act.put (Act.put (Act.put (Act.put (Act.put _ (some 37) (sv 30)) (some 36) (sv 29)) (some 24) (sv 17)) (some 23) (sv 16)) (some 22) (sv 15)) (some 21) (sv 14)) (some 20) (sv 13)) (some 19) (sv 12)) (some 18) (sv 11)) (some 17) (sv 10)) (some 16) (sv 9)) (some 15) (sv 8)) (some 14) (sv 7)) (some 13) (sv 6)) (some 12) (sv 5)) (some 11) (sv 4)) (some 10) (sv 3)) (some 9) (sv 2)) (some 8) (sv 1)) (some 7) (sv 0))) _) _)
      try simp only [Act.put, List.setIfInBounds_toArray, List.set_cons_succ, List.set_cons_zero]
      simp [go_sem, quietTo, Ext.refl, f17, f30]
      all_goals first
        | rfl
    refine fac_quiet 32 rfl rfl rfl (fun _ _ h _ => h) rfl rfl ?_
    apply Exists.intro
    refine ⟨fun sv w' hw' hfa => ?_, ?_⟩
    · obtain ⟨_, _, _, _, _, _, _, _, _, _, _, _, _, _, _, _, _, f17, _, _, f31, -⟩ := hfa
      replace f17 : sv 17 = _ := f17
      try dsimp only at f17
      replace f31 : sv 31 = _ := f31
      try dsimp only at f31
      have hk9 := (Ext.refl w).drew.trans hw'; obtain ⟨y1, -⟩ := (hB.ext hk9).walk; obtain ⟨hc9, hff, hz9⟩ := hk9.walk; have v0 := (hc9 _ _ hb).trans c0; have v1 := (hc9 _ _ hb).trans c1; have v2 := (hc9 _ _ hb).trans c2; have u0 := (hc9 _ _ hb).trans d0; have u1 := (hc9 _ _ hb).trans d1; have u2 := (hc9 _ _ hb).trans d2
      refine ⟨by simp [Region.wanted, yielded, putsL, Act.put, f17, f31], ?_⟩
      simp only [putsL]
      change quietTo _ _ _ _ (Sem.run _ (execOp (Act.eval (Act.put (Act.put (Act.put (Act.put (Act.put (Act.put (Act.put (Act.put (Act.put (Act.put (Act.put (Act.put (Act.put (Act.put (Act.put (Act.put (Act.put (Act.put (Act.put (Act.put (Act.put _ (some 38) (sv 31)) (some 37) (sv 30)) (some 36) (sv 29)) (some 24) (sv 17)) (some 23) (sv 16)) (some 22) (sv 15)) (some 21) (sv 14)) (some 20) (sv 13)) (some 19) (sv 12)) (some 18) (sv 11)) (some 17) (sv 10)) (some 16) (sv 9)) (some 15) (sv 8)) (some 14) (sv 7)) (some 13) (sv 6)) (some 12) (sv 5)) (some 11) (sv 4)) (some 10) (sv 3)) (some 9) (sv 2)) (some 8) (sv 1)) (some 7) (sv 0))) _) _)
      try simp only [Act.put, List.setIfInBounds_toArray, List.set_cons_succ, List.set_cons_zero]
      simp [go_sem, quietTo, Ext.refl, ↓IntWalk.iteOmega, f17, f31, y1]
      all_goals try simp (disch := omega) only [IntWalk.i64_in]
      all_goals first
        | rfl
    refine fac_quiet 33 rfl rfl rfl (fun _ _ h _ => h) rfl rfl ?_
    apply Exists.intro
    refine ⟨fun sv w' hw' hfa => ?_, ?_⟩
    · obtain ⟨_, _, _, _, _, _, _, _, _, _, _, _, _, _, _, _, _, f17, -⟩ := hfa
      replace f17 : sv 17 = _ := f17
      try dsimp only at f17
      refine ⟨by simp [Region.wanted, yielded, putsL, Act.put, f17], ?_⟩
      simp only [putsL]
      change quietTo _ _ _ _ (Sem.run _ (execOp (Act.eval (Act.put (Act.put (Act.put (Act.put (Act.put (Act.put (Act.put (Act.put (Act.put (Act.put (Act.put (Act.put (Act.put (Act.put (Act.put (Act.put (Act.put (Act.put _ (some 24) (sv 17)) (some 23) (sv 16)) (some 22) (sv 15)) (some 21) (sv 14)) (some 20) (sv 13)) (some 19) (sv 12)) (some 18) (sv 11)) (some 17) (sv 10)) (some 16) (sv 9)) (some 15) (sv 8)) (some 14) (sv 7)) (some 13) (sv 6)) (some 12) (sv 5)) (some 11) (sv 4)) (some 10) (sv 3)) (some 9) (sv 2)) (some 8) (sv 1)) (some 7) (sv 0))) _) _)
      try simp only [Act.put, List.setIfInBounds_toArray, List.set_cons_succ, List.set_cons_zero]
      simp [go_sem, quietTo, Ext.refl, f17]
      all_goals first
        | rfl
    refine fac_quiet 34 rfl rfl rfl (fun _ _ h _ => h) rfl rfl ?_
    apply Exists.intro
    refine ⟨fun sv w' hw' hfa => ?_, ?_⟩
    · obtain ⟨_, _, _, _, _, _, _, _, _, _, _, _, _, _, _, _, _, f17, _, _, _, f32, f33, -⟩ := hfa
      replace f17 : sv 17 = _ := f17
      try dsimp only at f17
      replace f32 : sv 32 = _ := f32
      try dsimp only at f32
      replace f33 : sv 33 = _ := f33
      try dsimp only at f33
      have hk9 := (Ext.refl w).drew.trans hw'; obtain ⟨y1, -⟩ := (hB.ext hk9).walk; obtain ⟨hc9, hff, hz9⟩ := hk9.walk; have v0 := (hc9 _ _ hb).trans c0; have v1 := (hc9 _ _ hb).trans c1; have v2 := (hc9 _ _ hb).trans c2; have u0 := (hc9 _ _ hb).trans d0; have u1 := (hc9 _ _ hb).trans d1; have u2 := (hc9 _ _ hb).trans d2
      refine ⟨by simp [Region.wanted, yielded, putsL, Act.put, f17, f32, f33], ?_⟩
      simp only [putsL]
      change quietTo _ _ _ _ (Sem.run _ (execOp (Act.eval (Act.put (Act.put (Act.put (Act.put (Act.put (Act.put (Act.put (Act.put (Act.put (Act.put (Act.put (Act.put (Act.put (Act.put (Act.put (Act.put (Act.put (Act.put (Act.put (Act.put (Act.put (Act.put (Act.put _ (some 40) (sv 33)) (some 39) (sv 32)) (some 38) (sv 31)) (some 37) (sv 30)) (some 36) (sv 29)) (some 24) (sv 17)) (some 23) (sv 16)) (some 22) (sv 15)) (some 21) (sv 14)) (some 20) (sv 13)) (some 19) (sv 12)) (some 18) (sv 11)) (some 17) (sv 10)) (some 16) (sv 9)) (some 15) (sv 8)) (some 14) (sv 7)) (some 13) (sv 6)) (some 12) (sv 5)) (some 11) (sv 4)) (some 10) (sv 3)) (some 9) (sv 2)) (some 8) (sv 1)) (some 7) (sv 0))) _) _)
      try simp only [Act.put, List.setIfInBounds_toArray, List.set_cons_succ, List.set_cons_zero]
      simp [go_sem, quietTo, Ext.refl, ↓IntWalk.iteOmega, f17, f32, f33, hkI]
      all_goals try simp (disch := omega) only [IntWalk.i64_in]
      all_goals first
        | rfl
    refine fac_quiet 35 rfl rfl rfl (fun _ _ h _ => h) rfl rfl ?_
    apply Exists.intro
    refine ⟨fun sv w' hw' hfa => ?_, ?_⟩
    · obtain ⟨_, _, _, _, _, _, _, _, _, _, _, _, _, _, _, _, _, f17, _, _, _, _, _, f34, -⟩ := hfa
      replace f17 : sv 17 = _ := f17
      try dsimp only at f17
      replace f34 : sv 34 = _ := f34
      try dsimp only at f34
      have hk9 := (Ext.refl w).drew.trans hw'; obtain ⟨y1, -⟩ := (hB.ext hk9).walk; obtain ⟨hc9, hff, hz9⟩ := hk9.walk; have v0 := (hc9 _ _ hb).trans c0; have v1 := (hc9 _ _ hb).trans c1; have v2 := (hc9 _ _ hb).trans c2; have u0 := (hc9 _ _ hb).trans d0; have u1 := (hc9 _ _ hb).trans d1; have u2 := (hc9 _ _ hb).trans d2
      refine ⟨by simp [Region.wanted, yielded, putsL, Act.put, f17, f34], ?_⟩
      simp only [putsL]
      change quietTo _ _ _ _ (Sem.run _ (execOp (Act.eval (Act.put (Act.put (Act.put (Act.put (Act.put (Act.put (Act.put (Act.put (Act.put (Act.put (Act.put (Act.put (Act.put (Act.put (Act.put (Act.put (Act.put (Act.put (Act.put (Act.put (Act.put (Act.put (Act.put (Act.put _ (some 41) (sv 34)) (some 40) (sv 33)) (some 39) (sv 32)) (some 38) (sv 31)) (some 37) (sv 30)) (some 36) (sv 29)) (some 24) (sv 17)) (some 23) (sv 16)) (some 22) (sv 15)) (some 21) (sv 14)) (some 20) (sv 13)) (some 19) (sv 12)) (some 18) (sv 11)) (some 17) (sv 10)) (some 16) (sv 9)) (some 15) (sv 8)) (some 14) (sv 7)) (some 13) (sv 6)) (some 12) (sv 5)) (some 11) (sv 4)) (some 10) (sv 3)) (some 9) (sv 2)) (some 8) (sv 1)) (some 7) (sv 0))) _) _)
      try simp only [Act.put, List.setIfInBounds_toArray, List.set_cons_succ, List.set_cons_zero]
      simp [go_sem, quietTo, Ext.refl, ↓IntWalk.iteOmega, f17, f34, u0, u1, u2]
      all_goals try simp (disch := omega) only [IntWalk.i64_in]
      all_goals first
        | rfl
    refine fac_quiet 36 rfl rfl rfl (fun _ _ h _ => h) rfl rfl ?_
    apply Exists.intro
    refine ⟨fun sv w' hw' hfa => ?_, ?_⟩
    · obtain ⟨f0, f1, f2, f3, f4, f5, f6, f7, f8, f9, f10, f11, f12, f13, f14, f15, f16, f17, f18, f19, f20, f21, f22, f23, f24, f25, f26, f27, f28, f29, f30, f31, f32, f33, f34, f35, -⟩ := hfa
      replace f0 : sv 0 = _ := f0
      try dsimp only at f0
      replace f1 : sv 1 = _ := f1
      try dsimp only at f1
      replace f2 : sv 2 = _ := f2
      try dsimp only at f2
      replace f3 : sv 3 = _ := f3
      try dsimp only at f3
      replace f4 : sv 4 = _ := f4
      try dsimp only at f4
      replace f5 : sv 5 = _ := f5
      try dsimp only at f5
      replace f6 : sv 6 = _ := f6
      try dsimp only at f6
      replace f7 : sv 7 = _ := f7
      try dsimp only at f7
      replace f8 : sv 8 = _ := f8
      try dsimp only at f8
      replace f9 : sv 9 = _ := f9
      try dsimp only at f9
      replace f10 : sv 10 = _ := f10
      try dsimp only at f10
      replace f11 : sv 11 = _ := f11
      try dsimp only at f11
      replace f12 : sv 12 = _ := f12
      try dsimp only at f12
      replace f13 : sv 13 = _ := f13
      try dsimp only at f13
      replace f14 : sv 14 = _ := f14
      try dsimp only at f14
      replace f15 : sv 15 = _ := f15
      try dsimp only at f15
      replace f16 : sv 16 = _ := f16
      try dsimp only at f16
      replace f17 : sv 17 = _ := f17
      try dsimp only at f17
      replace f18 : sv 18 = _ := f18
      try dsimp only at f18
      replace f19 : sv 19 = _ := f19
      try dsimp only at f19
      replace f20 : sv 20 = _ := f20
      try dsimp only at f20
      replace f21 : sv 21 = _ := f21
      try dsimp only at f21
      replace f22 : sv 22 = _ := f22
      try dsimp only at f22
      replace f23 : sv 23 = _ := f23
      try dsimp only at f23
      replace f24 : sv 24 = _ := f24
      try dsimp only at f24
      replace f25 : sv 25 = _ := f25
      try dsimp only at f25
      replace f26 : sv 26 = _ := f26
      try dsimp only at f26
      replace f27 : sv 27 = _ := f27
      try dsimp only at f27
      replace f28 : sv 28 = _ := f28
      try dsimp only at f28
      replace f29 : sv 29 = _ := f29
      try dsimp only at f29
      replace f30 : sv 30 = _ := f30
      try dsimp only at f30
      replace f31 : sv 31 = _ := f31
      try dsimp only at f31
      replace f32 : sv 32 = _ := f32
      try dsimp only at f32
      replace f33 : sv 33 = _ := f33
      try dsimp only at f33
      replace f34 : sv 34 = _ := f34
      try dsimp only at f34
      replace f35 : sv 35 = _ := f35
      try dsimp only at f35
      have hk9 := (Ext.refl w).drew.trans hw'; obtain ⟨y1, -⟩ := (hB.ext hk9).walk; obtain ⟨hc9, hff, hz9⟩ := hk9.walk; have v0 := (hc9 _ _ hb).trans c0; have v1 := (hc9 _ _ hb).trans c1; have v2 := (hc9 _ _ hb).trans c2; have u0 := (hc9 _ _ hb).trans d0; have u1 := (hc9 _ _ hb).trans d1; have u2 := (hc9 _ _ hb).trans d2
      refine ⟨by simp [Region.wanted, yielded, putsL, Act.put, f17, f21, f28, f35], ?_⟩
      simp only [putsL]
      change quietTo _ _ _ _ (Sem.run _ (execOp (Act.eval (Act.put (Act.put (Act.put (Act.put (Act.put (Act.put (Act.put (Act.put (Act.put (Act.put (Act.put (Act.put (Act.put (Act.put (Act.put (Act.put (Act.put (Act.put (Act.put (Act.put (Act.put (Act.put (Act.put (Act.put (Act.put (Act.put (Act.put (Act.put (Act.put (Act.put (Act.put (Act.put (Act.put (Act.put (Act.put (Act.put _ (some 42) (sv 35)) (some 41) (sv 34)) (some 40) (sv 33)) (some 39) (sv 32)) (some 38) (sv 31)) (some 37) (sv 30)) (some 36) (sv 29)) (some 35) (sv 28)) (some 34) (sv 27)) (some 33) (sv 26)) (some 32) (sv 25)) (some 31) (sv 24)) (some 30) (sv 23)) (some 29) (sv 22)) (some 28) (sv 21)) (some 27) (sv 20)) (some 26) (sv 19)) (some 25) (sv 18)) (some 24) (sv 17)) (some 23) (sv 16)) (some 22) (sv 15)) (some 21) (sv 14)) (some 20) (sv 13)) (some 19) (sv 12)) (some 18) (sv 11)) (some 17) (sv 10)) (some 16) (sv 9)) (some 15) (sv 8)) (some 14) (sv 7)) (some 13) (sv 6)) (some 12) (sv 5)) (some 11) (sv 4)) (some 10) (sv 3)) (some 9) (sv 2)) (some 8) (sv 1)) (some 7) (sv 0))) _) _)
      try simp only [Act.put, List.setIfInBounds_toArray, List.set_cons_succ, List.set_cons_zero]
      simp [go_sem, quietTo, Ext.refl, ↓IntWalk.iteOmega, f17, f21, f28, f35]
      all_goals try simp (disch := omega) only [IntWalk.i64_in]
      all_goals first
        | rfl
        | (exact hnr.out _ hk9)
    refine fac_quiet 37 rfl rfl rfl (fun _ _ h _ => h) rfl rfl ?_
    apply Exists.intro
    refine ⟨fun sv w' hw' hfa => ?_, ?_⟩
    · obtain ⟨_, _, _, _, _, _, _, _, _, _, _, _, _, _, _, _, _, f17, _, _, _, _, _, _, _, _, _, _, _, _, _, _, _, _, _, _, f36, -⟩ := hfa
      replace f17 : sv 17 = _ := f17
      try dsimp only at f17
      replace f36 : sv 36 = _ := f36
      try dsimp only at f36
      refine ⟨rfl, ?_⟩
      simp only [putsL]
      change quietTo _ _ _ _ (Sem.run _ (execOp (Act.eval (Act.put (Act.put (Act.put (Act.put (Act.put (Act.put (Act.put (Act.put (Act.put (Act.put (Act.put (Act.put (Act.put (Act.put (Act.put (Act.put (Act.put (Act.put (Act.put (Act.put (Act.put (Act.put (Act.put (Act.put (Act.put (Act.put (Act.put (Act.put (Act.put (Act.put (Act.put (Act.put (Act.put (Act.put (Act.put (Act.put (Act.put _ (some 43) (sv 36)) (some 42) (sv 35)) (some 41) (sv 34)) (some 40) (sv 33)) (some 39) (sv 32)) (some 38) (sv 31)) (some 37) (sv 30)) (some 36) (sv 29)) (some 35) (sv 28)) (some 34) (sv 27)) (some 33) (sv 26)) (some 32) (sv 25)) (some 31) (sv 24)) (some 30) (sv 23)) (some 29) (sv 22)) (some 28) (sv 21)) (some 27) (sv 20)) (some 26) (sv 19)) (some 25) (sv 18)) (some 24) (sv 17)) (some 23) (sv 16)) (some 22) (sv 15)) (some 21) (sv 14)) (some 20) (sv 13)) (some 19) (sv 12)) (some 18) (sv 11)) (some 17) (sv 10)) (some 16) (sv 9)) (some 15) (sv 8)) (some 14) (sv 7)) (some 13) (sv 6)) (some 12) (sv 5)) (some 11) (sv 4)) (some 10) (sv 3)) (some 9) (sv 2)) (some 8) (sv 1)) (some 7) (sv 0))) _) _)
      try simp only [Act.put, List.setIfInBounds_toArray, List.set_cons_succ, List.set_cons_zero]
      simp [go_sem, quietTo, Ext.refl, ↓IntWalk.iteOmega, f17, f36]
      all_goals try simp (disch := omega) only [IntWalk.i64_in]
      all_goals first
        | rfl
    refine fac_nil fun xq wrq herq hfrq hcrq holdq hapq => ?_
    obtain ⟨f0, f1, f2, f3, f4, f5, f6, f7, f8, f9, f10, f11, f12, f13, f14, f15, f16, f17, f18, f19, f20, f21, f22, f23, f24, f25, f26, f27, f28, f29, f30, f31, f32, f33, f34, f35, f36, f37, -⟩ := hfrq
    replace f0 : xq 0 = _ := f0
    try dsimp only at f0
    replace f1 : xq 1 = _ := f1
    try dsimp only at f1
    replace f2 : xq 2 = _ := f2
    try dsimp only at f2
    replace f3 : xq 3 = _ := f3
    try dsimp only at f3
    replace f4 : xq 4 = _ := f4
    try dsimp only at f4
    replace f5 : xq 5 = _ := f5
    try dsimp only at f5
    replace f6 : xq 6 = _ := f6
    try dsimp only at f6
    replace f7 : xq 7 = _ := f7
    try dsimp only at f7
    replace f8 : xq 8 = _ := f8
    try dsimp only at f8
    replace f9 : xq 9 = _ := f9
    try dsimp only at f9
    replace f10 : xq 10 = _ := f10
    try dsimp only at f10
    replace f11 : xq 11 = _ := f11
    try dsimp only at f11
    replace f12 : xq 12 = _ := f12
    try dsimp only at f12
    replace f13 : xq 13 = _ := f13
    try dsimp only at f13
    replace f14 : xq 14 = _ := f14
    try dsimp only at f14
    replace f15 : xq 15 = _ := f15
    try dsimp only at f15
    replace f16 : xq 16 = _ := f16
    try dsimp only at f16
    replace f17 : xq 17 = _ := f17
    try dsimp only at f17
    replace f18 : xq 18 = _ := f18
    try dsimp only at f18
    replace f19 : xq 19 = _ := f19
    try dsimp only at f19
    replace f20 : xq 20 = _ := f20
    try dsimp only at f20
    replace f21 : xq 21 = _ := f21
    try dsimp only at f21
    replace f22 : xq 22 = _ := f22
    try dsimp only at f22
    replace f23 : xq 23 = _ := f23
    try dsimp only at f23
    replace f24 : xq 24 = _ := f24
    try dsimp only at f24
    replace f25 : xq 25 = _ := f25
    try dsimp only at f25
    replace f26 : xq 26 = _ := f26
    try dsimp only at f26
    replace f27 : xq 27 = _ := f27
    try dsimp only at f27
    replace f28 : xq 28 = _ := f28
    try dsimp only at f28
    replace f29 : xq 29 = _ := f29
    try dsimp only at f29
    replace f30 : xq 30 = _ := f30
    try dsimp only at f30
    replace f31 : xq 31 = _ := f31
    try dsimp only at f31
    replace f32 : xq 32 = _ := f32
    try dsimp only at f32
    replace f33 : xq 33 = _ := f33
    try dsimp only at f33
    replace f34 : xq 34 = _ := f34
    try dsimp only at f34
    replace f35 : xq 35 = _ := f35
    try dsimp only at f35
    replace f36 : xq 36 = _ := f36
    try dsimp only at f36
    replace f37 : xq 37 = _ := f37
    try dsimp only at f37
    change wpList _ _ _ _ (Act.put (Act.put (Act.put (Act.put (Act.put (Act.put (Act.put (Act.put (Act.put (Act.put (Act.put (Act.put (Act.put (Act.put (Act.put (Act.put (Act.put (Act.put (Act.put (Act.put (Act.put (Act.put (Act.put (Act.put (Act.put (Act.put (Act.put (Act.put (Act.put (Act.put (Act.put (Act.put (Act.put (Act.put (Act.put (Act.put (Act.put (Act.put _ (some 7) (xq 0)) (some 8) (xq 1)) (some 9) (xq 2)) (some 10) (xq 3)) (some 11) (xq 4)) (some 12) (xq 5)) (some 13) (xq 6)) (some 14) (xq 7)) (some 15) (xq 8)) (some 16) (xq 9)) (some 17) (xq 10)) (some 18) (xq 11)) (some 19) (xq 12)) (some 20) (xq 13)) (some 21) (xq 14)) (some 22) (xq 15)) (some 23) (xq 16)) (some 24) (xq 17)) (some 25) (xq 18)) (some 26) (xq 19)) (some 27) (xq 20)) (some 28) (xq 21)) (some 29) (xq 22)) (some 30) (xq 23)) (some 31) (xq 24)) (some 32) (xq 25)) (some 33) (xq 26)) (some 34) (xq 27)) (some 35) (xq 28)) (some 36) (xq 29)) (some 37) (xq 30)) (some 38) (xq 31)) (some 39) (xq 32)) (some 40) (xq 33)) (some 41) (xq 34)) (some 42) (xq 35)) (some 43) (xq 36)) (some 44) (xq 37)) _
    simp only [putsL, Nat.reduceAdd, List.drop_succ_cons, List.drop_zero, List.drop_nil, Act.put, List.setIfInBounds_toArray, List.set_cons_succ, List.set_cons_zero]
    try simp only [f0, f1, f2, f3, f4, f5, f6, f7, f8, f9, f10, f11, f12, f13, f14, f15, f16, f17, f18, f19, f20, f21, f22, f23, f24, f25, f26, f27, f28, f29, f30, f31, f32, f33, f34, f35, f36, f37]
    clear f0 f1 f2 f3 f4 f5 f6 f7 f8 f9 f10 f11 f12 f13 f14 f15 f16 f17 f18 f19 f20 f21 f22 f23 f24 f25 f26 f27 f28 f29 f30 f31 f32 f33 f34 f35 f36 f37
    clear holdq hapq
    go_wp2
    go_ret
    exact ⟨by simp [hlt], (Ext.refl _).drew.trans herq⟩
  · skip
    refine wp_region_facts [] [([], false, false), ([0], false, false), ([0, 1], false, false), ([0, 1, 2], false, false), ([], false, false), ([0, 1, 2, 3, 4], false, false), ([0, 1, 2, 3, 4, 5], false, false), ([0, 1, 2, 3, 4, 5, 6], false, false), ([], false, false), ([8], false, false), ([8, 9], false, false), ([8, 9, 10], false, false), ([], false, false), ([8, 9, 10, 11, 12], false, false), ([8, 9, 10, 11, 12, 13], false, false), ([8, 9, 10, 11, 12, 13, 14], false, false), ([0, 1, 2, 3, 4, 5, 6, 7, 8, 9, 10, 11, 12, 13, 14, 15], false, false), ([0, 1, 2, 3, 4, 5, 6, 7, 8, 9, 10, 11, 12, 13, 14, 15, 16], false, false), ([0, 1, 2, 3, 4, 5, 6, 7, 8, 9, 10, 11, 12, 13, 14, 15, 16, 17], false, false), ([0, 1, 2, 3, 4, 5, 6, 7, 8, 9, 10, 11, 12, 13, 14, 15, 16, 17, 18], false, false), ([0, 1, 2, 3, 4, 5, 6, 7, 8, 9, 10, 11, 12, 13, 14, 15, 16, 17, 18, 19], false, false), ([0, 1, 2, 3, 4, 5, 6, 7, 8, 9, 10, 11, 12, 13, 14, 15, 16, 17, 18, 19, 20], false, false), ([0, 1, 2, 3, 4, 5, 6, 7, 8, 9, 10, 11, 12, 13, 14, 15, 16, 17], false, false), ([0, 1, 2, 3, 4, 5, 6, 7, 8, 9, 10, 11, 12, 13, 14, 15, 16, 17, 22], false, false), ([0, 1, 2, 3, 4, 5, 6, 7, 8, 9, 10, 11, 12, 13, 14, 15, 16, 17, 22, 23], false, false), ([0, 1, 2, 3, 4, 5, 6, 7, 8, 9, 10, 11, 12, 13, 14, 15, 16, 17, 22, 23, 24], false, false), ([0, 1, 2, 3, 4, 5, 6, 7, 8, 9, 10, 11, 12, 13, 14, 15, 16, 17], false, false), ([0, 1, 2, 3, 4, 5, 6, 7, 8, 9, 10, 11, 12, 13, 14, 15, 16, 17, 22, 23, 24, 25, 26], false, false), ([0, 1, 2, 3, 4, 5, 6, 7, 8, 9, 10, 11, 12, 13, 14, 15, 16, 17, 22, 23, 24, 25, 26, 27], false, false), ([0, 1, 2, 3, 4, 5, 6, 7, 8, 9, 10, 11, 12, 13, 14, 15, 16, 17], false, false), ([0, 1, 2, 3, 4, 5, 6, 7, 8, 9, 10, 11, 12, 13, 14, 15, 16, 17, 29], false, false), ([0, 1, 2, 3, 4, 5, 6, 7, 8, 9, 10, 11, 12, 13, 14, 15, 16, 17, 29, 30], false, false), ([0, 1, 2, 3, 4, 5, 6, 7, 8, 9, 10, 11, 12, 13, 14, 15, 16, 17, 29, 30, 31], false, false), ([0, 1, 2, 3, 4, 5, 6, 7, 8, 9, 10, 11, 12, 13, 14, 15, 16, 17], false, false), ([0, 1, 2, 3, 4, 5, 6, 7, 8, 9, 10, 11, 12, 13, 14, 15, 16, 17, 29, 30, 31, 32, 33], false, false), ([0, 1, 2, 3, 4, 5, 6, 7, 8, 9, 10, 11, 12, 13, 14, 15, 16, 17, 29, 30, 31, 32, 33, 34], false, false), ([0, 1, 2, 3, 4, 5, 6, 7, 8, 9, 10, 11, 12, 13, 14, 15, 16, 17, 18, 19, 20, 21, 22, 23, 24, 25, 26, 27, 28, 29, 30, 31, 32, 33, 34, 35], false, false), ([0, 1, 2, 3, 4, 5, 6, 7, 8, 9, 10, 11, 12, 13, 14, 15, 16, 17, 18, 19, 20, 21, 22, 23, 24, 25, 26, 27, 28, 29, 30, 31, 32, 33, 34, 35, 36], false, false)] (Ext) Ext (fun _ => True) (by kernel_rfl) (by kernel_rfl) Ext.refl (fun _ _ _ => Ext.trans) (fun _ _ h => h) (fun _ _ h => h.size) (fun _ _ h _ => h) trivial ?_
    dsimp only [List.length_cons, List.length_nil, List.drop_succ_cons, List.drop_zero, List.drop_nil]
    refine fac_quiet 0 rfl rfl rfl (fun _ _ h _ => h) rfl rfl ?_
    apply Exists.intro
    refine ⟨fun sv w' hw' hfa => ?_, ?_⟩
    · refine ⟨rfl, ?_⟩
      simp only [putsL]
      change quietTo _ _ _ _ (Sem.run _ (execOp (Act.eval _) _) _)
      try simp only [Act.put, List.setIfInBounds_toArray, List.set_cons_succ, List.set_cons_zero]
      simp [go_sem, quietTo, Ext.refl]
      all_goals first
        | rfl
    refine fac_quiet 1 rfl rfl rfl (fun _ _ h _ => h) rfl rfl ?_
    apply Exists.intro
    refine ⟨fun sv w' hw' hfa => ?_, ?_⟩
    · obtain ⟨f0, -⟩ := hfa
      replace f0 : sv 0 = _ := f0
      try dsimp only at f0
      refine ⟨rfl, ?_⟩
      simp only [putsL]
      change quietTo _ _ _ _ (Sem.run _ (execOp (Act.eval (Act.put _ (some 7) (sv 0))) _) _)
      try simp only [Act.put, List.setIfInBounds_toArray, List.set_cons_succ, List.set_cons_zero]
      simp [go_sem, quietTo, Ext.refl, f0]
      all_goals first
        | rfl
    refine fac_quiet 2 rfl rfl rfl (fun _ _ h _ => h) rfl rfl ?_
    apply Exists.intro
    refine ⟨fun sv w' hw' hfa => ?_, ?_⟩
    · obtain ⟨_, f1, -⟩ := hfa
      replace f1 : sv 1 = _ := f1
      try dsimp only at f1
      refine ⟨rfl, ?_⟩
      simp only [putsL]
      change quietTo _ _ _ _ (Sem.run _ (execOp (Act.eval (Act.put (Act.put _ (some 8) (sv 1)) (some 7) (sv 0))) _) _)
      try simp only [Act.put, List.setIfInBounds_toArray, List.set_cons_succ, List.set_cons_zero]
      simp [go_sem, quietTo, Ext.refl, f1]
      all_goals first
        | rfl
    refine fac_quiet 3 rfl rfl rfl (fun _ _ h _ => h) rfl rfl ?_
    apply Exists.intro
    refine ⟨fun sv w' hw' hfa => ?_, ?_⟩
    · obtain ⟨_, _, f2, -⟩ := hfa
      replace f2 : sv 2 = _ := f2
      try dsimp only at f2
      have hk9 := (Ext.refl w).drew.trans hw'; obtain ⟨y1, -⟩ := (hB.ext hk9).walk; obtain ⟨hc9, hff, hz9⟩ := hk9.walk; have v1 := (hc9 _ _ hb).trans c1; have u1 := (hc9 _ _ hb).trans d1
      refine ⟨rfl, ?_⟩
      simp only [putsL]
      change quietTo _ _ _ _ (Sem.run _ (execOp (Act.eval (Act.put (Act.put (Act.put _ (some 9) (sv 2)) (some 8) (sv 1)) (some 7) (sv 0))) _) _)
      try simp only [Act.put, List.setIfInBounds_toArray, List.set_cons_succ, List.set_cons_zero]
      simp [go_sem, quietTo, Ext.refl, ↓IntWalk.iteOmega, f2, y1]
      all_goals try simp (disch := omega) only [IntWalk.i64_in]
      all_goals first
        | rfl
    refine fac_quiet 4 rfl rfl rfl (fun _ _ h _ => h) rfl rfl ?_
    apply Exists.intro
    refine ⟨fun sv w' hw' hfa => ?_, ?_⟩
    · refine ⟨rfl, ?_⟩
      simp only [putsL]
      change quietTo _ _ _ _ (Sem.run _ (execOp (Act.eval _) _) _)
      try simp only [Act.put, List.setIfInBounds_toArray, List.set_cons_succ, List.set_cons_zero]
      simp [go_sem, quietTo, Ext.refl]
      all_goals first
        | rfl
    refine fac_quiet 5 rfl rfl rfl (fun _ _ h _ => h) rfl rfl ?_
    apply Exists.intro
    refine ⟨fun sv w' hw' hfa => ?_, ?_⟩
    · obtain ⟨_, _, _, f3, f4, -⟩ := hfa
      replace f3 : sv 3 = _ := f3
      try dsimp only at f3
      replace f4 : sv 4 = _ := f4
      try dsimp only at f4
      have hk9 := (Ext.refl w).drew.trans hw'; obtain ⟨y1, -⟩ := (hB.ext hk9).walk; obtain ⟨hc9, hff, hz9⟩ := hk9.walk; have v1 := (hc9 _ _ hb).trans c1; have u1 := (hc9 _ _ hb).trans d1
      refine ⟨rfl, ?_⟩
      simp only [putsL]
      change quietTo _ _ _ _ (Sem.run _ (execOp (Act.eval (Act.put (Act.put (Act.put (Act.put (Act.put _ (some 11) (sv 4)) (some 10) (sv 3)) (some 9) (sv 2)) (some 8) (sv 1)) (some 7) (sv 0))) _) _)
      try simp only [Act.put, List.setIfInBounds_toArray, List.set_cons_succ, List.set_cons_zero]
      simp [go_sem, quietTo, Ext.refl, ↓IntWalk.iteOmega, f3, f4, hiI]
      all_goals try simp (disch := omega) only [IntWalk.i64_in]
      all_goals first
        | rfl
    refine fac_quiet 6 rfl rfl rfl (fun _ _ h _ => h) rfl rfl ?_
    apply Exists.intro
    refine ⟨fun sv w' hw' hfa => ?_, ?_⟩
    · obtain ⟨_, _, _, _, _, f5, -⟩ := hfa
      replace f5 : sv 5 = _ := f5
      try dsimp only at f5
      refine ⟨rfl, ?_⟩
      simp only [putsL]
      change quietTo _ _ _ _ (Sem.run _ (execOp (Act.eval (Act.put (Act.put (Act.put (Act.put (Act.put (Act.put _ (some 12) (sv 5)) (some 11) (sv 4)) (some 10) (sv 3)) (some 9) (sv 2)) (some 8) (sv 1)) (some 7) (sv 0))) _) _)
      try simp only [Act.put, List.setIfInBounds_toArray, List.set_cons_succ, List.set_cons_zero]
      simp [go_sem, quietTo, Ext.refl, f5]
      all_goals first
        | rfl
    refine fac_quiet 7 rfl rfl rfl (fun _ _ h _ => h) rfl rfl ?_
    apply Exists.intro
    refine ⟨fun sv w' hw' hfa => ?_, ?_⟩
    · obtain ⟨_, _, _, _, _, _, f6, -⟩ := hfa
      replace f6 : sv 6 = _ := f6
      try dsimp only at f6
      have hk9 := (Ext.refl w).drew.trans hw'; obtain ⟨y1, -⟩ := (hB.ext hk9).walk; obtain ⟨hc9, hff, hz9⟩ := hk9.walk; have v1 := (hc9 _ _ hb).trans c1; have u1 := (hc9 _ _ hb).trans d1
      refine ⟨rfl, ?_⟩
      simp only [putsL]
      change quietTo _ _ _ _ (Sem.run _ (execOp (Act.eval (Act.put (Act.put (Act.put (Act.put (Act.put (Act.put (Act.put _ (some 13) (sv 6)) (some 12) (sv 5)) (some 11) (sv 4)) (some 10) (sv 3)) (some 9) (sv 2)) (some 8) (sv 1)) (some 7) (sv 0))) _) _)
      try simp only [Act.put, List.setIfInBounds_toArray, List.set_cons_succ, List.set_cons_zero]
      simp [go_sem, quietTo, Ext.refl, ↓IntWalk.iteOmega, f6, v1]
      all_goals try simp (disch := omega) only [IntWalk.i64_in]
      all_goals first
        | rfl
    refine fac_quiet 8 rfl rfl rfl (fun _ _ h _ => h) rfl rfl ?_
    apply Exists.intro
    refine ⟨fun sv w' hw' hfa => ?_, ?_⟩
    · refine ⟨rfl, ?_⟩
      simp only [putsL]
      change quietTo _ _ _ _ (Sem.run _ (execOp (Act.eval _) _) _)
      try simp only [Act.put, List.setIfInBounds_toArray, List.set_cons_succ, List.set_cons_zero]
      simp [go_sem, quietTo, Ext.refl]
      all_goals first
        | rfl
    refine fac_quiet 9 rfl rfl rfl (fun _ _ h _ => h) rfl rfl ?_
    apply Exists.intro
    refine ⟨fun sv w' hw' hfa => ?_, ?_⟩
    · obtain ⟨f8, -⟩ := hfa
      replace f8 : sv 8 = _ := f8
      try dsimp only at f8
      refine ⟨rfl, ?_⟩
      simp only [putsL]
      change quietTo _ _ _ _ (Sem.run _ (execOp (Act.eval (Act.put _ (some 15) (sv 8))) _) _)
      try simp only [Act.put, List.setIfInBounds_toArray, List.set_cons_succ, List.set_cons_zero]
      simp [go_sem, quietTo, Ext.refl, f8]
      all_goals first
        | rfl
    refine fac_quiet 10 rfl rfl rfl (fun _ _ h _ => h) rfl rfl ?_
    apply Exists.intro
    refine ⟨fun sv w' hw' hfa => ?_, ?_⟩
    · obtain ⟨_, f9, -⟩ := hfa
      replace f9 : sv 9 = _ := f9
      try dsimp only at f9
      refine ⟨rfl, ?_⟩
      simp only [putsL]
      change quietTo _ _ _ _ (Sem.run _ (execOp (Act.eval (Act.put (Act.put _ (some 16) (sv 9)) (some 15) (sv 8))) _) _)
      try simp only [Act.put, List.setIfInBounds_toArray, List.set_cons_succ, List.set_cons_zero]
      simp [go_sem, quietTo, Ext.refl, f9]
      all_goals first
        | rfl
    refine fac_quiet 11 rfl rfl rfl (fun _ _ h _ => h) rfl rfl ?_
    apply Exists.intro
    refine ⟨fun sv w' hw' hfa => ?_, ?_⟩
    · obtain ⟨_, _, f10, -⟩ := hfa
      replace f10 : sv 10 = _ := f10
      try dsimp only at f10
      have hk9 := (Ext.refl w).drew.trans hw'; obtain ⟨y1, -⟩ := (hB.ext hk9).walk; obtain ⟨hc9, hff, hz9⟩ := hk9.walk; have v1 := (hc9 _ _ hb).trans c1; have u1 := (hc9 _ _ hb).trans d1
      refine ⟨rfl, ?_⟩
      simp only [putsL]
      change quietTo _ _ _ _ (Sem.run _ (execOp (Act.eval (Act.put (Act.put (Act.put _ (some 17) (sv 10)) (some 16) (sv 9)) (some 15) (sv 8))) _) _)
      try simp only [Act.put, List.setIfInBounds_toArray, List.set_cons_succ, List.set_cons_zero]
      simp [go_sem, quietTo, Ext.refl, ↓IntWalk.iteOmega, f10, y1]
      all_goals try simp (disch := omega) only [IntWalk.i64_in]
      all_goals first
        | rfl
    refine fac_quiet 12 rfl rfl rfl (fun _ _ h _ => h) rfl rfl ?_
    apply Exists.intro
    refine ⟨fun sv w' hw' hfa => ?_, ?_⟩
    · refine ⟨rfl, ?_⟩
      simp only [putsL]
      change quietTo _ _ _ _ (Sem.run _ (execOp (Act.eval _) _) _)
      try simp only [Act.put, List.setIfInBounds_toArray, List.set_cons_succ, List.set_cons_zero]
      simp [go_sem, quietTo, Ext.refl]
      all_goals first
        | rfl
    refine fac_quiet 13 rfl rfl rfl (fun _ _ h _ => h) rfl rfl ?_
    apply Exists.intro
    refine ⟨fun sv w' hw' hfa => ?_, ?_⟩
    · obtain ⟨_, _, _, f11, f12, -⟩ := hfa
      replace f11 : sv 11 = _ := f11
      try dsimp only at f11
      replace f12 : sv 12 = _ := f12
      try dsimp only at f12
      have hk9 := (Ext.refl w).drew.trans hw'; obtain ⟨y1, -⟩ := (hB.ext hk9).walk; obtain ⟨hc9, hff, hz9⟩ := hk9.walk; have v1 := (hc9 _ _ hb).trans c1; have u1 := (hc9 _ _ hb).trans d1
      refine ⟨rfl, ?_⟩
      simp only [putsL]
      change quietTo _ _ _ _ (Sem.run _ (execOp (Act.eval (Act.put (Act.put (Act.put (Act.put (Act.put _ (some 19) (sv 12)) (some 18) (sv 11)) (some 17) (sv 10)) (some 16) (sv 9)) (some 15) (sv 8))) _) _)
      try simp only [Act.put, List.setIfInBounds_toArray, List.set_cons_succ, List.set_cons_zero]
      simp [go_sem, quietTo, Ext.refl, ↓IntWalk.iteOmega, f11, f12, hkI]
      all_goals try simp (disch := omega) only [IntWalk.i64_in]
      all_goals first
        | rfl
    refine fac_quiet 14 rfl rfl rfl (fun _ _ h _ => h) rfl rfl ?_
    apply Exists.intro
    refine ⟨fun sv w' hw' hfa => ?_, ?_⟩
    · obtain ⟨_, _, _, _, _, f13, -⟩ := hfa
      replace f13 : sv 13 = _ := f13
      try dsimp only at f13
      refine ⟨rfl, ?_⟩
      simp only [putsL]
      change quietTo _ _ _ _ (Sem.run _ (execOp (Act.eval (Act.put (Act.put (Act.put (Act.put (Act.put (Act.put _ (some 20) (sv 13)) (some 19) (sv 12)) (some 18) (sv 11)) (some 17) (sv 10)) (some 16) (sv 9)) (some 15) (sv 8))) _) _)
      try simp only [Act.put, List.setIfInBounds_toArray, List.set_cons_succ, List.set_cons_zero]
      simp [go_sem, quietTo, Ext.refl, f13]
      all_goals first
        | rfl
    refine fac_quiet 15 rfl rfl rfl (fun _ _ h _ => h) rfl rfl ?_
    apply Exists.intro
    refine ⟨fun sv w' hw' hfa => ?_, ?_⟩
    · obtain ⟨_, _, _, _, _, _, f14, -⟩ := hfa
      replace f14 : sv 14 = _ := f14
      try dsimp only at f14
      have hk9 := (Ext.refl w).drew.trans hw'; obtain ⟨y1, -⟩ := (hB.ext hk9).walk; obtain ⟨hc9, hff, hz9⟩ := hk9.walk; have v1 := (hc9 _ _ hb).trans c1; have u1 := (hc9 _ _ hb).trans d1
      refine ⟨rfl, ?_⟩
      simp only [putsL]
      change quietTo _ _ _ _ (Sem.run _ (execOp (Act.eval (Act.put (Act.put (Act.put (Act.put (Act.put (Act.put (Act.put _ (some 21) (sv 14)) (some 20) (sv 13)) (some 19) (sv 12)) (some 18) (sv 11)) (some 17) (sv 10)) (some 16) (sv 9)) (some 15) (sv 8))) _) _)
      try simp only [Act.put, List.setIfInBounds_toArray, List.set_cons_succ, List.set_cons_zero]
      simp [go_sem, quietTo, Ext.refl, ↓IntWalk.iteOmega, f14, u1]
      all_goals try simp (disch := omega) only [IntWalk.i64_in]
      all_goals first
        | rfl
    refine fac_quiet 16 rfl rfl rfl (fun _ _ h _ => h) rfl rfl ?_
    apply Exists.intro
    refine ⟨fun sv w' hw' hfa => ?_, ?_⟩
    · obtain ⟨_, _, _, _, _, _, _, f7, _, _, _, _, _, _, _, f15, -⟩ := hfa
      replace f7 : sv 7 = _ := f7
      try dsimp only at f7
      replace f15 : sv 15 = _ := f15
      try dsimp only at f15
      have hk9 := (Ext.refl w).drew.trans hw'; obtain ⟨y1, -⟩ := (hB.ext hk9).walk; obtain ⟨hc9, hff, hz9⟩ := hk9.walk; have v1 := (hc9 _ _ hb).trans c1; have u1 := (hc9 _ _ hb).trans d1
      refine ⟨rfl, ?_⟩
      simp only [putsL]
      change quietTo _ _ _ _ (Sem.run _ (execOp (Act.eval (Act.put (Act.put (Act.put (Act.put (Act.put (Act.put (Act.put (Act.put (Act.put (Act.put (Act.put (Act.put (Act.put (Act.put (Act.put (Act.put _ (some 22) (sv 15)) (some 21) (sv 14)) (some 20) (sv 13)) (some 19) (sv 12)) (some 18) (sv 11)) (some 17) (sv 10)) (some 16) (sv 9)) (some 15) (sv 8)) (some 14) (sv 7)) (some 13) (sv 6)) (some 12) (sv 5)) (some 11) (sv 4)) (some 10) (sv 3)) (some 9) (sv 2)) (some 8) (sv 1)) (some 7) (sv 0))) _) _)
      try simp only [Act.put, List.setIfInBounds_toArray, List.set_cons_succ, List.set_cons_zero]
      simp [go_sem, quietTo, Ext.refl, ↓IntWalk.iteOmega, f7, f15, hlt]
      all_goals try simp (disch := omega) only [IntWalk.i64_in]
      all_goals first
        | rfl
    refine fac_quiet 17 rfl rfl rfl (fun _ _ h _ => h) rfl rfl ?_
    apply Exists.intro
    refine ⟨fun sv w' hw' hfa => ?_, ?_⟩
    · obtain ⟨_, _, _, _, _, _, _, _, _, _, _, _, _, _, _, _, f16, -⟩ := hfa
      replace f16 : sv 16 = _ := f16
      try dsimp only at f16
      refine ⟨rfl, ?_⟩
      simp only [putsL]
      change quietTo _ _ _ _ (Sem.run _ (execOp (Act.eval (Act.put (Act.put (Act.put (Act.put (Act.put (Act.put (Act.put (Act.put (Act.put (Act.put (Act.put (Act.put (Act.put (Act.put (Act.put (Act.put (Act.put _ (some 23) (sv 16)) (some 22) (sv 15)) (some 21) (sv 14)) (some 20) (sv 13)) (some 19) (sv 12)) (some 18) (sv 11)) (some 17) (sv 10)) (some 16) (sv 9)) (some 15) (sv 8)) (some 14) (sv 7)) (some 13) (sv 6)) (some 12) (sv 5)) (some 11) (sv 4)) (some 10) (sv 3)) (some 9) (sv 2)) (some 8) (sv 1)) (some 7) (sv 0))) _) _)
      try simp only [Act.put, List.setIfInBounds_toArray, List.set_cons_succ, List.set_cons_zero]
      simp [go_sem, quietTo, Ext.refl, f16]
      all_goals first
        | rfl
    refine fac_skip 18 rfl rfl rfl (fun _ _ h _ => h) Ext.refl ?_ ?_
    · intro sv w' hw' hfa
      obtain ⟨f0, f1, f2, f3, f4, f5, f6, f7, f8, f9, f10, f11, f12, f13, f14, f15, f16, f17, -⟩ := hfa
      replace f0 : sv 0 = _ := f0
      try dsimp only at f0
      replace f1 : sv 1 = _ := f1
      try dsimp only at f1
      replace f2 : sv 2 = _ := f2
      try dsimp only at f2
      replace f3 : sv 3 = _ := f3
      try dsimp only at f3
      replace f4 : sv 4 = _ := f4
      try dsimp only at f4
      replace f5 : sv 5 = _ := f5
      try dsimp only at f5
      replace f6 : sv 6 = _ := f6
      try dsimp only at f6
      replace f7 : sv 7 = _ := f7
      try dsimp only at f7
      replace f8 : sv 8 = _ := f8
      try dsimp only at f8
      replace f9 : sv 9 = _ := f9
      try dsimp only at f9
      replace f10 : sv 10 = _ := f10
      try dsimp only at f10
      replace f11 : sv 11 = _ := f11
      try dsimp only at f11
      replace f12 : sv 12 = _ := f12
      try dsimp only at f12
      replace f13 : sv 13 = _ := f13
      try dsimp only at f13
      replace f14 : sv 14 = _ := f14
      try dsimp only at f14
      replace f15 : sv 15 = _ := f15
      try dsimp only at f15
      replace f16 : sv 16 = _ := f16
      try dsimp only at f16
      replace f17 : sv 17 = _ := f17
      try dsimp only at f17
      simp [Region.wanted, yielded, putsL, Act.put, f17]
    refine fac_skip 19 rfl rfl rfl (fun _ _ h _ => h) Ext.refl ?_ ?_
    · intro sv w' hw' hfa
      obtain ⟨f0, f1, f2, f3, f4, f5, f6, f7, f8, f9, f10, f11, f12, f13, f14, f15, f16, f17, f18, -⟩ := hfa
      replace f0 : sv 0 = _ := f0
      try dsimp only at f0
      replace f1 : sv 1 = _ := f1
      try dsimp only at f1
      replace f2 : sv 2 = _ := f2
      try dsimp only at f2
      replace f3 : sv 3 = _ := f3
      try dsimp only at f3
      replace f4 : sv 4 = _ := f4
      try dsimp only at f4
      replace f5 : sv 5 = _ := f5
      try dsimp only at f5
      replace f6 : sv 6 = _ := f6
      try dsimp only at f6
      replace f7 : sv 7 = _ := f7
      try dsimp only at f7
      replace f8 : sv 8 = _ := f8
      try dsimp only at f8
      replace f9 : sv 9 = _ := f9
      try dsimp only at f9
      replace f10 : sv 10 = _ := f10
      try dsimp only at f10
      replace f11 : sv 11 = _ := f11
      try dsimp only at f11
      replace f12 : sv 12 = _ := f12
      try dsimp only at f12
      replace f13 : sv 13 = _ := f13
      try dsimp only at f13
      replace f14 : sv 14 = _ := f14
      try dsimp only at f14
      replace f15 : sv 15 = _ := f15
      try dsimp only at f15
      replace f16 : sv 16 = _ := f16
      try dsimp only at f16
      replace f17 : sv 17 = _ := f17
      try dsimp only at f17
      replace f18 : sv 18 = _ := f18
      try dsimp only at f18
      simp [Region.wanted, yielded, putsL, Act.put, f17, f18]
    refine fac_skip 20 rfl rfl rfl (fun _ _ h _ => h) Ext.refl ?_ ?_
    · intro sv w' hw' hfa
      obtain ⟨f0, f1, f2, f3, f4, f5, f6, f7, f8, f9, f10, f11, f12, f13, f14, f15, f16, f17, f18, f19, -⟩ := hfa
      replace f0 : sv 0 = _ := f0
      try dsimp only at f0
      replace f1 : sv 1 = _ := f1
      try dsimp only at f1
      replace f2 : sv 2 = _ := f2
      try dsimp only at f2
      replace f3 : sv 3 = _ := f3
      try dsimp only at f3
      replace f4 : sv 4 = _ := f4
      try dsimp only at f4
      replace f5 : sv 5 = _ := f5
      try dsimp only at f5
      replace f6 : sv 6 = _ := f6
      try dsimp only at f6
      replace f7 : sv 7 = _ := f7
      try dsimp only at f7
      replace f8 : sv 8 = _ := f8
      try dsimp only at f8
      replace f9 : sv 9 = _ := f9
      try dsimp only at f9
      replace f10 : sv 10 = _ := f10
      try dsimp only at f10
      replace f11 : sv 11 = _ := f11
      try dsimp only at f11
      replace f12 : sv 12 = _ := f12
      try dsimp only at f12
      replace f13 : sv 13 = _ := f13
      try dsimp only at f13
      replace f14 : sv 14 = _ := f14
      try dsimp only at f14
      replace f15 : sv 15 = _ := f15
      try dsimp only at f15
      replace f16 : sv 16 = _ := f16
      try dsimp only at f16
      replace f17 : sv 17 = _ := f17
      try dsimp only at f17
      replace f18 : sv 18 = _ := f18
      try dsimp only at f18
      replace f19 : sv 19 = _ := f19
      try dsimp only at f19
      simp [Region.wanted, yielded, putsL, Act.put, f17, f19]
    refine fac_skip 21 rfl rfl rfl (fun _ _ h _ => h) Ext.refl ?_ ?_
    · intro sv w' hw' hfa
      obtain ⟨f0, f1, f2, f3, f4, f5, f6, f7, f8, f9, f10, f11, f12, f13, f14, f15, f16, f17, f18, f19, f20, -⟩ := hfa
      replace f0 : sv 0 = _ := f0
      try dsimp only at f0
      replace f1 : sv 1 = _ := f1
      try dsimp only at f1
      replace f2 : sv 2 = _ := f2
      try dsimp only at f2
      replace f3 : sv 3 = _ := f3
      try dsimp only at f3
      replace f4 : sv 4 = _ := f4
      try dsimp only at f4
      replace f5 : sv 5 = _ := f5
      try dsimp only at f5
      replace f6 : sv 6 = _ := f6
      try dsimp only at f6
      replace f7 : sv 7 = _ := f7
      try dsimp only at f7
      replace f8 : sv 8 = _ := f8
      try dsimp only at f8
      replace f9 : sv 9 = _ := f9
      try dsimp only at f9
      replace f10 : sv 10 = _ := f10
      try dsimp only at f10
      replace f11 : sv 11 = _ := f11
      try dsimp only at f11
      replace f12 : sv 12 = _ := f12
      try dsimp only at f12
      replace f13 : sv 13 = _ := f13
      try dsimp only at f13
      replace f14 : sv 14 = _ := f14
      try dsimp only at f14
      replace f15 : sv 15 = _ := f15
      try dsimp only at f15
      replace f16 : sv 16 = _ := f16
      try dsimp only at f16
      replace f17 : sv 17 = _ := f17
      try dsimp only at f17
      replace f18 : sv 18 = _ := f18
      try dsimp only at f18
      replace f19 : sv 19 = _ := f19
      try dsimp only at f19
      replace f20 : sv 20 = _ := f20
      try dsimp only at f20
      simp [Region.wanted, yielded, putsL, Act.put, f17, f20]
    refine fac_skip 22 rfl rfl rfl (fun _ _ h _ => h) Ext.refl ?_ ?_
    · intro sv w' hw' hfa
      obtain ⟨f0, f1, f2, f3, f4, f5, f6, f7, f8, f9, f10, f11, f12, f13, f14, f15, f16, f17, -⟩ := hfa
      replace f0 : sv 0 = _ := f0
      try dsimp only at f0
      replace f1 : sv 1 = _ := f1
      try dsimp only at f1
      replace f2 : sv 2 = _ := f2
      try dsimp only at f2
      replace f3 : sv 3 = _ := f3
      try dsimp only at f3
      replace f4 : sv 4 = _ := f4
      try dsimp only at f4
      replace f5 : sv 5 = _ := f5
      try dsimp only at f5
      replace f6 : sv 6 = _ := f6
      try dsimp only at f6
      replace f7 : sv 7 = _ := f7
      try dsimp only at f7
      replace f8 : sv 8 = _ := f8
      try dsimp only at f8
      replace f9 : sv 9 = _ := f9
      try dsimp only at f9
      replace f10 : sv 10 = _ := f10
      try dsimp only at f10
      replace f11 : sv 11 = _ := f11
      try dsimp only at f11
      replace f12 : sv 12 = _ := f12
      try dsimp only at f12
      replace f13 : sv 13 = _ := f13
      try dsimp only at f13
      replace f14 : sv 14 = _ := f14
      try dsimp only at f14
      replace f15 : sv 15 = _ := f15
      try dsimp only at f15
      replace f16 : sv 16 = _ := f16
      try dsimp only at f16
      replace f17 : sv 17 = _ := f17
      try dsimp only at f17
      simp [Region.wanted, yielded, putsL, Act.put, f17]
    refine fac_skip 23 rfl rfl rfl (fun _ _ h _ => h) Ext.refl ?_ ?_
    · intro sv w' hw' hfa
      obtain ⟨f0, f1, f2, f3, f4, f5, f6, f7, f8, f9, f10, f11, f12, f13, f14, f15, f16, f17, f22, -⟩ := hfa
      replace f0 : sv 0 = _ := f0
      try dsimp only at f0
      replace f1 : sv 1 = _ := f1
      try dsimp only at f1
      replace f2 : sv 2 = _ := f2
      try dsimp only at f2
      replace f3 : sv 3 = _ := f3
      try dsimp only at f3
      replace f4 : sv 4 = _ := f4
      try dsimp only at f4
      replace f5 : sv 5 = _ := f5
      try dsimp only at f5
      replace f6 : sv 6 = _ := f6
      try dsimp only at f6
      replace f7 : sv 7 = _ := f7
      try dsimp only at f7
      replace f8 : sv 8 = _ := f8
      try dsimp only at f8
      replace f9 : sv 9 = _ := f9
      try dsimp only at f9
      replace f10 : sv 10 = _ := f10
      try dsimp only at f10
      replace f11 : sv 11 = _ := f11
      try dsimp only at f11
      replace f12 : sv 12 = _ := f12
      try dsimp only at f12
      replace f13 : sv 13 = _ := f13
      try dsimp only at f13
      replace f14 : sv 14 = _ := f14
      try dsimp only at f14
      replace f15 : sv 15 = _ := f15
      try dsimp only at f15
      replace f16 : sv 16 = _ := f16
      try dsimp only at f16
      replace f17 : sv 17 = _ := f17
      try dsimp only at f17
      replace f22 : sv 22 = _ := f22
      try dsimp only at f22
      simp [Region.wanted, yielded, putsL, Act.put, f17, f22]
    refine fac_skip 24 rfl rfl rfl (fun _ _ h _ => h) Ext.refl ?_ ?_
    · intro sv w' hw' hfa
      obtain ⟨f0, f1, f2, f3, f4, f5, f6, f7, f8, f9, f10, f11, f12, f13, f14, f15, f16, f17, f22, f23, -⟩ := hfa
      replace f0 : sv 0 = _ := f0
      try dsimp only at f0
      replace f1 : sv 1 = _ := f1
      try dsimp only at f1
      replace f2 : sv 2 = _ := f2
      try dsimp only at f2
      replace f3 : sv 3 = _ := f3
      try dsimp only at f3
      replace f4 : sv 4 = _ := f4
      try dsimp only at f4
      replace f5 : sv 5 = _ := f5
      try dsimp only at f5
      replace f6 : sv 6 = _ := f6
      try dsimp only at f6
      replace f7 : sv 7 = _ := f7
      try dsimp only at f7
      replace f8 : sv 8 = _ := f8
      try dsimp only at f8
      replace f9 : sv 9 = _ := f9
      try dsimp only at f9
      replace f10 : sv 10 = _ := f10
      try dsimp only at f10
      replace f11 : sv 11 = _ := f11
      try dsimp only at f11
      replace f12 : sv 12 = _ := f12
      try dsimp only at f12
      replace f13 : sv 13 = _ := f13
      try dsimp only at f13
      replace f14 : sv 14 = _ := f14
      try dsimp only at f14
      replace f15 : sv 15 = _ := f15
      try dsimp only at f15
      replace f16 : sv 16 = _ := f16
      try dsimp only at f16
      replace f17 : sv 17 = _ := f17
      try dsimp only at f17
      replace f22 : sv 22 = _ := f22
      try dsimp only at f22
      replace f23 : sv 23 = _ := f23
      try dsimp only at f23
      simp [Region.wanted, yielded, putsL, Act.put, f17, f23]
    refine fac_skip 25 rfl rfl rfl (fun _ _ h _ => h) Ext.refl ?_ ?_
    · intro sv w' hw' hfa
      obtain ⟨f0, f1, f2, f3, f4, f5, f6, f7, f8, f9, f10, f11, f12, f13, f14, f15, f16, f17, f22, f23, f24, -⟩ := hfa
      replace f0 : sv 0 = _ := f0
      try dsimp only at f0
      replace f1 : sv 1 = _ := f1
      try dsimp only at f1
      replace f2 : sv 2 = _ := f2
      try dsimp only at f2
      replace f3 : sv 3 = _ := f3
      try dsimp only at f3
      replace f4 : sv 4 = _ := f4
      try dsimp only at f4
      replace f5 : sv 5 = _ := f5
      try dsimp only at f5
      replace f6 : sv 6 = _ := f6
      try dsimp only at f6
      replace f7 : sv 7 = _ := f7
      try dsimp only at f7
      replace f8 : sv 8 = _ := f8
      try dsimp only at f8
      replace f9 : sv 9 = _ := f9
      try dsimp only at f9
      replace f10 : sv 10 = _ := f10
      try dsimp only at f10
      replace f11 : sv 11 = _ := f11
      try dsimp only at f11
      replace f12 : sv 12 = _ := f12
      try dsimp only at f12
      replace f13 : sv 13 = _ := f13
      try dsimp only at f13
      replace f14 : sv 14 = _ := f14
      try dsimp only at f14
      replace f15 : sv 15 = _ := f15
      try dsimp only at f15
      replace f16 : sv 16 = _ := f16
      try dsimp only at f16
      replace f17 : sv 17 = _ := f17
      try dsimp only at f17
      replace f22 : sv 22 = _ := f22
      try dsimp only at f22
      replace f23 : sv 23 = _ := f23
      try dsimp only at f23
      replace f24 : sv 24 = _ := f24
      try dsimp only at f24
      simp [Region.wanted, yielded, putsL, Act.put, f17, f24]
    refine fac_skip 26 rfl rfl rfl (fun _ _ h _ => h) Ext.refl ?_ ?_
    · intro sv w' hw' hfa
      obtain ⟨f0, f1, f2, f3, f4, f5, f6, f7, f8, f9, f10, f11, f12, f13, f14, f15, f16, f17, -⟩ := hfa
      replace f0 : sv 0 = _ := f0
      try dsimp only at f0
      replace f1 : sv 1 = _ := f1
      try dsimp only at f1
      replace f2 : sv 2 = _ := f2
      try dsimp only at f2
      replace f3 : sv 3 = _ := f3
      try dsimp only at f3
      replace f4 : sv 4 = _ := f4
      try dsimp only at f4
      replace f5 : sv 5 = _ := f5
      try dsimp only at f5
      replace f6 : sv 6 = _ := f6
      try dsimp only at f6
      replace f7 : sv 7 = _ := f7
      try dsimp only at f7
      replace f8 : sv 8 = _ := f8
      try dsimp only at f8
      replace f9 : sv 9 = _ := f9
      try dsimp only at f9
      replace f10 : sv 10 = _ := f10
      try dsimp only at f10
      replace f11 : sv 11 = _ := f11
      try dsimp only at f11
      replace f12 : sv 12 = _ := f12
      try dsimp only at f12
      replace f13 : sv 13 = _ := f13
      try dsimp only at f13
      replace f14 : sv 14 = _ := f14
      try dsimp only at f14
      replace f15 : sv 15 = _ := f15
      try dsimp only at f15
      replace f16 : sv 16 = _ := f16
      try dsimp only at f16
      replace f17 : sv 17 = _ := f17
      try dsimp only at f17
      simp [Region.wanted, yielded, putsL, Act.put, f17]
    refine fac_skip 27 rfl rfl rfl (fun _ _ h _ => h) Ext.refl ?_ ?_
    · intro sv w' hw' hfa
      obtain ⟨f0, f1, f2, f3, f4, f5, f6, f7, f8, f9, f10, f11, f12, f13, f14, f15, f16, f17, f22, f23, f24, f25, f26, -⟩ := hfa
      replace f0 : sv 0 = _ := f0
      try dsimp only at f0
      replace f1 : sv 1 = _ := f1
      try dsimp only at f1
      replace f2 : sv 2 = _ := f2
      try dsimp only at f2
      replace f3 : sv 3 = _ := f3
      try dsimp only at f3
      replace f4 : sv 4 = _ := f4
      try dsimp only at f4
      replace f5 : sv 5 = _ := f5
      try dsimp only at f5
      replace f6 : sv 6 = _ := f6
      try dsimp only at f6
      replace f7 : sv 7 = _ := f7
      try dsimp only at f7
      replace f8 : sv 8 = _ := f8
      try dsimp only at f8
      replace f9 : sv 9 = _ := f9
      try dsimp only at f9
      replace f10 : sv 10 = _ := f10
      try dsimp only at f10
      replace f11 : sv 11 = _ := f11
      try dsimp only at f11
      replace f12 : sv 12 = _ := f12
      try dsimp only at f12
      replace f13 : sv 13 = _ := f13
      try dsimp only at f13
      replace f14 : sv 14 = _ := f14
      try dsimp only at f14
      replace f15 : sv 15 = _ := f15
      try dsimp only at f15
      replace f16 : sv 16 = _ := f16
      try dsimp only at f16
      replace f17 : sv 17 = _ := f17
      try dsimp only at f17
      replace f22 : sv 22 = _ := f22
      try dsimp only at f22
      replace f23 : sv 23 = _ := f23
      try dsimp only at f23
      replace f24 : sv 24 = _ := f24
      try dsimp only at f24
      replace f25 : sv 25 = _ := f25
      try dsimp only at f25
      replace f26 : sv 26 = _ := f26
      try dsimp only at f26
      simp [Region.wanted, yielded, putsL, Act.put, f17, f25, f26]
    refine fac_skip 28 rfl rfl rfl (fun _ _ h _ => h) Ext.refl ?_ ?_
    · intro sv w' hw' hfa
      obtain ⟨f0, f1, f2, f3, f4, f5, f6, f7, f8, f9, f10, f11, f12, f13, f14, f15, f16, f17, f22, f23, f24, f25, f26, f27, -⟩ := hfa
      replace f0 : sv 0 = _ := f0
      try dsimp only at f0
      replace f1 : sv 1 = _ := f1
      try dsimp only at f1
      replace f2 : sv 2 = _ := f2
      try dsimp only at f2
      replace f3 : sv 3 = _ := f3
      try dsimp only at f3
      replace f4 : sv 4 = _ := f4
      try dsimp only at f4
      replace f5 : sv 5 = _ := f5
      try dsimp only at f5
      replace f6 : sv 6 = _ := f6
      try dsimp only at f6
      replace f7 : sv 7 = _ := f7
      try dsimp only at f7
      replace f8 : sv 8 = _ := f8
      try dsimp only at f8
      replace f9 : sv 9 = _ := f9
      try dsimp only at f9
      replace f10 : sv 10 = _ := f10
      try dsimp only at f10
      replace f11 : sv 11 = _ := f11
      try dsimp only at f11
      replace f12 : sv 12 = _ := f12
      try dsimp only at f12
      replace f13 : sv 13 = _ := f13
      try dsimp only at f13
      replace f14 : sv 14 = _ := f14
      try dsimp only at f14
      replace f15 : sv 15 = _ := f15
      try dsimp only at f15
      replace f16 : sv 16 = _ := f16
      try dsimp only at f16
      replace f17 : sv 17 = _ := f17
      try dsimp only at f17
      replace f22 : sv 22 = _ := f22
      try dsimp only at f22
      replace f23 : sv 23 = _ := f23
      try dsimp only at f23
      replace f24 : sv 24 = _ := f24
      try dsimp only at f24
      replace f25 : sv 25 = _ := f25
      try dsimp only at f25
      replace f26 : sv 26 = _ := f26
      try dsimp only at f26
      replace f27 : sv 27 = _ := f27
      try dsimp only at f27
      simp [Region.wanted, yielded, putsL, Act.put, f17, f27]
    refine fac_skip 29 rfl rfl rfl (fun _ _ h _ => h) Ext.refl ?_ ?_
    · intro sv w' hw' hfa
      obtain ⟨f0, f1, f2, f3, f4, f5, f6, f7, f8, f9, f10, f11, f12, f13, f14, f15, f16, f17, -⟩ := hfa
      replace f0 : sv 0 = _ := f0
      try dsimp only at f0
      replace f1 : sv 1 = _ := f1
      try dsimp only at f1
      replace f2 : sv 2 = _ := f2
      try dsimp only at f2
      replace f3 : sv 3 = _ := f3
      try dsimp only at f3
      replace f4 : sv 4 = _ := f4
      try dsimp only at f4
      replace f5 : sv 5 = _ := f5
      try dsimp only at f5
      replace f6 : sv 6 = _ := f6
      try dsimp only at f6
      replace f7 : sv 7 = _ := f7
      try dsimp only at f7
      replace f8 : sv 8 = _ := f8
      try dsimp only at f8
      replace f9 : sv 9 = _ := f9
      try dsimp only at f9
      replace f10 : sv 10 = _ := f10
      try dsimp only at f10
      replace f11 : sv 11 = _ := f11
      try dsimp only at f11
      replace f12 : sv 12 = _ := f12
      try dsimp only at f12
      replace f13 : sv 13 = _ := f13
      try dsimp only at f13
      replace f14 : sv 14 = _ := f14
      try dsimp only at f14
      replace f15 : sv 15 = _ := f15
      try dsimp only at f15
      replace f16 : sv 16 = _ := f16
      try dsimp only at f16
      replace f17 : sv 17 = _ := f17
      try dsimp only at f17
      simp [Region.wanted, yielded, putsL, Act.put, f17]
    refine fac_skip 30 rfl rfl rfl (fun _ _ h _ => h) Ext.refl ?_ ?_
    · intro sv w' hw' hfa
      obtain ⟨f0, f1, f2, f3, f4, f5, f6, f7, f8, f9, f10, f11, f12, f13, f14, f15, f16, f17, f29, -⟩ := hfa
      replace f0 : sv 0 = _ := f0
      try dsimp only at f0
      replace f1 : sv 1 = _ := f1
      try dsimp only at f1
      replace f2 : sv 2 = _ := f2
      try dsimp only at f2
      replace f3 : sv 3 = _ := f3
      try dsimp only at f3
      replace f4 : sv 4 = _ := f4
      try dsimp only at f4
      replace f5 : sv 5 = _ := f5
      try dsimp only at f5
      replace f6 : sv 6 = _ := f6
      try dsimp only at f6
      replace f7 : sv 7 = _ := f7
      try dsimp only at f7
      replace f8 : sv 8 = _ := f8
      try dsimp only at f8
      replace f9 : sv 9 = _ := f9
      try dsimp only at f9
      replace f10 : sv 10 = _ := f10
      try dsimp only at f10
      replace f11 : sv 11 = _ := f11
      try dsimp only at f11
      replace f12 : sv 12 = _ := f12
      try dsimp only at f12
      replace f13 : sv 13 = _ := f13
      try dsimp only at f13
      replace f14 : sv 14 = _ := f14
      try dsimp only at f14
      replace f15 : sv 15 = _ := f15
      try dsimp only at f15
      replace f16 : sv 16 = _ := f16
      try dsimp only at f16
      replace f17 : sv 17 = _ := f17
      try dsimp only at f17
      replace f29 : sv 29 = _ := f29
      try dsimp only at f29
      simp [Region.wanted, yielded, putsL, Act.put, f17, f29]
    refine fac_skip 31 rfl rfl rfl (fun _ _ h _ => h) Ext.refl ?_ ?_
    · intro sv w' hw' hfa
      obtain ⟨f0, f1, f2, f3, f4, f5, f6, f7, f8, f9, f10, f11, f12, f13, f14, f15, f16, f17, f29, f30, -⟩ := hfa
      replace f0 : sv 0 = _ := f0
      try dsimp only at f0
      replace f1 : sv 1 = _ := f1
      try dsimp only at f1
      replace f2 : sv 2 = _ := f2
      try dsimp only at f2
      replace f3 : sv 3 = _ := f3
      try dsimp only at f3
      replace f4 : sv 4 = _ := f4
      try dsimp only at f4
      replace f5 : sv 5 = _ := f5
      try dsimp only at f5
      replace f6 : sv 6 = _ := f6
      try dsimp only at f6
      replace f7 : sv 7 = _ := f7
      try dsimp only at f7
      replace f8 : sv 8 = _ := f8
      try dsimp only at f8
      replace f9 : sv 9 = _ := f9
      try dsimp only at f9
      replace f10 : sv 10 = _ := f10
      try dsimp only at f10
      replace f11 : sv 11 = _ := f11
      try dsimp only at f11
      replace f12 : sv 12 = _ := f12
      try dsimp only at f12
      replace f13 : sv 13 = _ := f13
      try dsimp only at f13
      replace f14 : sv 14 = _ := f14
      try dsimp only at f14
      replace f15 : sv 15 = _ := f15
      try dsimp only at f15
      replace f16 : sv 16 = _ := f16
      try dsimp only at f16
      replace f17 : sv 17 = _ := f17
      try dsimp only at f17
      replace f29 : sv 29 = _ := f29
      try dsimp only at f29
      replace f30 : sv 30 = _ := f30
      try dsimp only at f30
      simp [Region.wanted, yielded, putsL, Act.put, f17, f30]
    refine fac_skip 32 rfl rfl rfl (fun _ _ h _ => h) Ext.refl ?_ ?_
    · intro sv w' hw' hfa
      obtain ⟨f0, f1, f2, f3, f4, f5, f6, f7, f8, f9, f10, f11, f12, f13, f14, f15, f16, f17, f29, f30, f31, -⟩ := hfa
      replace f0 : sv 0 = _ := f0
      try dsimp only at f0
      replace f1 : sv 1 = _ := f1
      try dsimp only at f1
      replace f2 : sv 2 = _ := f2
      try dsimp only at f2
      replace f3 : sv 3 = _ := f3
      try dsimp only at f3
      replace f4 : sv 4 = _ := f4
      try dsimp only at f4
      replace f5 : sv 5 = _ := f5
      try dsimp only at f5
      replace f6 : sv 6 = _ := f6
      try dsimp only at f6
      replace f7 : sv 7 = _ := f7
      try dsimp only at f7
      replace f8 : sv 8 = _ := f8
      try dsimp only at f8
      replace f9 : sv 9 = _ := f9
      try dsimp only at f9
      replace f10 : sv 10 = _ := f10
      try dsimp only at f10
      replace f11 : sv 11 = _ := f11
      try dsimp only at f11
      replace f12 : sv 12 = _ := f12
      try dsimp only at f12
      replace f13 : sv 13 = _ := f13
      try dsimp only at f13
      replace f14 : sv 14 = _ := f14
      try dsimp only at f14
      replace f15 : sv 15 = _ := f15
      try dsimp only at f15
      replace f16 : sv 16 = _ := f16
      try dsimp only at f16
      replace f17 : sv 17 = _ := f17
      try dsimp only at f17
      replace f29 : sv 29 = _ := f29
      try dsimp only at f29
      replace f30 : sv 30 = _ := f30
      try dsimp only at f30
      replace f31 : sv 31 = _ := f31
      try dsimp only at f31
      simp [Region.wanted, yielded, putsL, Act.put, f17, f31]
    refine fac_skip 33 rfl rfl rfl (fun _ _ h _ => h) Ext.refl ?_ ?_
    · intro sv w' hw' hfa
      obtain ⟨f0, f1, f2, f3, f4, f5, f6, f7, f8, f9, f10, f11, f12, f13, f14, f15, f16, f17, -⟩ := hfa
      replace f0 : sv 0 = _ := f0
      try dsimp only at f0
      replace f1 : sv 1 = _ := f1
      try dsimp only at f1
      replace f2 : sv 2 = _ := f2
      try dsimp only at f2
      replace f3 : sv 3 = _ := f3
      try dsimp only at f3
      replace f4 : sv 4 = _ := f4
      try dsimp only at f4
      replace f5 : sv 5 = _ := f5
      try dsimp only at f5
      replace f6 : sv 6 = _ := f6
      try dsimp only at f6
      replace f7 : sv 7 = _ := f7
      try dsimp only at f7
      replace f8 : sv 8 = _ := f8
      try dsimp only at f8
      replace f9 : sv 9 = _ := f9
      try dsimp only at f9
      replace f10 : sv 10 = _ := f10
      try dsimp only at f10
      replace f11 : sv 11 = _ := f11
      try dsimp only at f11
      replace f12 : sv 12 = _ := f12
      try dsimp only at f12
      replace f13 : sv 13 = _ := f13
      try dsimp only at f13
      replace f14 : sv 14 = _ := f14
      try dsimp only at f14
      replace f15 : sv 15 = _ := f15
      try dsimp only at f15
      replace f16 : sv 16 = _ := f16
      try dsimp only at f16
      replace f17 : sv 17 = _ := f17
      try dsimp only at f17
      simp [Region.wanted, yielded, putsL, Act.put, f17]
    refine fac_skip 34 rfl rfl rfl (fun _ _ h _ => h) Ext.refl ?_ ?_
    · intro sv w' hw' hfa
      obtain ⟨f0, f1, f2, f3, f4, f5, f6, f7, f8, f9, f10, f11, f12, f13, f14, f15, f16, f17, f29, f30, f31, f32, f33, -⟩ := hfa
      replace f0 : sv 0 = _ := f0
      try dsimp only at f0
      replace f1 : sv 1 = _ := f1
      try dsimp only at f1
      replace f2 : sv 2 = _ := f2
      try dsimp only at f2
      replace f3 : sv 3 = _ := f3
      try dsimp only at f3
      replace f4 : sv 4 = _ := f4
      try dsimp only at f4
      replace f5 : sv 5 = _ := f5
      try dsimp only at f5
      replace f6 : sv 6 = _ := f6
      try dsimp only at f6
      replace f7 : sv 7 = _ := f7
      try dsimp only at f7
      replace f8 : sv 8 = _ := f8
      try dsimp only at f8
      replace f9 : sv 9 = _ := f9
      try dsimp only at f9
      replace f10 : sv 10 = _ := f10
      try dsimp only at f10
      replace f11 : sv 11 = _ := f11
      try dsimp only at f11
      replace f12 : sv 12 = _ := f12
      try dsimp only at f12
      replace f13 : sv 13 = _ := f13
      try dsimp only at f13
      replace f14 : sv 14 = _ := f14
      try dsimp only at f14
      replace f15 : sv 15 = _ := f15
      try dsimp only at f15
      replace f16 : sv 16 = _ := f16
      try dsimp only at f16
      replace f17 : sv 17 = _ := f17
      try dsimp only at f17
      replace f29 : sv 29 = _ := f29
      try dsimp only at f29
      replace f30 : sv 30 = _ := f30
      try dsimp only at f30
      replace f31 : sv 31 = _ := f31
      try dsimp only at f31
      replace f32 : sv 32 = _ := f32
      try dsimp only at f32
      replace f33 : sv 33 = _ := f33
      try dsimp only at f33
      simp [Region.wanted, yielded, putsL, Act.put, f17, f32, f33]
    refine fac_skip 35 rfl rfl rfl (fun _ _ h _ => h) Ext.refl ?_ ?_
    · intro sv w' hw' hfa
      obtain ⟨f0, f1, f2, f3, f4, f5, f6, f7, f8, f9, f10, f11, f12, f13, f14, f15, f16, f17, f29, f30, f31, f32, f33, f34, -⟩ := hfa
      replace f0 : sv 0 = _ := f0
      try dsimp only at f0
      replace f1 : sv 1 = _ := f1
      try dsimp only at f1
      replace f2 : sv 2 = _ := f2
      try dsimp only at f2
      replace f3 : sv 3 = _ := f3
      try dsimp only at f3
      replace f4 : sv 4 = _ := f4
      try dsimp only at f4
      replace f5 : sv 5 = _ := f5
      try dsimp only at f5
      replace f6 : sv 6 = _ := f6
      try dsimp only at f6
      replace f7 : sv 7 = _ := f7
      try dsimp only at f7
      replace f8 : sv 8 = _ := f8
      try dsimp only at f8
      replace f9 : sv 9 = _ := f9
      try dsimp only at f9
      replace f10 : sv 10 = _ := f10
      try dsimp only at f10
      replace f11 : sv 11 = _ := f11
      try dsimp only at f11
      replace f12 : sv 12 = _ := f12
      try dsimp only at f12
      replace f13 : sv 13 = _ := f13
      try dsimp only at f13
      replace f14 : sv 14 = _ := f14
      try dsimp only at f14
      replace f15 : sv 15 = _ := f15
      try dsimp only at f15
      replace f16 : sv 16 = _ := f16
      try dsimp only at f16
      replace f17 : sv 17 = _ := f17
      try dsimp only at f17
      replace f29 : sv 29 = _ := f29
      try dsimp only at f29
      replace f30 : sv 30 = _ := f30
      try dsimp only at f30
      replace f31 : sv 31 = _ := f31
      try dsimp only at f31
      replace f32 : sv 32 = _ := f32
      try dsimp only at f32
      replace f33 : sv 33 = _ := f33
      try dsimp only at f33
      replace f34 : sv 34 = _ := f34
      try dsimp only at f34
      simp [Region.wanted, yielded, putsL, Act.put, f17, f34]
    refine fac_skip 36 rfl rfl rfl (fun _ _ h _ => h) Ext.refl ?_ ?_
    · intro sv w' hw' hfa
      obtain ⟨f0, f1, f2, f3, f4, f5, f6, f7, f8, f9, f10, f11, f12, f13, f14, f15, f16, f17, f18, f19, f20, f21, f22, f23, f24, f25, f26, f27, f28, f29, f30, f31, f32, f33, f34, f35, -⟩ := hfa
      replace f0 : sv 0 = _ := f0
      try dsimp only at f0
      replace f1 : sv 1 = _ := f1
      try dsimp only at f1
      replace f2 : sv 2 = _ := f2
      try dsimp only at f2
      replace f3 : sv 3 = _ := f3
      try dsimp only at f3
      replace f4 : sv 4 = _ := f4
      try dsimp only at f4
      replace f5 : sv 5 = _ := f5
      try dsimp only at f5
      replace f6 : sv 6 = _ := f6
      try dsimp only at f6
      replace f7 : sv 7 = _ := f7
      try dsimp only at f7
      replace f8 : sv 8 = _ := f8
      try dsimp only at f8
      replace f9 : sv 9 = _ := f9
      try dsimp only at f9
      replace f10 : sv 10 = _ := f10
      try dsimp only at f10
      replace f11 : sv 11 = _ := f11
      try dsimp only at f11
      replace f12 : sv 12 = _ := f12
      try dsimp only at f12
      replace f13 : sv 13 = _ := f13
      try dsimp only at f13
      replace f14 : sv 14 = _ := f14
      try dsimp only at f14
      replace f15 : sv 15 = _ := f15
      try dsimp only at f15
      replace f16 : sv 16 = _ := f16
      try dsimp only at f16
      replace f17 : sv 17 = _ := f17
      try dsimp only at f17
      replace f18 : sv 18 = _ := f18
      try dsimp only at f18
      replace f19 : sv 19 = _ := f19
      try dsimp only at f19
      replace f20 : sv 20 = _ := f20
      try dsimp only at f20
      replace f21 : sv 21 = _ := f21
      try dsimp only at f21
      replace f22 : sv 22 = _ := f22
      try dsimp only at f22
      replace f23 : sv 23 = _ := f23
      try dsimp only at f23
      replace f24 : sv 24 = _ := f24
      try dsimp only at f24
      replace f25 : sv 25 = _ := f25
      try dsimp only at f25
      replace f26 : sv 26 = _ := f26
      try dsimp only at f26
      replace f27 : sv 27 = _ := f27
      try dsimp only at f27
      replace f28 : sv 28 = _ := f28
      try dsimp only at f28
      replace f29 : sv 29 = _ := f29
      try dsimp only at f29
      replace f30 : sv 30 = _ := f30
      try dsimp only at f30
      replace f31 : sv 31 = _ := f31
      try dsimp only at f31
      replace f32 : sv 32 = _ := f32
      try dsimp only at f32
      replace f33 : sv 33 = _ := f33
      try dsimp only at f33
      replace f34 : sv 34 = _ := f34
      try dsimp only at f34
      replace f35 : sv 35 = _ := f35
      try dsimp only at f35
      simp [Region.wanted, yielded, putsL, Act.put, f17, f21, f28, f35]
    refine fac_quiet 37 rfl rfl rfl (fun _ _ h _ => h) rfl rfl ?_
    apply Exists.intro
    refine ⟨fun sv w' hw' hfa => ?_, ?_⟩
    · obtain ⟨_, _, _, _, _, _, _, _, _, _, _, _, _, _, _, _, _, f17, _, _, _, _, _, _, _, _, _, _, _, _, _, _, _, _, _, _, f36, -⟩ := hfa
      replace f17 : sv 17 = _ := f17
      try dsimp only at f17
      replace f36 : sv 36 = _ := f36
      try dsimp only at f36
      refine ⟨rfl, ?_⟩
      simp only [putsL]
      change quietTo _ _ _ _ (Sem.run _ (execOp (Act.eval (Act.put (Act.put (Act.put (Act.put (Act.put (Act.put (Act.put (Act.put (Act.put (Act.put (Act.put (Act.put (Act.put (Act.put (Act.put (Act.put (Act.put (Act.put (Act.put (Act.put (Act.put (Act.put (Act.put (Act.put (Act.put (Act.put (Act.put (Act.put (Act.put (Act.put (Act.put (Act.put (Act.put (Act.put (Act.put (Act.put (Act.put _ (some 43) (sv 36)) (some 42) (sv 35)) (some 41) (sv 34)) (some 40) (sv 33)) (some 39) (sv 32)) (some 38) (sv 31)) (some 37) (sv 30)) (some 36) (sv 29)) (some 35) (sv 28)) (some 34) (sv 27)) (some 33) (sv 26)) (some 32) (sv 25)) (some 31) (sv 24)) (some 30) (sv 23)) (some 29) (sv 22)) (some 28) (sv 21)) (some 27) (sv 20)) (some 26) (sv 19)) (some 25) (sv 18)) (some 24) (sv 17)) (some 23) (sv 16)) (some 22) (sv 15)) (some 21) (sv 14)) (some 20) (sv 13)) (some 19) (sv 12)) (some 18) (sv 11)) (some 17) (sv 10)) (some 16) (sv 9)) (some 15) (sv 8)) (some 14) (sv 7)) (some 13) (sv 6)) (some 12) (sv 5)) (some 11) (sv 4)) (some 10) (sv 3)) (some 9) (sv 2)) (some 8) (sv 1)) (some 7) (sv 0))) _) _)
      try simp only [Act.put, List.setIfInBounds_toArray, List.set_cons_succ, List.set_cons_zero]
      simp [go_sem, quietTo, Ext.refl, ↓IntWalk.iteOmega, f17, f36]
      all_goals try simp (disch := omega) only [IntWalk.i64_in]
      all_goals first
        | rfl
    refine fac_nil fun xq wrq herq hfrq hcrq holdq hapq => ?_
    obtain ⟨f0, f1, f2, f3, f4, f5, f6, f7, f8, f9, f10, f11, f12, f13, f14, f15, f16, f17, f18, f19, f20, f21, f22, f23, f24, f25, f26, f27, f28, f29, f30, f31, f32, f33, f34, f35, f36, f37, -⟩ := hfrq
    replace f0 : xq 0 = _ := f0
    try dsimp only at f0
    replace f1 : xq 1 = _ := f1
    try dsimp only at f1
    replace f2 : xq 2 = _ := f2
    try dsimp only at f2
    replace f3 : xq 3 = _ := f3
    try dsimp only at f3
    replace f4 : xq 4 = _ := f4
    try dsimp only at f4
    replace f5 : xq 5 = _ := f5
    try dsimp only at f5
    replace f6 : xq 6 = _ := f6
    try dsimp only at f6
    replace f7 : xq 7 = _ := f7
    try dsimp only at f7
    replace f8 : xq 8 = _ := f8
    try dsimp only at f8
    replace f9 : xq 9 = _ := f9
    try dsimp only at f9
    replace f10 : xq 10 = _ := f10
    try dsimp only at f10
    replace f11 : xq 11 = _ := f11
    try dsimp only at f11
    replace f12 : xq 12 = _ := f12
    try dsimp only at f12
    replace f13 : xq 13 = _ := f13
    try dsimp only at f13
    replace f14 : xq 14 = _ := f14
    try dsimp only at f14
    replace f15 : xq 15 = _ := f15
    try dsimp only at f15
    replace f16 : xq 16 = _ := f16
    try dsimp only at f16
    replace f17 : xq 17 = _ := f17
    try dsimp only at f17
    replace f18 : xq 18 = _ := f18
    try dsimp only at f18
    replace f19 : xq 19 = _ := f19
    try dsimp only at f19
    replace f20 : xq 20 = _ := f20
    try dsimp only at f20
    replace f21 : xq 21 = _ := f21
    try dsimp only at f21
    replace f22 : xq 22 = _ := f22
    try dsimp only at f22
    replace f23 : xq 23 = _ := f23
    try dsimp only at f23
    replace f24 : xq 24 = _ := f24
    try dsimp only at f24
    replace f25 : xq 25 = _ := f25
    try dsimp only at f25
    replace f26 : xq 26 = _ := f26
    try dsimp only at f26
    replace f27 : xq 27 = _ := f27
    try dsimp only at f27
    replace f28 : xq 28 = _ := f28
    try dsimp only at f28
    replace f29 : xq 29 = _ := f29
    try dsimp only at f29
    replace f30 : xq 30 = _ := f30
    try dsimp only at f30
    replace f31 : xq 31 = _ := f31
    try dsimp only at f31
    replace f32 : xq 32 = _ := f32
    try dsimp only at f32
    replace f33 : xq 33 = _ := f33
    try dsimp only at f33
    replace f34 : xq 34 = _ := f34
    try dsimp only at f34
    replace f35 : xq 35 = _ := f35
    try dsimp only at f35
    replace f36 : xq 36 = _ := f36
    try dsimp only at f36
    replace f37 : xq 37 = _ := f37
    try dsimp only at f37
    change wpList _ _ _ _ (Act.put (Act.put (Act.put (Act.put (Act.put (Act.put (Act.put (Act.put (Act.put (Act.put (Act.put (Act.put (Act.put (Act.put (Act.put (Act.put (Act.put (Act.put (Act.put (Act.put (Act.put (Act.put (Act.put (Act.put (Act.put (Act.put (Act.put (Act.put (Act.put (Act.put (Act.put (Act.put (Act.put (Act.put (Act.put (Act.put (Act.put (Act.put _ (some 7) (xq 0)) (some 8) (xq 1)) (some 9) (xq 2)) (some 10) (xq 3)) (some 11) (xq 4)) (some 12) (xq 5)) (some 13) (xq 6)) (some 14) (xq 7)) (some 15) (xq 8)) (some 16) (xq 9)) (some 17) (xq 10)) (some 18) (xq 11)) (some 19) (xq 12)) (some 20) (xq 13)) (some 21) (xq 14)) (some 22) (xq 15)) (some 23) (xq 16)) (some 24) (xq 17)) (some 25) (xq 18)) (some 26) (xq 19)) (some 27) (xq 20)) (some 28) (xq 21)) (some 29) (xq 22)) (some 30) (xq 23)) (some 31) (xq 24)) (some 32) (xq 25)) (some 33) (xq 26)) (some 34) (xq 27)) (some 35) (xq 28)) (some 36) (xq 29)) (some 37) (xq 30)) (some 38) (xq 31)) (some 39) (xq 32)) (some 40) (xq 33)) (some 41) (xq 34)) (some 42) (xq 35)) (some 43) (xq 36)) (some 44) (xq 37)) _
    simp only [putsL, Nat.reduceAdd, List.drop_succ_cons, List.drop_zero, List.drop_nil, Act.put, List.setIfInBounds_toArray, List.set_cons_succ, List.set_cons_zero]
    try simp only [f0, f1, f2, f3, f4, f5, f6, f7, f8, f9, f10, f11, f12, f13, f14, f15, f16, f17, f18, f19, f20, f21, f22, f23, f24, f25, f26, f27, f28, f29, f30, f31, f32, f33, f34, f35, f36, f37]
    clear f0 f1 f2 f3 f4 f5 f6 f7 f8 f9 f10 f11 f12 f13 f14 f15 f16 f17 f18 f19 f20 f21 f22 f23 f24 f25 f26 f27 f28 f29 f30 f31 f32 f33 f34 f35 f36 f37
    clear holdq hapq
    go_wp2
    go_ret
    exact ⟨ret_bool (by rw [show decide (x.row < y.row) = false from decide_eq_false (by omega)]; rfl), (Ext.refl _).drew.trans herq⟩
end Go.Proofs.YtfcoeikekbjgpaaGreatDoor
