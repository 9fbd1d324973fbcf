/- Where a stand is from the middle on; whether two stands are near. Conditions: the stands are on the stage. -/
import Derived.Test.YtflcbphlhoibiaaGreatDoorMtStF
import Derived.Test.YtflcbphlhoibiaaGreatDoorMtJ12
set_option linter.unusedSimpArgs false
set_option linter.unusedVariables false
namespace Go.Proofs.YtflcbphlhoibiaaGreatDoor
open Go Go.RowKit

def staC (x : StandV) : List Value := [.string x.name, .int .i64 x.row, .int .i64 x.place]
theorem staC_len (x : StandV) : (staC x).length = 3 := rfl
theorem Elems.sta {w : World} {b off : Nat} {xs : List StandV} (h : Elems 3 staC w b off xs) {i : Nat} {x : StandV} (hx : xs[i]? = some x) :
    w.cell? ⟨b, off + i * 3, none⟩ = some (.string x.name) ∧ w.cell? ⟨b, off + i * 3 + 1, none⟩ = some (.int .i64 x.row) ∧ w.cell? ⟨b, off + i * 3 + 2, none⟩ = some (.int .i64 x.place) :=
  ⟨h i x hx 0 _ rfl, h i x hx 1 _ rfl, h i x hx 2 _ rfl⟩
/-- A stand that is on the stage. -/
def OnStage (wide : List Int) (x : StandV) : Prop := 0 ≤ x.row ∧ x.row < wide.length ∧ 0 ≤ x.place ∧ x.place ≤ 1000
def WideOk (wide : List Int) : Prop := wide.length ≤ 10 ∧ ∀ v ∈ wide, 1 ≤ v ∧ v ≤ 30

theorem pos_bound {wide : List Int} {x : StandV} (hw : WideOk wide) (hx : OnStage wide x) : -1000 ≤ posS wide x ∧ posS wide x ≤ 3000 := by
  obtain ⟨h1, h2, h3, h4⟩ := hx
  have hg : wide[x.row.toNat]? = some wide[x.row.toNat] := List.getElem?_eq_getElem (by omega)
  have := hw.2 _ (List.mem_of_getElem? hg)
  unfold posS
  rw [List.getD_eq_getElem?_getD, hg]
  simp only [Option.getD_some]
  omega

set_option maxRecDepth 100000 in
set_option maxHeartbeats 1600000 in
theorem position_any (wp : Option Addr) (wc : Nat) (hp : Option Addr) (hn hc : Nat) (wide : List Int) (x : StandV) (w : World) (hw : Slc 1 intC w wp wide.length wc wide) (hok : WideOk wide) (hx : OnStage wide x) :
    Calls Tryz.prog 140 #[.agg #[.slice wp wide.length wc, .slice hp hn hc], .agg #[.string x.name, .int .i64 x.row, .int .i64 x.place]] w fun e w' => e = .returned (.int .i64 (posS wide x)) ∧ Ext w w' := by
  obtain ⟨x1, x2, x3, x4⟩ := hx
  obtain ⟨r, hr⟩ : ∃ r : Nat, x.row = r := ⟨x.row.toNat, by omega⟩
  obtain ⟨v, hv⟩ := getD_some (rfl : wide.length = wide.length) (show r < wide.length by omega)
  have hpos : posS wide x = 2 * x.place + 1 - v := by
    unfold posS
    rw [hr, Int.toNat_natCast, List.getD_eq_getElem?_getD, hv]
    rfl
  have hvb := hok.2 v (List.mem_of_getElem? hv)
  rcases (slcC hw).2 with ⟨-, e⟩ | ⟨wb, wo, rfl, hwb, hwE⟩
  · rw [e] at hv; cases hv
  have c1 := hwE.int hv
  rw [hpos, hr]
  have hrI : (r : Int) < wide.length := by omega
  have hX : Blk ((w.alloc (.cells #[.slice (some ⟨wb, wo, none⟩) wide.length wc, .slice hp hn hc] 28)).alloc (.cells #[.string x.name, .int .i64 r, .int .i64 x.place] 35)) w.heap.size 28 #[.slice (some ⟨wb, wo, none⟩) wide.length wc, .slice hp hn hc] := (Blk.new' rfl).alloc _
  have hY : Blk ((w.alloc (.cells #[.slice (some ⟨wb, wo, none⟩) wide.length wc, .slice hp hn hc] 28)).alloc (.cells #[.string x.name, .int .i64 r, .int .i64 x.place] 35)) (w.heap.size + 1) 35 #[.string x.name, .int .i64 r, .int .i64 x.place] := Blk.new' (by simp)
  have hE : Ext w ((w.alloc (.cells #[.slice (some ⟨wb, wo, none⟩) wide.length wc, .slice hp hn hc] 28)).alloc (.cells #[.string x.name, .int .i64 r, .int .i64 x.place] 35)) := ((Ext.refl _).alloc _).alloc _
  clear hw hok hwE hv hpos x1 x2 hr
  go_enter Tryz.func140, Tryz.ntmps140
  go_upto_region 1 with fail
  generalize (w.alloc (.cells #[.slice (some ⟨wb, wo, none⟩) wide.length wc, .slice hp hn hc] 28)).alloc (.cells #[.string x.name, .int .i64 r, .int .i64 x.place] 35) = W at *
  refine wp_region_facts [] [([], false, false), ([0], false, false), ([0, 1], false, false), ([0, 1, 2], false, false), ([], false, false), ([4], false, false), ([], false, false), ([6], false, false), ([4, 5, 6, 7], false, false), ([4, 5, 6, 7, 8], false, false), ([0, 1, 2, 3, 4, 5, 6, 7, 8, 9], false, false)] (Ext) Ext (fun _ => True) (by kernel_rfl) (by kernel_rfl) Ext.refl (fun _ _ _ => Ext.trans) (fun _ _ h => h) (fun _ _ h => h.size) (fun _ _ h _ => h) trivial ?_
  dsimp only [List.length_cons, List.length_nil, List.drop_succ_cons, List.drop_zero, List.drop_nil]
  refine fac_quiet 0 rfl rfl rfl (fun _ _ h _ => h) rfl rfl ?_
  apply Exists.intro
  refine ⟨fun sv w' hw' hfa => ?_, ?_⟩
  · refine ⟨rfl, ?_⟩
    simp only [putsL]
    change quietTo _ _ _ _ (Sem.run _ (execOp (Act.eval _) _) _)
    try simp only [Act.put, List.setIfInBounds_toArray, List.set_cons_succ, List.set_cons_zero]
    simp [go_sem, quietTo, Ext.refl]
    all_goals first
      | rfl
  refine fac_quiet 1 rfl rfl rfl (fun _ _ h _ => h) rfl rfl ?_
  apply Exists.intro
  refine ⟨fun sv w' hw' hfa => ?_, ?_⟩
  · obtain ⟨f0, -⟩ := hfa
    replace f0 : sv 0 = _ := f0
    try dsimp only at f0
    have hk9 := (Ext.refl W).drew.trans hw'; obtain ⟨y1, -⟩ := (hX.ext hk9).walk; obtain ⟨y2, -⟩ := (hY.ext hk9).walk; obtain ⟨hc9, hff, hz9⟩ := (hE.trans hk9).walk; have y3 := (hc9 _ _ hwb).trans c1
    refine ⟨rfl, ?_⟩
    simp only [putsL]
    change quietTo _ _ _ _ (Sem.run _ (execOp (Act.eval (Act.put _ (some 5) (sv 0))) _) _)
    try simp only [Act.put, List.setIfInBounds_toArray, List.set_cons_succ, List.set_cons_zero]
    simp [go_sem, quietTo, Ext.refl, ↓IntWalk.iteOmega, f0, y2]
    all_goals try simp (disch := omega) only [IntWalk.i64_in]
    all_goals first
      | rfl
  refine fac_quiet 2 rfl rfl rfl (fun _ _ h _ => h) rfl rfl ?_
  apply Exists.intro
  refine ⟨fun sv w' hw' hfa => ?_, ?_⟩
  · obtain ⟨_, f1, -⟩ := hfa
    replace f1 : sv 1 = _ := f1
    try dsimp only at f1
    refine ⟨rfl, ?_⟩
    simp only [putsL]
    change quietTo _ _ _ _ (Sem.run _ (execOp (Act.eval (Act.put (Act.put _ (some 6) (sv 1)) (some 5) (sv 0))) _) _)
    try simp only [Act.put, List.setIfInBounds_toArray, List.set_cons_succ, List.set_cons_zero]
    simp [go_sem, quietTo, Ext.refl, ↓IntWalk.iteOmega, f1]
    all_goals try simp (disch := omega) only [IntWalk.i64_in]
    all_goals first
      | rfl
  refine fac_quiet 3 rfl rfl rfl (fun _ _ h _ => h) rfl rfl ?_
  apply Exists.intro
  refine ⟨fun sv w' hw' hfa => ?_, ?_⟩
  · obtain ⟨_, _, f2, -⟩ := hfa
    replace f2 : sv 2 = _ := f2
    try dsimp only at f2
    refine ⟨rfl, ?_⟩
    simp only [putsL]
    change quietTo _ _ _ _ (Sem.run _ (execOp (Act.eval (Act.put (Act.put (Act.put _ (some 7) (sv 2)) (some 6) (sv 1)) (some 5) (sv 0))) _) _)
    try simp only [Act.put, List.setIfInBounds_toArray, List.set_cons_succ, List.set_cons_zero]
    simp [go_sem, quietTo, Ext.refl, ↓IntWalk.iteOmega, f2]
    all_goals try simp (disch := omega) only [IntWalk.i64_in]
    all_goals first
      | rfl
  refine fac_quiet 4 rfl rfl rfl (fun _ _ h _ => h) rfl rfl ?_
  apply Exists.intro
  refine ⟨fun sv w' hw' hfa => ?_, ?_⟩
  · refine ⟨rfl, ?_⟩
    simp only [putsL]
    change quietTo _ _ _ _ (Sem.run _ (execOp (Act.eval _) _) _)
    try simp only [Act.put, List.setIfInBounds_toArray, List.set_cons_succ, List.set_cons_zero]
    simp [go_sem, quietTo, Ext.refl]
    all_goals first
      | rfl
  refine fac_quiet 5 rfl rfl rfl (fun _ _ h _ => h) rfl rfl ?_
  apply Exists.intro
  refine ⟨fun sv w' hw' hfa => ?_, ?_⟩
  · obtain ⟨f4, -⟩ := hfa
    replace f4 : sv 4 = _ := f4
    try dsimp only at f4
    have hk9 := (Ext.refl W).drew.trans hw'; obtain ⟨y1, -⟩ := (hX.ext hk9).walk; obtain ⟨y2, -⟩ := (hY.ext hk9).walk; obtain ⟨hc9, hff, hz9⟩ := (hE.trans hk9).walk; have y3 := (hc9 _ _ hwb).trans c1
    refine ⟨rfl, ?_⟩
    simp only [putsL]
    change quietTo _ _ _ _ (Sem.run _ (execOp (Act.eval (Act.put _ (some 9) (sv 4))) _) _)
    try simp only [Act.put, List.setIfInBounds_toArray, List.set_cons_succ, List.set_cons_zero]
    simp [go_sem, quietTo, Ext.refl, ↓IntWalk.iteOmega, f4, y1]
    all_goals try simp (disch := omega) only [IntWalk.i64_in]
    all_goals first
      | rfl
  refine fac_quiet 6 rfl rfl rfl (fun _ _ h _ => h) rfl rfl ?_
  apply Exists.intro
  refine ⟨fun sv w' hw' hfa => ?_, ?_⟩
  · refine ⟨rfl, ?_⟩
    simp only [putsL]
    change quietTo _ _ _ _ (Sem.run _ (execOp (Act.eval _) _) _)
    try simp only [Act.put, List.setIfInBounds_toArray, List.set_cons_succ, List.set_cons_zero]
    simp [go_sem, quietTo, Ext.refl]
    all_goals first
      | rfl
  refine fac_quiet 7 rfl rfl rfl (fun _ _ h _ => h) rfl rfl ?_
  apply Exists.intro
  refine ⟨fun sv w' hw' hfa => ?_, ?_⟩
  · obtain ⟨f6, -⟩ := hfa
    replace f6 : sv 6 = _ := f6
    try dsimp only at f6
    have hk9 := (Ext.refl W).drew.trans hw'; obtain ⟨y1, -⟩ := (hX.ext hk9).walk; obtain ⟨y2, -⟩ := (hY.ext hk9).walk; obtain ⟨hc9, hff, hz9⟩ := (hE.trans hk9).walk; have y3 := (hc9 _ _ hwb).trans c1
    refine ⟨rfl, ?_⟩
    simp only [putsL]
    change quietTo _ _ _ _ (Sem.run _ (execOp (Act.eval (Act.put _ (some 11) (sv 6))) _) _)
    try simp only [Act.put, List.setIfInBounds_toArray, List.set_cons_succ, List.set_cons_zero]
    simp [go_sem, quietTo, Ext.refl, ↓IntWalk.iteOmega, f6, y2]
    all_goals try simp (disch := omega) only [IntWalk.i64_in]
    all_goals first
      | rfl
  refine fac_quiet 8 rfl rfl rfl (fun _ _ h _ => h) rfl rfl ?_
  apply Exists.intro
  refine ⟨fun sv w' hw' hfa => ?_, ?_⟩
  · obtain ⟨_, f5, _, f7, -⟩ := hfa
    replace f5 : sv 5 = _ := f5
    try dsimp only at f5
    replace f7 : sv 7 = _ := f7
    try dsimp only at f7
    have hk9 := (Ext.refl W).drew.trans hw'; obtain ⟨y1, -⟩ := (hX.ext hk9).walk; obtain ⟨y2, -⟩ := (hY.ext hk9).walk; obtain ⟨hc9, hff, hz9⟩ := (hE.trans hk9).walk; have y3 := (hc9 _ _ hwb).trans c1
    refine ⟨rfl, ?_⟩
    simp only [putsL]
    change quietTo _ _ _ _ (Sem.run _ (execOp (Act.eval (Act.put (Act.put (Act.put (Act.put _ (some 12) (sv 7)) (some 11) (sv 6)) (some 10) (sv 5)) (some 9) (sv 4))) _) _)
    try simp only [Act.put, List.setIfInBounds_toArray, List.set_cons_succ, List.set_cons_zero]
    simp [go_sem, quietTo, Ext.refl, ↓IntWalk.iteOmega, f5, f7, hrI]
    all_goals try simp (disch := omega) only [IntWalk.i64_in]
    all_goals first
      | rfl
  refine fac_quiet 9 rfl rfl rfl (fun _ _ h _ => h) rfl rfl ?_
  apply Exists.intro
  refine ⟨fun sv w' hw' hfa => ?_, ?_⟩
  · obtain ⟨_, _, _, _, f8, -⟩ := hfa
    replace f8 : sv 8 = _ := f8
    try dsimp only at f8
    have hk9 := (Ext.refl W).drew.trans hw'; obtain ⟨y1, -⟩ := (hX.ext hk9).walk; obtain ⟨y2, -⟩ := (hY.ext hk9).walk; obtain ⟨hc9, hff, hz9⟩ := (hE.trans hk9).walk; have y3 := (hc9 _ _ hwb).trans c1
    refine ⟨rfl, ?_⟩
    simp only [putsL]
    change quietTo _ _ _ _ (Sem.run _ (execOp (Act.eval (Act.put (Act.put (Act.put (Act.put (Act.put _ (some 13) (sv 8)) (some 12) (sv 7)) (some 11) (sv 6)) (some 10) (sv 5)) (some 9) (sv 4))) _) _)
    try simp only [Act.put, List.setIfInBounds_toArray, List.set_cons_succ, List.set_cons_zero]
    simp [go_sem, quietTo, Ext.refl, ↓IntWalk.iteOmega, f8, y3]
    all_goals try simp (disch := omega) only [IntWalk.i64_in]
    all_goals first
      | rfl
  refine fac_quiet 10 rfl rfl rfl (fun _ _ h _ => h) rfl rfl ?_
  apply Exists.intro
  refine ⟨fun sv w' hw' hfa => ?_, ?_⟩
  · obtain ⟨_, _, _, f3, _, _, _, _, _, f9, -⟩ := hfa
    replace f3 : sv 3 = _ := f3
    try dsimp only at f3
    replace f9 : sv 9 = _ := f9
    try dsimp only at f9
    refine ⟨rfl, ?_⟩
    simp only [putsL]
    change quietTo _ _ _ _ (Sem.run _ (execOp (Act.eval (Act.put (Act.put (Act.put (Act.put (Act.put (Act.put (Act.put (Act.put (Act.put (Act.put _ (some 14) (sv 9)) (some 13) (sv 8)) (some 12) (sv 7)) (some 11) (sv 6)) (some 10) (sv 5)) (some 9) (sv 4)) (some 8) (sv 3)) (some 7) (sv 2)) (some 6) (sv 1)) (some 5) (sv 0))) _) _)
    try simp only [Act.put, List.setIfInBounds_toArray, List.set_cons_succ, List.set_cons_zero]
    simp [go_sem, quietTo, Ext.refl, ↓IntWalk.iteOmega, f3, f9]
    all_goals try simp (disch := omega) only [IntWalk.i64_in]
    all_goals first
      | rfl
  refine fac_nil fun xq wrq herq hfrq hcrq holdq hapq => ?_
  obtain ⟨f0, f1, f2, f3, f4, f5, f6, f7, f8, f9, f10, -⟩ := hfrq
  replace f0 : xq 0 = _ := f0
  try dsimp only at f0
  replace f1 : xq 1 = _ := f1
  try dsimp only at f1
  replace f2 : xq 2 = _ := f2
  try dsimp only at f2
  replace f3 : xq 3 = _ := f3
  try dsimp only at f3
  replace f4 : xq 4 = _ := f4
  try dsimp only at f4
  replace f5 : xq 5 = _ := f5
  try dsimp only at f5
  replace f6 : xq 6 = _ := f6
  try dsimp only at f6
  replace f7 : xq 7 = _ := f7
  try dsimp only at f7
  replace f8 : xq 8 = _ := f8
  try dsimp only at f8
  replace f9 : xq 9 = _ := f9
  try dsimp only at f9
  replace f10 : xq 10 = _ := f10
  try dsimp only at f10
  change wpList _ _ _ _ (Act.put (Act.put (Act.put (Act.put (Act.put (Act.put (Act.put (Act.put (Act.put (Act.put (Act.put _ (some 5) (xq 0)) (some 6) (xq 1)) (some 7) (xq 2)) (some 8) (xq 3)) (some 9) (xq 4)) (some 10) (xq 5)) (some 11) (xq 6)) (some 12) (xq 7)) (some 13) (xq 8)) (some 14) (xq 9)) (some 15) (xq 10)) _
  simp only [putsL, Nat.reduceAdd, List.drop_succ_cons, List.drop_zero, List.drop_nil, Act.put, List.setIfInBounds_toArray, List.set_cons_succ, List.set_cons_zero]
  try simp only [f0, f1, f2, f3, f4, f5, f6, f7, f8, f9, f10]
  clear f0 f1 f2 f3 f4 f5 f6 f7 f8 f9 f10
  clear holdq hapq
  go_wp2
  go_ret
  exact ⟨rfl, hE.trans ((Ext.refl _).drew.trans herq)⟩
end Go.Proofs.YtflcbphlhoibiaaGreatDoor
