/- How high somebody stands; who hides whom. Conditions: the stands are on the stage, those who stand are people. -/
import Derived.Test.YtfcoeikekbjgpaaGreatDoorSxStI
set_option linter.unusedSimpArgs false
set_option linter.unusedVariables false
namespace Go.Proofs.YtfcoeikekbjgpaaGreatDoor
open Go Go.RowKit

def HighOk (high : List Int) : Prop := ∀ v ∈ high, 0 ≤ v ∧ v ≤ 1000000
/-- All who stand are people. -/
def AllPeople (P : List PersonV) (S : List StandV) : Prop := ∀ x ∈ S, ∃ (k : Nat) (q : PersonV), P[k]? = some q ∧ q.name = x.name
theorem top_bound {P : List PersonV} {high : List Int} {S : List StandV} {x : StandV} (hpo : PeopleOk P) (hho : HighOk high) (hall : AllPeople P S) (hx : x ∈ S) : 0 ≤ topS P high x ∧ topS P high x ≤ 2000000 := by
  obtain ⟨k, q, hq, hn⟩ := hall x hx
  have h1 := heightOf_is hpo hq
  have h2 := (hpo.one q (List.mem_of_getElem? hq)).2.2
  unfold topS
  rw [← hn, h1, List.getD_eq_getElem?_getD]
  cases hg : high[x.row.toNat]? with
  | none => simp only [Option.getD_none]; omega
  | some v =>
    have := hho v (List.mem_of_getElem? hg)
    simp only [Option.getD_some]
    omega

set_option maxRecDepth 100000 in
set_option maxHeartbeats 1600000 in
theorem top_any (g : Nat) (pp : Option Addr) (pc : Nat) (P : List PersonV) (wp : Option Addr) (wc : Nat) (wide : List Int) (hp : Option Addr) (hc : Nat) (high : List Int) (lp : Option Addr) (lc : Nat) (S : List StandV) (w : World) (h : ChM w g pp pc P wp wc wide hp hc high lp lc S) (hpo : PeopleOk P) (hho : HighOk high) (hwh : high.length = wide.length) (hl : S.length ≤ 1000) (hw10 : wide.length ≤ 10) (hon : ∀ x ∈ S, OnStage wide x) (hall : AllPeople P S) {i : Nat} {x : StandV} (hx : S[i]? = some x) :
    Calls Tryz.prog 67 #[.pointer (some ⟨g, 0, none⟩), .int .i64 i] w fun e w' => e = .returned (.int .i64 (topS P high x)) ∧ Ext w w' := by
  have hxm := List.mem_of_getElem? hx
  obtain ⟨k, q, hq, hqn⟩ := hall x hxm
  have hper := fun u (hu : Ext w u) => person_any g pp pc P wp wc wide hp hc high lp lc S u (h.more hu) hpo hl hx hq hqn
  obtain ⟨x1, x2, x3, x4⟩ := hon x hxm
  obtain ⟨r, hr⟩ : ∃ r : Nat, x.row = r := ⟨x.row.toNat, by omega⟩
  obtain ⟨v, hv⟩ := getD_some (rfl : high.length = high.length) (show r < high.length by omega)
  have htop : topS P high x = q.high + v := by
    unfold topS
    rw [← hqn, heightOf_is hpo hq, hr, Int.toNat_natCast, List.getD_eq_getElem?_getD, hv]
    rfl
  have hqb := (hpo.one q (List.mem_of_getElem? hq)).2.2
  have hvb := hho v (List.mem_of_getElem? hv)
  rcases (slcC h.sta).2 with ⟨-, e⟩ | ⟨b, off, rfl, hb, hEl⟩
  · rw [e] at hx; cases hx
  rcases (slcC h.hig).2 with ⟨-, e⟩ | ⟨hb9, ho, rfl, hhb, hEh⟩
  · rw [e] at hv; cases hv
  obtain ⟨c0, c1, c2⟩ := hEl.sta hx
  have d0 := hEh.int hv
  have hB := h.blk
  have hi := (List.getElem?_eq_some_iff.1 hx).1
  have hiI : (i : Int) < S.length := by omega
  have hrI : (r : Int) < high.length := by omega
  have hwr : IntKind.i64.wrap (q.high + v) = q.high + v := IntWalk.i64_in _ (by omega)
  rw [htop]
  rw [hr] at c1
  have hfd : ∀ u : World, (Instr.field 59 (.agg #[.string q.name, .int .i64 q.high, .string q.sect]) 1).run Tryz.prog u = .ok (.int .i64 q.high) u := fun _ => by kernel_rfl
  replace hper := Lib.hid hper
  clear h hpo hho hon hall hx hq hqn hEl hEh hv htop hr hxm x1 x2
  go_enter Tryz.func67, Tryz.ntmps67
  go_upto_region 1 with fail
  refine wp_region_facts [] [([], false, false), ([], false, false), ([0, 1], false, false), ([0, 1, 2], false, false), ([], false, false), ([4], false, false), ([4, 5], false, false), ([4, 5, 6], false, false), ([4, 5, 6, 7], false, false), ([], false, false), ([9], false, false), ([9, 10], false, false), ([9, 10, 11], false, false), ([], false, false), ([9, 10, 11, 12, 13], false, false), ([9, 10, 11, 12, 13, 14], false, false), ([9, 10, 11, 12, 13, 14, 15], false, false), ([4, 5, 6, 7, 8, 9, 10, 11, 12, 13, 14, 15, 16], false, false), ([4, 5, 6, 7, 8, 9, 10, 11, 12, 13, 14, 15, 16, 17], false, false), ([0, 1, 2, 3, 4, 5, 6, 7, 8, 9, 10, 11, 12, 13, 14, 15, 16, 17, 18], false, false)] (Ext) Ext (fun _ => True) (by kernel_rfl) (by kernel_rfl) Ext.refl (fun _ _ _ => Ext.trans) (fun _ _ h => h) (fun _ _ h => h.size) (fun _ _ h _ => h) trivial ?_
  dsimp only [List.length_cons, List.length_nil, List.drop_succ_cons, List.drop_zero, List.drop_nil]
  refine fac_quiet 0 rfl rfl rfl (fun _ _ h _ => h) rfl rfl ?_
  apply Exists.intro
  refine ⟨fun sv w' hw' hfa => ?_, ?_⟩
  · refine ⟨rfl, ?_⟩
    simp only [putsL]
    change quietTo _ _ _ _ (Sem.run _ (execOp (Act.eval _) _) _)
    try simp only [Act.put, List.setIfInBounds_toArray, List.set_cons_succ, List.set_cons_zero]
    simp [go_sem, quietTo, Ext.refl]
    all_goals first
      | rfl
  refine fac_quiet 1 rfl rfl rfl (fun _ _ h _ => h) rfl rfl ?_
  apply Exists.intro
  refine ⟨fun sv w' hw' hfa => ?_, ?_⟩
  · refine ⟨rfl, ?_⟩
    simp only [putsL]
    change quietTo _ _ _ _ (Sem.run _ (execOp (Act.eval _) _) _)
    try simp only [Act.put, List.setIfInBounds_toArray, List.set_cons_succ, List.set_cons_zero]
    simp [go_sem, quietTo, Ext.refl]
    all_goals first
      | rfl
  refine fac_quiet 2 rfl rfl rfl (fun _ _ h _ => h) rfl rfl ?_
  apply Exists.intro
  refine ⟨fun sv w' hw' hfa => ?_, ?_⟩
  · obtain ⟨f0, f1, -⟩ := hfa
    replace f0 : sv 0 = _ := f0
    try dsimp only at f0
    replace f1 : sv 1 = _ := f1
    try dsimp only at f1
    have hk9 := (Ext.refl w).drew.trans hw'; obtain ⟨y1, -⟩ := (hB.ext hk9).walk; obtain ⟨hc9, hff, hz9⟩ := hk9.walk; have v1 := (hc9 _ _ hb).trans c1; have v2 := (hc9 _ _ hhb).trans d0
    refine ⟨rfl, ?_⟩
    simp only [putsL]
    change quietTo _ _ _ _ (Sem.run _ (execOp (Act.eval (Act.put (Act.put _ (some 6) (sv 1)) (some 5) (sv 0))) _) _)
    try simp only [Act.put, List.setIfInBounds_toArray, List.set_cons_succ, List.set_cons_zero]
    simp [go_sem, quietTo, Ext.refl, ↓IntWalk.iteOmega, f0, f1]
    all_goals try simp (disch := omega) only [IntWalk.i64_in]
    all_goals first
      | rfl
      | (exact hper.out _ hk9)
  refine fac_quiet 3 rfl rfl rfl (fun _ _ h _ => h) rfl rfl ?_
  apply Exists.intro
  refine ⟨fun sv w' hw' hfa => ?_, ?_⟩
  · obtain ⟨_, _, f2, -⟩ := hfa
    replace f2 : sv 2 = _ := f2
    try dsimp only at f2
    have hk9 := (Ext.refl w).drew.trans hw'; obtain ⟨y1, -⟩ := (hB.ext hk9).walk; obtain ⟨hc9, hff, hz9⟩ := hk9.walk; have v1 := (hc9 _ _ hb).trans c1; have v2 := (hc9 _ _ hhb).trans d0
    refine ⟨rfl, ?_⟩
    simp only [putsL]
    change quietTo _ _ _ _ (Sem.run _ (execOp (Act.eval (Act.put (Act.put (Act.put _ (some 7) (sv 2)) (some 6) (sv 1)) (some 5) (sv 0))) _) _)
    try simp only [Act.put, List.setIfInBounds_toArray, List.set_cons_succ, List.set_cons_zero]
    simp [go_sem, quietTo, Ext.refl, ↓IntWalk.iteOmega, f2, hfd]
    all_goals try simp (disch := omega) only [IntWalk.i64_in]
    all_goals first
      | rfl
  refine fac_quiet 4 rfl rfl rfl (fun _ _ h _ => h) rfl rfl ?_
  apply Exists.intro
  refine ⟨fun sv w' hw' hfa => ?_, ?_⟩
  · refine ⟨rfl, ?_⟩
    simp only [putsL]
    change quietTo _ _ _ _ (Sem.run _ (execOp (Act.eval _) _) _)
    try simp only [Act.put, List.setIfInBounds_toArray, List.set_cons_succ, List.set_cons_zero]
    simp [go_sem, quietTo, Ext.refl]
    all_goals first
      | rfl
  refine fac_quiet 5 rfl rfl rfl (fun _ _ h _ => h) rfl rfl ?_
  apply Exists.intro
  refine ⟨fun sv w' hw' hfa => ?_, ?_⟩
  · obtain ⟨f4, -⟩ := hfa
    replace f4 : sv 4 = _ := f4
    try dsimp only at f4
    refine ⟨rfl, ?_⟩
    simp only [putsL]
    change quietTo _ _ _ _ (Sem.run _ (execOp (Act.eval (Act.put _ (some 9) (sv 4))) _) _)
    try simp only [Act.put, List.setIfInBounds_toArray, List.set_cons_succ, List.set_cons_zero]
    simp [go_sem, quietTo, Ext.refl, f4]
    all_goals first
      | rfl
  refine fac_quiet 6 rfl rfl rfl (fun _ _ h _ => h) rfl rfl ?_
  apply Exists.intro
  refine ⟨fun sv w' hw' hfa => ?_, ?_⟩
  · obtain ⟨_, f5, -⟩ := hfa
    replace f5 : sv 5 = _ := f5
    try dsimp only at f5
    refine ⟨rfl, ?_⟩
    simp only [putsL]
    change quietTo _ _ _ _ (Sem.run _ (execOp (Act.eval (Act.put (Act.put _ (some 10) (sv 5)) (some 9) (sv 4))) _) _)
    try simp only [Act.put, List.setIfInBounds_toArray, List.set_cons_succ, List.set_cons_zero]
    simp [go_sem, quietTo, Ext.refl, f5]
    all_goals first
      | rfl
  refine fac_quiet 7 rfl rfl rfl (fun _ _ h _ => h) rfl rfl ?_
  apply Exists.intro
  refine ⟨fun sv w' hw' hfa => ?_, ?_⟩
  · obtain ⟨_, _, f6, -⟩ := hfa
    replace f6 : sv 6 = _ := f6
    try dsimp only at f6
    refine ⟨rfl, ?_⟩
    simp only [putsL]
    change quietTo _ _ _ _ (Sem.run _ (execOp (Act.eval (Act.put (Act.put (Act.put _ (some 11) (sv 6)) (some 10) (sv 5)) (some 9) (sv 4))) _) _)
    try simp only [Act.put, List.setIfInBounds_toArray, List.set_cons_succ, List.set_cons_zero]
    simp [go_sem, quietTo, Ext.refl, f6]
    all_goals first
      | rfl
  refine fac_quiet 8 rfl rfl rfl (fun _ _ h _ => h) rfl rfl ?_
  apply Exists.intro
  refine ⟨fun sv w' hw' hfa => ?_, ?_⟩
  · obtain ⟨_, _, _, f7, -⟩ := hfa
    replace f7 : sv 7 = _ := f7
    try dsimp only at f7
    have hk9 := (Ext.refl w).drew.trans hw'; obtain ⟨y1, -⟩ := (hB.ext hk9).walk; obtain ⟨hc9, hff, hz9⟩ := hk9.walk; have v1 := (hc9 _ _ hb).trans c1; have v2 := (hc9 _ _ hhb).trans d0
    refine ⟨rfl, ?_⟩
    simp only [putsL]
    change quietTo _ _ _ _ (Sem.run _ (execOp (Act.eval (Act.put (Act.put (Act.put (Act.put _ (some 12) (sv 7)) (some 11) (sv 6)) (some 10) (sv 5)) (some 9) (sv 4))) _) _)
    try simp only [Act.put, List.setIfInBounds_toArray, List.set_cons_succ, List.set_cons_zero]
    simp [go_sem, quietTo, Ext.refl, ↓IntWalk.iteOmega, f7, y1]
    all_goals try simp (disch := omega) only [IntWalk.i64_in]
    all_goals first
      | rfl
  refine fac_quiet 9 rfl rfl rfl (fun _ _ h _ => h) rfl rfl ?_
  apply Exists.intro
  refine ⟨fun sv w' hw' hfa => ?_, ?_⟩
  · refine ⟨rfl, ?_⟩
    simp only [putsL]
    change quietTo _ _ _ _ (Sem.run _ (execOp (Act.eval _) _) _)
    try simp only [Act.put, List.setIfInBounds_toArray, List.set_cons_succ, List.set_cons_zero]
    simp [go_sem, quietTo, Ext.refl]
    all_goals first
      | rfl
  refine fac_quiet 10 rfl rfl rfl (fun _ _ h _ => h) rfl rfl ?_
  apply Exists.intro
  refine ⟨fun sv w' hw' hfa => ?_, ?_⟩
  · obtain ⟨f9, -⟩ := hfa
    replace f9 : sv 9 = _ := f9
    try dsimp only at f9
    refine ⟨rfl, ?_⟩
    simp only [putsL]
    change quietTo _ _ _ _ (Sem.run _ (execOp (Act.eval (Act.put _ (some 14) (sv 9))) _) _)
    try simp only [Act.put, List.setIfInBounds_toArray, List.set_cons_succ, List.set_cons_zero]
    simp [go_sem, quietTo, Ext.refl, f9]
    all_goals first
      | rfl
  refine fac_quiet 11 rfl rfl rfl (fun _ _ h _ => h) rfl rfl ?_
  apply Exists.intro
  refine ⟨fun sv w' hw' hfa => ?_, ?_⟩
  · obtain ⟨_, f10, -⟩ := hfa
    replace f10 : sv 10 = _ := f10
    try dsimp only at f10
    refine ⟨rfl, ?_⟩
    simp only [putsL]
    change quietTo _ _ _ _ (Sem.run _ (execOp (Act.eval (Act.put (Act.put _ (some 15) (sv 10)) (some 14) (sv 9))) _) _)
    try simp only [Act.put, List.setIfInBounds_toArray, List.set_cons_succ, List.set_cons_zero]
    simp [go_sem, quietTo, Ext.refl, f10]
    all_goals first
      | rfl
  refine fac_quiet 12 rfl rfl rfl (fun _ _ h _ => h) rfl rfl ?_
  apply Exists.intro
  refine ⟨fun sv w' hw' hfa => ?_, ?_⟩
  · obtain ⟨_, _, f11, -⟩ := hfa
    replace f11 : sv 11 = _ := f11
    try dsimp only at f11
    have hk9 := (Ext.refl w).drew.trans hw'; obtain ⟨y1, -⟩ := (hB.ext hk9).walk; obtain ⟨hc9, hff, hz9⟩ := hk9.walk; have v1 := (hc9 _ _ hb).trans c1; have v2 := (hc9 _ _ hhb).trans d0
    refine ⟨rfl, ?_⟩
    simp only [putsL]
    change quietTo _ _ _ _ (Sem.run _ (execOp (Act.eval (Act.put (Act.put (Act.put _ (some 16) (sv 11)) (some 15) (sv 10)) (some 14) (sv 9))) _) _)
    try simp only [Act.put, List.setIfInBounds_toArray, List.set_cons_succ, List.set_cons_zero]
    simp [go_sem, quietTo, Ext.refl, ↓IntWalk.iteOmega, f11, y1]
    all_goals try simp (disch := omega) only [IntWalk.i64_in]
    all_goals first
      | rfl
  refine fac_quiet 13 rfl rfl rfl (fun _ _ h _ => h) rfl rfl ?_
  apply Exists.intro
  refine ⟨fun sv w' hw' hfa => ?_, ?_⟩
  · refine ⟨rfl, ?_⟩
    simp only [putsL]
    change quietTo _ _ _ _ (Sem.run _ (execOp (Act.eval _) _) _)
    try simp only [Act.put, List.setIfInBounds_toArray, List.set_cons_succ, List.set_cons_zero]
    simp [go_sem, quietTo, Ext.refl]
    all_goals first
      | rfl
  refine fac_quiet 14 rfl rfl rfl (fun _ _ h _ => h) rfl rfl ?_
  apply Exists.intro
  refine ⟨fun sv w' hw' hfa => ?_, ?_⟩
  · obtain ⟨_, _, _, f12, f13, -⟩ := hfa
    replace f12 : sv 12 = _ := f12
    try dsimp only at f12
    replace f13 : sv 13 = _ := f13
    try dsimp only at f13
    have hk9 := (Ext.refl w).drew.trans hw'; obtain ⟨y1, -⟩ := (hB.ext hk9).walk; obtain ⟨hc9, hff, hz9⟩ := hk9.walk; have v1 := (hc9 _ _ hb).trans c1; have v2 := (hc9 _ _ hhb).trans d0
    refine ⟨rfl, ?_⟩
    simp only [putsL]
    change quietTo _ _ _ _ (Sem.run _ (execOp (Act.eval (Act.put (Act.put (Act.put (Act.put (Act.put _ (some 18) (sv 13)) (some 17) (sv 12)) (some 16) (sv 11)) (some 15) (sv 10)) (some 14) (sv 9))) _) _)
    try simp only [Act.put, List.setIfInBounds_toArray, List.set_cons_succ, List.set_cons_zero]
    simp [go_sem, quietTo, Ext.refl, ↓IntWalk.iteOmega, f12, f13, hiI]
    all_goals try simp (disch := omega) only [IntWalk.i64_in]
    all_goals first
      | rfl
  refine fac_quiet 15 rfl rfl rfl (fun _ _ h _ => h) rfl rfl ?_
  apply Exists.intro
  refine ⟨fun sv w' hw' hfa => ?_, ?_⟩
  · obtain ⟨_, _, _, _, _, f14, -⟩ := hfa
    replace f14 : sv 14 = _ := f14
    try dsimp only at f14
    refine ⟨rfl, ?_⟩
    simp only [putsL]
    change quietTo _ _ _ _ (Sem.run _ (execOp (Act.eval (Act.put (Act.put (Act.put (Act.put (Act.put (Act.put _ (some 19) (sv 14)) (some 18) (sv 13)) (some 17) (sv 12)) (some 16) (sv 11)) (some 15) (sv 10)) (some 14) (sv 9))) _) _)
    try simp only [Act.put, List.setIfInBounds_toArray, List.set_cons_succ, List.set_cons_zero]
    simp [go_sem, quietTo, Ext.refl, f14]
    all_goals first
      | rfl
  refine fac_quiet 16 rfl rfl rfl (fun _ _ h _ => h) rfl rfl ?_
  apply Exists.intro
  refine ⟨fun sv w' hw' hfa => ?_, ?_⟩
  · obtain ⟨_, _, _, _, _, _, f15, -⟩ := hfa
    replace f15 : sv 15 = _ := f15
    try dsimp only at f15
    have hk9 := (Ext.refl w).drew.trans hw'; obtain ⟨y1, -⟩ := (hB.ext hk9).walk; obtain ⟨hc9, hff, hz9⟩ := hk9.walk; have v1 := (hc9 _ _ hb).trans c1; have v2 := (hc9 _ _ hhb).trans d0
    refine ⟨rfl, ?_⟩
    simp only [putsL]
    change quietTo _ _ _ _ (Sem.run _ (execOp (Act.eval (Act.put (Act.put (Act.put (Act.put (Act.put (Act.put (Act.put _ (some 20) (sv 15)) (some 19) (sv 14)) (some 18) (sv 13)) (some 17) (sv 12)) (some 16) (sv 11)) (some 15) (sv 10)) (some 14) (sv 9))) _) _)
    try simp only [Act.put, List.setIfInBounds_toArray, List.set_cons_succ, List.set_cons_zero]
    simp [go_sem, quietTo, Ext.refl, ↓IntWalk.iteOmega, f15, v1]
    all_goals try simp (disch := omega) only [IntWalk.i64_in]
    all_goals first
      | rfl
  refine fac_quiet 17 rfl rfl rfl (fun _ _ h _ => h) rfl rfl ?_
  apply Exists.intro
  refine ⟨fun sv w' hw' hfa => ?_, ?_⟩
  · obtain ⟨_, _, _, _, f8, _, _, _, _, _, _, _, f16, -⟩ := hfa
    replace f8 : sv 8 = _ := f8
    try dsimp only at f8
    replace f16 : sv 16 = _ := f16
    try dsimp only at f16
    have hk9 := (Ext.refl w).drew.trans hw'; obtain ⟨y1, -⟩ := (hB.ext hk9).walk; obtain ⟨hc9, hff, hz9⟩ := hk9.walk; have v1 := (hc9 _ _ hb).trans c1; have v2 := (hc9 _ _ hhb).trans d0
    refine ⟨rfl, ?_⟩
    simp only [putsL]
    change quietTo _ _ _ _ (Sem.run _ (execOp (Act.eval (Act.put (Act.put (Act.put (Act.put (Act.put (Act.put (Act.put (Act.put (Act.put (Act.put (Act.put (Act.put (Act.put _ (some 21) (sv 16)) (some 20) (sv 15)) (some 19) (sv 14)) (some 18) (sv 13)) (some 17) (sv 12)) (some 16) (sv 11)) (some 15) (sv 10)) (some 14) (sv 9)) (some 13) (sv 8)) (some 12) (sv 7)) (some 11) (sv 6)) (some 10) (sv 5)) (some 9) (sv 4))) _) _)
    try simp only [Act.put, List.setIfInBounds_toArray, List.set_cons_succ, List.set_cons_zero]
    simp [go_sem, quietTo, Ext.refl, ↓IntWalk.iteOmega, f8, f16, hrI]
    all_goals try simp (disch := omega) only [IntWalk.i64_in]
    all_goals first
      | rfl
  refine fac_quiet 18 rfl rfl rfl (fun _ _ h _ => h) rfl rfl ?_
  apply Exists.intro
  refine ⟨fun sv w' hw' hfa => ?_, ?_⟩
  · obtain ⟨_, _, _, _, _, _, _, _, _, _, _, _, _, f17, -⟩ := hfa
    replace f17 : sv 17 = _ := f17
    try dsimp only at f17
    have hk9 := (Ext.refl w).drew.trans hw'; obtain ⟨y1, -⟩ := (hB.ext hk9).walk; obtain ⟨hc9, hff, hz9⟩ := hk9.walk; have v1 := (hc9 _ _ hb).trans c1; have v2 := (hc9 _ _ hhb).trans d0
    refine ⟨rfl, ?_⟩
    simp only [putsL]
    change quietTo _ _ _ _ (Sem.run _ (execOp (Act.eval (Act.put (Act.put (Act.put (Act.put (Act.put (Act.put (Act.put (Act.put (Act.put (Act.put (Act.put (Act.put (Act.put (Act.put _ (some 22) (sv 17)) (some 21) (sv 16)) (some 20) (sv 15)) (some 19) (sv 14)) (some 18) (sv 13)) (some 17) (sv 12)) (some 16) (sv 11)) (some 15) (sv 10)) (some 14) (sv 9)) (some 13) (sv 8)) (some 12) (sv 7)) (some 11) (sv 6)) (some 10) (sv 5)) (some 9) (sv 4))) _) _)
    try simp only [Act.put, List.setIfInBounds_toArray, List.set_cons_succ, List.set_cons_zero]
    simp [go_sem, quietTo, Ext.refl, ↓IntWalk.iteOmega, f17, v2]
    all_goals try simp (disch := omega) only [IntWalk.i64_in]
    all_goals first
      | rfl
  refine fac_quiet 19 rfl rfl rfl (fun _ _ h _ => h) rfl rfl ?_
  apply Exists.intro
  refine ⟨fun sv w' hw' hfa => ?_, ?_⟩
  · obtain ⟨_, _, _, f3, _, _, _, _, _, _, _, _, _, _, _, _, _, _, f18, -⟩ := hfa
    replace f3 : sv 3 = _ := f3
    try dsimp only at f3
    replace f18 : sv 18 = _ := f18
    try dsimp only at f18
    have hk9 := (Ext.refl w).drew.trans hw'; obtain ⟨y1, -⟩ := (hB.ext hk9).walk; obtain ⟨hc9, hff, hz9⟩ := hk9.walk; have v1 := (hc9 _ _ hb).trans c1; have v2 := (hc9 _ _ hhb).trans d0
    refine ⟨rfl, ?_⟩
    simp only [putsL]
    change quietTo _ _ _ _ (Sem.run _ (execOp (Act.eval (Act.put (Act.put (Act.put (Act.put (Act.put (Act.put (Act.put (Act.put (Act.put (Act.put (Act.put (Act.put (Act.put (Act.put (Act.put (Act.put (Act.put (Act.put (Act.put _ (some 23) (sv 18)) (some 22) (sv 17)) (some 21) (sv 16)) (some 20) (sv 15)) (some 19) (sv 14)) (some 18) (sv 13)) (some 17) (sv 12)) (some 16) (sv 11)) (some 15) (sv 10)) (some 14) (sv 9)) (some 13) (sv 8)) (some 12) (sv 7)) (some 11) (sv 6)) (some 10) (sv 5)) (some 9) (sv 4)) (some 8) (sv 3)) (some 7) (sv 2)) (some 6) (sv 1)) (some 5) (sv 0))) _) _)
    try simp only [Act.put, List.setIfInBounds_toArray, List.set_cons_succ, List.set_cons_zero]
    simp [go_sem, quietTo, Ext.refl, ↓IntWalk.iteOmega, f3, f18, hwr]
    all_goals try simp (disch := omega) only [IntWalk.i64_in]
    all_goals first
      | rfl
  refine fac_nil fun xq wrq herq hfrq hcrq holdq hapq => ?_
  obtain ⟨f0, f1, f2, f3, f4, f5, f6, f7, f8, f9, f10, f11, f12, f13, f14, f15, f16, f17, f18, f19, -⟩ := hfrq
  replace f0 : xq 0 = _ := f0
  try dsimp only at f0
  replace f1 : xq 1 = _ := f1
  try dsimp only at f1
  replace f2 : xq 2 = _ := f2
  try dsimp only at f2
  replace f3 : xq 3 = _ := f3
  try dsimp only at f3
  replace f4 : xq 4 = _ := f4
  try dsimp only at f4
  replace f5 : xq 5 = _ := f5
  try dsimp only at f5
  replace f6 : xq 6 = _ := f6
  try dsimp only at f6
  replace f7 : xq 7 = _ := f7
  try dsimp only at f7
  replace f8 : xq 8 = _ := f8
  try dsimp only at f8
  replace f9 : xq 9 = _ := f9
  try dsimp only at f9
  replace f10 : xq 10 = _ := f10
  try dsimp only at f10
  replace f11 : xq 11 = _ := f11
  try dsimp only at f11
  replace f12 : xq 12 = _ := f12
  try dsimp only at f12
  replace f13 : xq 13 = _ := f13
  try dsimp only at f13
  replace f14 : xq 14 = _ := f14
  try dsimp only at f14
  replace f15 : xq 15 = _ := f15
  try dsimp only at f15
  replace f16 : xq 16 = _ := f16
  try dsimp only at f16
  replace f17 : xq 17 = _ := f17
  try dsimp only at f17
  replace f18 : xq 18 = _ := f18
  try dsimp only at f18
  replace f19 : xq 19 = _ := f19
  try dsimp only at f19
  change wpList _ _ _ _ (Act.put (Act.put (Act.put (Act.put (Act.put (Act.put (Act.put (Act.put (Act.put (Act.put (Act.put (Act.put (Act.put (Act.put (Act.put (Act.put (Act.put (Act.put (Act.put (Act.put _ (some 5) (xq 0)) (some 6) (xq 1)) (some 7) (xq 2)) (some 8) (xq 3)) (some 9) (xq 4)) (some 10) (xq 5)) (some 11) (xq 6)) (some 12) (xq 7)) (some 13) (xq 8)) (some 14) (xq 9)) (some 15) (xq 10)) (some 16) (xq 11)) (some 17) (xq 12)) (some 18) (xq 13)) (some 19) (xq 14)) (some 20) (xq 15)) (some 21) (xq 16)) (some 22) (xq 17)) (some 23) (xq 18)) (some 24) (xq 19)) _
  simp only [putsL, Nat.reduceAdd, List.drop_succ_cons, List.drop_zero, List.drop_nil, Act.put, List.setIfInBounds_toArray, List.set_cons_succ, List.set_cons_zero]
  try simp only [f0, f1, f2, f3, f4, f5, f6, f7, f8, f9, f10, f11, f12, f13, f14, f15, f16, f17, f18, f19]
  clear f0 f1 f2 f3 f4 f5 f6 f7 f8 f9 f10 f11 f12 f13 f14 f15 f16 f17 f18 f19
  clear holdq hapq
  go_wp2
  go_ret
  exact ⟨rfl, (Ext.refl _).drew.trans herq⟩

end Go.Proofs.YtfcoeikekbjgpaaGreatDoor
