/- The solver's memory; how high somebody stands, and who hides whom, among those who stand so far. Conditions: as each theorem says. -/
import Derived.Test.YtfbegdcmnfkhgaaGreatDoorLxJ31
set_option linter.unusedSimpArgs false
set_option linter.unusedVariables false
namespace Go.Proofs.YtfbegdcmnfkhgaaGreatDoor
open Go Go.RowKit

/-- The solver: what it reads. -/
structure SvR (w : World) (v : Nat) (pp : Option Addr) (pc : Nat) (P : List PersonV) (wp : Option Addr) (wcap : Nat) (wide : List Int) (hp : Option Addr) (hc : Nat) (high : List Int) (np : Option Addr) (nc : Nat) (T : List StandV) (pls tks bs : Value) (fw : Int) : Prop where
  blk : Blk w v 77 #[.slice pp P.length pc, .slice wp wide.length wcap, .slice hp high.length hc, pls, tks, .slice np T.length nc, bs, .int .i64 fw]
  per : Slc 3 perC w pp P.length pc P
  wid : Slc 1 intC w wp wide.length wcap wide
  hig : Slc 1 intC w hp high.length hc high
  now : Slc 3 staC w np T.length nc T
theorem SvR.more {w w' : World} {v : Nat} {pp : Option Addr} {pc : Nat} {P : List PersonV} {wp : Option Addr} {wcap : Nat} {wide : List Int} {hp : Option Addr} {hc : Nat} {high : List Int} {np : Option Addr} {nc : Nat} {T : List StandV} {pls tks bs : Value} {fw : Int} (h : SvR w v pp pc P wp wcap wide hp hc high np nc T pls tks bs fw) (he : Ext w w') : SvR w' v pp pc P wp wcap wide hp hc high np nc T pls tks bs fw :=
  ⟨h.blk.ext he, h.per.ext he, h.wid.ext he, h.hig.ext he, h.now.ext he⟩
/-- Those who stand are the first ones of the people, in order, on the stage. -/
structure SvT (P : List PersonV) (wide high : List Int) (T : List StandV) : Prop where
  ok : StandsOk P wide high T
  le : T.length ≤ P.length
  nm : ∀ (i : Nat) (x : StandV), T[i]? = some x → ∃ q, P[i]? = some q ∧ q.name = x.name

section
variable {v : Nat} {pp : Option Addr} {pc : Nat} {P : List PersonV} {wp : Option Addr} {wcap : Nat} {wide : List Int} {hp : Option Addr} {hc : Nat} {high : List Int} {np : Option Addr} {nc : Nat} {T : List StandV} {pls tks bs : Value} {fw : Int} {w : World}
set_option maxRecDepth 100000 in
set_option maxHeartbeats 1600000 in
theorem svTop_any (h : SvR w v pp pc P wp wcap wide hp hc high np nc T pls tks bs fw) (hT : SvT P wide high T) {i : Nat} {x : StandV} (hx : T[i]? = some x) :
    Calls Tryz.prog 162 #[.pointer (some ⟨v, 0, none⟩), .int .i64 i] w fun e w' => e = .returned (.int .i64 (topS P high x)) ∧ Ext w w' := by
  have hxm := List.mem_of_getElem? hx
  obtain ⟨q, hq, hqn⟩ := hT.nm i x hx
  obtain ⟨x1, x2, x3, x4⟩ := hT.ok.on x hxm
  have hwh := hT.ok.wh
  obtain ⟨r, hr⟩ : ∃ r : Nat, x.row = r := ⟨x.row.toNat, by omega⟩
  obtain ⟨u, hu⟩ := getD_some (rfl : high.length = high.length) (show r < high.length by omega)
  have htop : topS P high x = q.high + u := by
    unfold topS
    rw [← hqn, heightOf_is hT.ok.po hq, hr, Int.toNat_natCast, List.getD_eq_getElem?_getD, hu]
    rfl
  have hqb := (hT.ok.po.one q (List.mem_of_getElem? hq)).2.2
  have hvb := hT.ok.ho u (List.mem_of_getElem? hu)
  rw [htop]
  have hiP := (List.getElem?_eq_some_iff.1 hq).1
  have hiT := (List.getElem?_eq_some_iff.1 hx).1
  rcases (slcC h.now).2 with ⟨-, e⟩ | ⟨b, off, rfl, hb, hEl⟩
  · rw [e] at hx; cases hx
  rcases (slcC h.hig).2 with ⟨-, e⟩ | ⟨hb9, ho, rfl, hhb, hEh⟩
  · rw [e] at hu; cases hu
  rcases (slcC h.per).2 with ⟨-, e⟩ | ⟨pb, po, rfl, hpb, hEp⟩
  · rw [e] at hq; cases hq
  obtain ⟨c0, c1, c2⟩ := hEl.sta hx
  have d0 := hEh.int hu
  obtain ⟨e0, e1, e2⟩ := hEp.per hq
  rw [hr] at c1
  have hB := h.blk
  have hiI : (i : Int) < T.length := by omega
  have hiPI : (i : Int) < P.length := by omega
  have hrI : (r : Int) < high.length := by omega
  have hsum : IntKind.i64.wrap (q.high + u) = q.high + u := IntWalk.i64_in _ (by omega)
  clear h hT hx hq hu hEl hEh hEp hxm htop
  go_enter Tryz.func162, Tryz.ntmps162
  go_upto_region 1 with fail
  refine wp_region_facts [] [([], false, false), ([0], false, false), ([0, 1], false, false), ([0, 1, 2], false, false), ([], false, false), ([0, 1, 2, 3, 4], false, false), ([0, 1, 2, 3, 4, 5], false, false), ([0, 1, 2, 3, 4, 5, 6], false, false), ([], false, false), ([8], false, false), ([8, 9], false, false), ([8, 9, 10], false, false), ([8, 9, 10, 11], false, false), ([], false, false), ([13], false, false), ([13, 14], false, false), ([13, 14, 15], false, false), ([], false, false), ([13, 14, 15, 16, 17], false, false), ([13, 14, 15, 16, 17, 18], false, false), ([13, 14, 15, 16, 17, 18, 19], false, false), ([8, 9, 10, 11, 12, 13, 14, 15, 16, 17, 18, 19, 20], false, false), ([8, 9, 10, 11, 12, 13, 14, 15, 16, 17, 18, 19, 20, 21], false, false), ([0, 1, 2, 3, 4, 5, 6, 7, 8, 9, 10, 11, 12, 13, 14, 15, 16, 17, 18, 19, 20, 21, 22], false, false)] (Ext) Ext (fun _ => True) (by kernel_rfl) (by kernel_rfl) Ext.refl (fun _ _ _ => Ext.trans) (fun _ _ h => h) (fun _ _ h => h.size) (fun _ _ h _ => h) trivial ?_
  dsimp only [List.length_cons, List.length_nil, List.drop_succ_cons, List.drop_zero, List.drop_nil]
  refine fac_quiet 0 rfl rfl rfl (fun _ _ h _ => h) rfl rfl ?_
  apply Exists.intro
  refine ⟨fun sv w' hw' hfa => ?_, ?_⟩
  · refine ⟨rfl, ?_⟩
    simp only [putsL]
    change quietTo _ _ _ _ (Sem.run _ (execOp (Act.eval _) _) _)
    try simp only [Act.put, List.setIfInBounds_toArray, List.set_cons_succ, List.set_cons_zero]
    simp [go_sem, quietTo, Ext.refl]
    all_goals first
      | rfl
  refine fac_quiet 1 rfl rfl rfl (fun _ _ h _ => h) rfl rfl ?_
  apply Exists.intro
  refine ⟨fun sv w' hw' hfa => ?_, ?_⟩
  · obtain ⟨f0, -⟩ := hfa
    replace f0 : sv 0 = _ := f0
    try dsimp only at f0
    refine ⟨rfl, ?_⟩
    simp only [putsL]
    change quietTo _ _ _ _ (Sem.run _ (execOp (Act.eval (Act.put _ (some 5) (sv 0))) _) _)
    try simp only [Act.put, List.setIfInBounds_toArray, List.set_cons_succ, List.set_cons_zero]
    simp [go_sem, quietTo, Ext.refl, f0]
    all_goals first
      | rfl
  refine fac_quiet 2 rfl rfl rfl (fun _ _ h _ => h) rfl rfl ?_
  apply Exists.intro
  refine ⟨fun sv w' hw' hfa => ?_, ?_⟩
  · obtain ⟨_, f1, -⟩ := hfa
    replace f1 : sv 1 = _ := f1
    try dsimp only at f1
    refine ⟨rfl, ?_⟩
    simp only [putsL]
    change quietTo _ _ _ _ (Sem.run _ (execOp (Act.eval (Act.put (Act.put _ (some 6) (sv 1)) (some 5) (sv 0))) _) _)
    try simp only [Act.put, List.setIfInBounds_toArray, List.set_cons_succ, List.set_cons_zero]
    simp [go_sem, quietTo, Ext.refl, f1]
    all_goals first
      | rfl
  refine fac_quiet 3 rfl rfl rfl (fun _ _ h _ => h) rfl rfl ?_
  apply Exists.intro
  refine ⟨fun sv w' hw' hfa => ?_, ?_⟩
  · obtain ⟨_, _, f2, -⟩ := hfa
    replace f2 : sv 2 = _ := f2
    try dsimp only at f2
    have hk9 := (Ext.refl w).drew.trans hw'; obtain ⟨y1, -⟩ := (hB.ext hk9).walk; obtain ⟨hc9, hff, hz9⟩ := hk9.walk; have v1 := (hc9 _ _ hb).trans c1; have u1 := (hc9 _ _ hhb).trans d0; have t1 := (hc9 _ _ hpb).trans e1
    refine ⟨rfl, ?_⟩
    simp only [putsL]
    change quietTo _ _ _ _ (Sem.run _ (execOp (Act.eval (Act.put (Act.put (Act.put _ (some 7) (sv 2)) (some 6) (sv 1)) (some 5) (sv 0))) _) _)
    try simp only [Act.put, List.setIfInBounds_toArray, List.set_cons_succ, List.set_cons_zero]
    simp [go_sem, quietTo, Ext.refl, ↓IntWalk.iteOmega, f2, y1]
    all_goals try simp (disch := omega) only [IntWalk.i64_in]
    all_goals first
      | rfl
  refine fac_quiet 4 rfl rfl rfl (fun _ _ h _ => h) rfl rfl ?_
  apply Exists.intro
  refine ⟨fun sv w' hw' hfa => ?_, ?_⟩
  · refine ⟨rfl, ?_⟩
    simp only [putsL]
    change quietTo _ _ _ _ (Sem.run _ (execOp (Act.eval _) _) _)
    try simp only [Act.put, List.setIfInBounds_toArray, List.set_cons_succ, List.set_cons_zero]
    simp [go_sem, quietTo, Ext.refl]
    all_goals first
      | rfl
  refine fac_quiet 5 rfl rfl rfl (fun _ _ h _ => h) rfl rfl ?_
  apply Exists.intro
  refine ⟨fun sv w' hw' hfa => ?_, ?_⟩
  · obtain ⟨_, _, _, f3, f4, -⟩ := hfa
    replace f3 : sv 3 = _ := f3
    try dsimp only at f3
    replace f4 : sv 4 = _ := f4
    try dsimp only at f4
    have hk9 := (Ext.refl w).drew.trans hw'; obtain ⟨y1, -⟩ := (hB.ext hk9).walk; obtain ⟨hc9, hff, hz9⟩ := hk9.walk; have v1 := (hc9 _ _ hb).trans c1; have u1 := (hc9 _ _ hhb).trans d0; have t1 := (hc9 _ _ hpb).trans e1
    refine ⟨rfl, ?_⟩
    simp only [putsL]
    change quietTo _ _ _ _ (Sem.run _ (execOp (Act.eval (Act.put (Act.put (Act.put (Act.put (Act.put _ (some 9) (sv 4)) (some 8) (sv 3)) (some 7) (sv 2)) (some 6) (sv 1)) (some 5) (sv 0))) _) _)
    try simp only [Act.put, List.setIfInBounds_toArray, List.set_cons_succ, List.set_cons_zero]
    simp [go_sem, quietTo, Ext.refl, ↓IntWalk.iteOmega, f3, f4, hiPI]
    all_goals try simp (disch := omega) only [IntWalk.i64_in]
    all_goals first
      | rfl
  refine fac_quiet 6 rfl rfl rfl (fun _ _ h _ => h) rfl rfl ?_
  apply Exists.intro
  refine ⟨fun sv w' hw' hfa => ?_, ?_⟩
  · obtain ⟨_, _, _, _, _, f5, -⟩ := hfa
    replace f5 : sv 5 = _ := f5
    try dsimp only at f5
    refine ⟨rfl, ?_⟩
    simp only [putsL]
    change quietTo _ _ _ _ (Sem.run _ (execOp (Act.eval (Act.put (Act.put (Act.put (Act.put (Act.put (Act.put _ (some 10) (sv 5)) (some 9) (sv 4)) (some 8) (sv 3)) (some 7) (sv 2)) (some 6) (sv 1)) (some 5) (sv 0))) _) _)
    try simp only [Act.put, List.setIfInBounds_toArray, List.set_cons_succ, List.set_cons_zero]
    simp [go_sem, quietTo, Ext.refl, f5]
    all_goals first
      | rfl
  refine fac_quiet 7 rfl rfl rfl (fun _ _ h _ => h) rfl rfl ?_
  apply Exists.intro
  refine ⟨fun sv w' hw' hfa => ?_, ?_⟩
  · obtain ⟨_, _, _, _, _, _, f6, -⟩ := hfa
    replace f6 : sv 6 = _ := f6
    try dsimp only at f6
    have hk9 := (Ext.refl w).drew.trans hw'; obtain ⟨y1, -⟩ := (hB.ext hk9).walk; obtain ⟨hc9, hff, hz9⟩ := hk9.walk; have v1 := (hc9 _ _ hb).trans c1; have u1 := (hc9 _ _ hhb).trans d0; have t1 := (hc9 _ _ hpb).trans e1
    refine ⟨rfl, ?_⟩
    simp only [putsL]
    change quietTo _ _ _ _ (Sem.run _ (execOp (Act.eval (Act.put (Act.put (Act.put (Act.put (Act.put (Act.put (Act.put _ (some 11) (sv 6)) (some 10) (sv 5)) (some 9) (sv 4)) (some 8) (sv 3)) (some 7) (sv 2)) (some 6) (sv 1)) (some 5) (sv 0))) _) _)
    try simp only [Act.put, List.setIfInBounds_toArray, List.set_cons_succ, List.set_cons_zero]
    simp [go_sem, quietTo, Ext.refl, ↓IntWalk.iteOmega, f6, t1]
    all_goals try simp (disch := omega) only [IntWalk.i64_in]
    all_goals first
      | rfl
  refine fac_quiet 8 rfl rfl rfl (fun _ _ h _ => h) rfl rfl ?_
  apply Exists.intro
  refine ⟨fun sv w' hw' hfa => ?_, ?_⟩
  · refine ⟨rfl, ?_⟩
    simp only [putsL]
    change quietTo _ _ _ _ (Sem.run _ (execOp (Act.eval _) _) _)
    try simp only [Act.put, List.setIfInBounds_toArray, List.set_cons_succ, List.set_cons_zero]
    simp [go_sem, quietTo, Ext.refl]
    all_goals first
      | rfl
  refine fac_quiet 9 rfl rfl rfl (fun _ _ h _ => h) rfl rfl ?_
  apply Exists.intro
  refine ⟨fun sv w' hw' hfa => ?_, ?_⟩
  · obtain ⟨f8, -⟩ := hfa
    replace f8 : sv 8 = _ := f8
    try dsimp only at f8
    refine ⟨rfl, ?_⟩
    simp only [putsL]
    change quietTo _ _ _ _ (Sem.run _ (execOp (Act.eval (Act.put _ (some 13) (sv 8))) _) _)
    try simp only [Act.put, List.setIfInBounds_toArray, List.set_cons_succ, List.set_cons_zero]
    simp [go_sem, quietTo, Ext.refl, f8]
    all_goals first
      | rfl
  refine fac_quiet 10 rfl rfl rfl (fun _ _ h _ => h) rfl rfl ?_
  apply Exists.intro
  refine ⟨fun sv w' hw' hfa => ?_, ?_⟩
  · obtain ⟨_, f9, -⟩ := hfa
    replace f9 : sv 9 = _ := f9
    try dsimp only at f9
    refine ⟨rfl, ?_⟩
    simp only [putsL]
    change quietTo _ _ _ _ (Sem.run _ (execOp (Act.eval (Act.put (Act.put _ (some 14) (sv 9)) (some 13) (sv 8))) _) _)
    try simp only [Act.put, List.setIfInBounds_toArray, List.set_cons_succ, List.set_cons_zero]
    simp [go_sem, quietTo, Ext.refl, f9]
    all_goals first
      | rfl
  refine fac_quiet 11 rfl rfl rfl (fun _ _ h _ => h) rfl rfl ?_
  apply Exists.intro
  refine ⟨fun sv w' hw' hfa => ?_, ?_⟩
  · obtain ⟨_, _, f10, -⟩ := hfa
    replace f10 : sv 10 = _ := f10
    try dsimp only at f10
    refine ⟨rfl, ?_⟩
    simp only [putsL]
    change quietTo _ _ _ _ (Sem.run _ (execOp (Act.eval (Act.put (Act.put (Act.put _ (some 15) (sv 10)) (some 14) (sv 9)) (some 13) (sv 8))) _) _)
    try simp only [Act.put, List.setIfInBounds_toArray, List.set_cons_succ, List.set_cons_zero]
    simp [go_sem, quietTo, Ext.refl, f10]
    all_goals first
      | rfl
  refine fac_quiet 12 rfl rfl rfl (fun _ _ h _ => h) rfl rfl ?_
  apply Exists.intro
  refine ⟨fun sv w' hw' hfa => ?_, ?_⟩
  · obtain ⟨_, _, _, f11, -⟩ := hfa
    replace f11 : sv 11 = _ := f11
    try dsimp only at f11
    have hk9 := (Ext.refl w).drew.trans hw'; obtain ⟨y1, -⟩ := (hB.ext hk9).walk; obtain ⟨hc9, hff, hz9⟩ := hk9.walk; have v1 := (hc9 _ _ hb).trans c1; have u1 := (hc9 _ _ hhb).trans d0; have t1 := (hc9 _ _ hpb).trans e1
    refine ⟨rfl, ?_⟩
    simp only [putsL]
    change quietTo _ _ _ _ (Sem.run _ (execOp (Act.eval (Act.put (Act.put (Act.put (Act.put _ (some 16) (sv 11)) (some 15) (sv 10)) (some 14) (sv 9)) (some 13) (sv 8))) _) _)
    try simp only [Act.put, List.setIfInBounds_toArray, List.set_cons_succ, List.set_cons_zero]
    simp [go_sem, quietTo, Ext.refl, ↓IntWalk.iteOmega, f11, y1]
    all_goals try simp (disch := omega) only [IntWalk.i64_in]
    all_goals first
      | rfl
  refine fac_quiet 13 rfl rfl rfl (fun _ _ h _ => h) rfl rfl ?_
  apply Exists.intro
  refine ⟨fun sv w' hw' hfa => ?_, ?_⟩
  · refine ⟨rfl, ?_⟩
    simp only [putsL]
    change quietTo _ _ _ _ (Sem.run _ (execOp (Act.eval _) _) _)
    try simp only [Act.put, List.setIfInBounds_toArray, List.set_cons_succ, List.set_cons_zero]
    simp [go_sem, quietTo, Ext.refl]
    all_goals first
      | rfl
  refine fac_quiet 14 rfl rfl rfl (fun _ _ h _ => h) rfl rfl ?_
  apply Exists.intro
  refine ⟨fun sv w' hw' hfa => ?_, ?_⟩
  · obtain ⟨f13, -⟩ := hfa
    replace f13 : sv 13 = _ := f13
    try dsimp only at f13
    refine ⟨rfl, ?_⟩
    simp only [putsL]
    change quietTo _ _ _ _ (Sem.run _ (execOp (Act.eval (Act.put _ (some 18) (sv 13))) _) _)
    try simp only [Act.put, List.setIfInBounds_toArray, List.set_cons_succ, List.set_cons_zero]
    simp [go_sem, quietTo, Ext.refl, f13]
    all_goals first
      | rfl
  refine fac_quiet 15 rfl rfl rfl (fun _ _ h _ => h) rfl rfl ?_
  apply Exists.intro
  refine ⟨fun sv w' hw' hfa => ?_, ?_⟩
  · obtain ⟨_, f14, -⟩ := hfa
    replace f14 : sv 14 = _ := f14
    try dsimp only at f14
    refine ⟨rfl, ?_⟩
    simp only [putsL]
    change quietTo _ _ _ _ (Sem.run _ (execOp (Act.eval (Act.put (Act.put _ (some 19) (sv 14)) (some 18) (sv 13))) _) _)
    try simp only [Act.put, List.setIfInBounds_toArray, List.set_cons_succ, List.set_cons_zero]
    simp [go_sem, quietTo, Ext.refl, f14]
    all_goals first
      | rfl
  refine fac_quiet 16 rfl rfl rfl (fun _ _ h _ => h) rfl rfl ?_
  apply Exists.intro
  refine ⟨fun sv w' hw' hfa => ?_, ?_⟩
  · obtain ⟨_, _, f15, -⟩ := hfa
    replace f15 : sv 15 = _ := f15
    try dsimp only at f15
    have hk9 := (Ext.refl w).drew.trans hw'; obtain ⟨y1, -⟩ := (hB.ext hk9).walk; obtain ⟨hc9, hff, hz9⟩ := hk9.walk; have v1 := (hc9 _ _ hb).trans c1; have u1 := (hc9 _ _ hhb).trans d0; have t1 := (hc9 _ _ hpb).trans e1
    refine ⟨rfl, ?_⟩
    simp only [putsL]
    change quietTo _ _ _ _ (Sem.run _ (execOp (Act.eval (Act.put (Act.put (Act.put _ (some 20) (sv 15)) (some 19) (sv 14)) (some 18) (sv 13))) _) _)
    try simp only [Act.put, List.setIfInBounds_toArray, List.set_cons_succ, List.set_cons_zero]
    simp [go_sem, quietTo, Ext.refl, ↓IntWalk.iteOmega, f15, y1]
    all_goals try simp (disch := omega) only [IntWalk.i64_in]
    all_goals first
      | rfl
  refine fac_quiet 17 rfl rfl rfl (fun _ _ h _ => h) rfl rfl ?_
  apply Exists.intro
  refine ⟨fun sv w' hw' hfa => ?_, ?_⟩
  · refine ⟨rfl, ?_⟩
    simp only [putsL]
    change quietTo _ _ _ _ (Sem.run _ (execOp (Act.eval _) _) _)
    try simp only [Act.put, List.setIfInBounds_toArray, List.set_cons_succ, List.set_cons_zero]
    simp [go_sem, quietTo, Ext.refl]
    all_goals first
      | rfl
  refine fac_quiet 18 rfl rfl rfl (fun _ _ h _ => h) rfl rfl ?_
  apply Exists.intro
  refine ⟨fun sv w' hw' hfa => ?_, ?_⟩
  · obtain ⟨_, _, _, f16, f17, -⟩ := hfa
    replace f16 : sv 16 = _ := f16
    try dsimp only at f16
    replace f17 : sv 17 = _ := f17
    try dsimp only at f17
    have hk9 := (Ext.refl w).drew.trans hw'; obtain ⟨y1, -⟩ := (hB.ext hk9).walk; obtain ⟨hc9, hff, hz9⟩ := hk9.walk; have v1 := (hc9 _ _ hb).trans c1; have u1 := (hc9 _ _ hhb).trans d0; have t1 := (hc9 _ _ hpb).trans e1
    refine ⟨rfl, ?_⟩
    simp only [putsL]
    change quietTo _ _ _ _ (Sem.run _ (execOp (Act.eval (Act.put (Act.put (Act.put (Act.put (Act.put _ (some 22) (sv 17)) (some 21) (sv 16)) (some 20) (sv 15)) (some 19) (sv 14)) (some 18) (sv 13))) _) _)
    try simp only [Act.put, List.setIfInBounds_toArray, List.set_cons_succ, List.set_cons_zero]
    simp [go_sem, quietTo, Ext.refl, ↓IntWalk.iteOmega, f16, f17, hiI]
    all_goals try simp (disch := omega) only [IntWalk.i64_in]
    all_goals first
      | rfl
  refine fac_quiet 19 rfl rfl rfl (fun _ _ h _ => h) rfl rfl ?_
  apply Exists.intro
  refine ⟨fun sv w' hw' hfa => ?_, ?_⟩
  · obtain ⟨_, _, _, _, _, f18, -⟩ := hfa
    replace f18 : sv 18 = _ := f18
    try dsimp only at f18
    refine ⟨rfl, ?_⟩
    simp only [putsL]
    change quietTo _ _ _ _ (Sem.run _ (execOp (Act.eval (Act.put (Act.put (Act.put (Act.put (Act.put (Act.put _ (some 23) (sv 18)) (some 22) (sv 17)) (some 21) (sv 16)) (some 20) (sv 15)) (some 19) (sv 14)) (some 18) (sv 13))) _) _)
    try simp only [Act.put, List.setIfInBounds_toArray, List.set_cons_succ, List.set_cons_zero]
    simp [go_sem, quietTo, Ext.refl, f18]
    all_goals first
      | rfl
  refine fac_quiet 20 rfl rfl rfl (fun _ _ h _ => h) rfl rfl ?_
  apply Exists.intro
  refine ⟨fun sv w' hw' hfa => ?_, ?_⟩
  · obtain ⟨_, _, _, _, _, _, f19, -⟩ := hfa
    replace f19 : sv 19 = _ := f19
    try dsimp only at f19
    have hk9 := (Ext.refl w).drew.trans hw'; obtain ⟨y1, -⟩ := (hB.ext hk9).walk; obtain ⟨hc9, hff, hz9⟩ := hk9.walk; have v1 := (hc9 _ _ hb).trans c1; have u1 := (hc9 _ _ hhb).trans d0; have t1 := (hc9 _ _ hpb).trans e1
    refine ⟨rfl, ?_⟩
    simp only [putsL]
    change quietTo _ _ _ _ (Sem.run _ (execOp (Act.eval (Act.put (Act.put (Act.put (Act.put (Act.put (Act.put (Act.put _ (some 24) (sv 19)) (some 23) (sv 18)) (some 22) (sv 17)) (some 21) (sv 16)) (some 20) (sv 15)) (some 19) (sv 14)) (some 18) (sv 13))) _) _)
    try simp only [Act.put, List.setIfInBounds_toArray, List.set_cons_succ, List.set_cons_zero]
    simp [go_sem, quietTo, Ext.refl, ↓IntWalk.iteOmega, f19, v1]
    all_goals try simp (disch := omega) only [IntWalk.i64_in]
    all_goals first
      | rfl
  refine fac_quiet 21 rfl rfl rfl (fun _ _ h _ => h) rfl rfl ?_
  apply Exists.intro
  refine ⟨fun sv w' hw' hfa => ?_, ?_⟩
  · obtain ⟨_, _, _, _, f12, _, _, _, _, _, _, _, f20, -⟩ := hfa
    replace f12 : sv 12 = _ := f12
    try dsimp only at f12
    replace f20 : sv 20 = _ := f20
    try dsimp only at f20
    have hk9 := (Ext.refl w).drew.trans hw'; obtain ⟨y1, -⟩ := (hB.ext hk9).walk; obtain ⟨hc9, hff, hz9⟩ := hk9.walk; have v1 := (hc9 _ _ hb).trans c1; have u1 := (hc9 _ _ hhb).trans d0; have t1 := (hc9 _ _ hpb).trans e1
    refine ⟨rfl, ?_⟩
    simp only [putsL]
    change quietTo _ _ _ _ (Sem.run _ (execOp (Act.eval (Act.put (Act.put (Act.put (Act.put (Act.put (Act.put (Act.put (Act.put (Act.put (Act.put (Act.put (Act.put (Act.put _ (some 25) (sv 20)) (some 24) (sv 19)) (some 23) (sv 18)) (some 22) (sv 17)) (some 21) (sv 16)) (some 20) (sv 15)) (some 19) (sv 14)) (some 18) (sv 13)) (some 17) (sv 12)) (some 16) (sv 11)) (some 15) (sv 10)) (some 14) (sv 9)) (some 13) (sv 8))) _) _)
    try simp only [Act.put, List.setIfInBounds_toArray, List.set_cons_succ, List.set_cons_zero]
    simp [go_sem, quietTo, Ext.refl, ↓IntWalk.iteOmega, f12, f20, hrI]
    all_goals try simp (disch := omega) only [IntWalk.i64_in]
    all_goals first
      | rfl
  refine fac_quiet 22 rfl rfl rfl (fun _ _ h _ => h) rfl rfl ?_
  apply Exists.intro
  refine ⟨fun sv w' hw' hfa => ?_, ?_⟩
  · obtain ⟨_, _, _, _, _, _, _, _, _, _, _, _, _, f21, -⟩ := hfa
    replace f21 : sv 21 = _ := f21
    try dsimp only at f21
    have hk9 := (Ext.refl w).drew.trans hw'; obtain ⟨y1, -⟩ := (hB.ext hk9).walk; obtain ⟨hc9, hff, hz9⟩ := hk9.walk; have v1 := (hc9 _ _ hb).trans c1; have u1 := (hc9 _ _ hhb).trans d0; have t1 := (hc9 _ _ hpb).trans e1
    refine ⟨rfl, ?_⟩
    simp only [putsL]
    change quietTo _ _ _ _ (Sem.run _ (execOp (Act.eval (Act.put (Act.put (Act.put (Act.put (Act.put (Act.put (Act.put (Act.put (Act.put (Act.put (Act.put (Act.put (Act.put (Act.put _ (some 26) (sv 21)) (some 25) (sv 20)) (some 24) (sv 19)) (some 23) (sv 18)) (some 22) (sv 17)) (some 21) (sv 16)) (some 20) (sv 15)) (some 19) (sv 14)) (some 18) (sv 13)) (some 17) (sv 12)) (some 16) (sv 11)) (some 15) (sv 10)) (some 14) (sv 9)) (some 13) (sv 8))) _) _)
    try simp only [Act.put, List.setIfInBounds_toArray, List.set_cons_succ, List.set_cons_zero]
    simp [go_sem, quietTo, Ext.refl, ↓IntWalk.iteOmega, f21, u1]
    all_goals try simp (disch := omega) only [IntWalk.i64_in]
    all_goals first
      | rfl
  refine fac_quiet 23 rfl rfl rfl (fun _ _ h _ => h) rfl rfl ?_
  apply Exists.intro
  refine ⟨fun sv w' hw' hfa => ?_, ?_⟩
  · obtain ⟨_, _, _, _, _, _, _, f7, _, _, _, _, _, _, _, _, _, _, _, _, _, _, f22, -⟩ := hfa
    replace f7 : sv 7 = _ := f7
    try dsimp only at f7
    replace f22 : sv 22 = _ := f22
    try dsimp only at f22
    have hk9 := (Ext.refl w).drew.trans hw'; obtain ⟨y1, -⟩ := (hB.ext hk9).walk; obtain ⟨hc9, hff, hz9⟩ := hk9.walk; have v1 := (hc9 _ _ hb).trans c1; have u1 := (hc9 _ _ hhb).trans d0; have t1 := (hc9 _ _ hpb).trans e1
    refine ⟨rfl, ?_⟩
    simp only [putsL]
    change quietTo _ _ _ _ (Sem.run _ (execOp (Act.eval (Act.put (Act.put (Act.put (Act.put (Act.put (Act.put (Act.put (Act.put (Act.put (Act.put (Act.put (Act.put (Act.put (Act.put (Act.put (Act.put (Act.put (Act.put (Act.put (Act.put (Act.put (Act.put (Act.put _ (some 27) (sv 22)) (some 26) (sv 21)) (some 25) (sv 20)) (some 24) (sv 19)) (some 23) (sv 18)) (some 22) (sv 17)) (some 21) (sv 16)) (some 20) (sv 15)) (some 19) (sv 14)) (some 18) (sv 13)) (some 17) (sv 12)) (some 16) (sv 11)) (some 15) (sv 10)) (some 14) (sv 9)) (some 13) (sv 8)) (some 12) (sv 7)) (some 11) (sv 6)) (some 10) (sv 5)) (some 9) (sv 4)) (some 8) (sv 3)) (some 7) (sv 2)) (some 6) (sv 1)) (some 5) (sv 0))) _) _)
    try simp only [Act.put, List.setIfInBounds_toArray, List.set_cons_succ, List.set_cons_zero]
    simp [go_sem, quietTo, Ext.refl, ↓IntWalk.iteOmega, f7, f22, hsum]
    all_goals try simp (disch := omega) only [IntWalk.i64_in]
    all_goals first
      | rfl
  refine fac_nil fun xq wrq herq hfrq hcrq holdq hapq => ?_
  obtain ⟨f0, f1, f2, f3, f4, f5, f6, f7, f8, f9, f10, f11, f12, f13, f14, f15, f16, f17, f18, f19, f20, f21, f22, f23, -⟩ := hfrq
  replace f0 : xq 0 = _ := f0
  try dsimp only at f0
  replace f1 : xq 1 = _ := f1
  try dsimp only at f1
  replace f2 : xq 2 = _ := f2
  try dsimp only at f2
  replace f3 : xq 3 = _ := f3
  try dsimp only at f3
  replace f4 : xq 4 = _ := f4
  try dsimp only at f4
  replace f5 : xq 5 = _ := f5
  try dsimp only at f5
  replace f6 : xq 6 = _ := f6
  try dsimp only at f6
  replace f7 : xq 7 = _ := f7
  try dsimp only at f7
  replace f8 : xq 8 = _ := f8
  try dsimp only at f8
  replace f9 : xq 9 = _ := f9
  try dsimp only at f9
  replace f10 : xq 10 = _ := f10
  try dsimp only at f10
  replace f11 : xq 11 = _ := f11
  try dsimp only at f11
  replace f12 : xq 12 = _ := f12
  try dsimp only at f12
  replace f13 : xq 13 = _ := f13
  try dsimp only at f13
  replace f14 : xq 14 = _ := f14
  try dsimp only at f14
  replace f15 : xq 15 = _ := f15
  try dsimp only at f15
  replace f16 : xq 16 = _ := f16
  try dsimp only at f16
  replace f17 : xq 17 = _ := f17
  try dsimp only at f17
  replace f18 : xq 18 = _ := f18
  try dsimp only at f18
  replace f19 : xq 19 = _ := f19
  try dsimp only at f19
  replace f20 : xq 20 = _ := f20
  try dsimp only at f20
  replace f21 : xq 21 = _ := f21
  try dsimp only at f21
  replace f22 : xq 22 = _ := f22
  try dsimp only at f22
  replace f23 : xq 23 = _ := f23
  try dsimp only at f23
  change wpList _ _ _ _ (Act.put (Act.put (Act.put (Act.put (Act.put (Act.put (Act.put (Act.put (Act.put (Act.put (Act.put (Act.put (Act.put (Act.put (Act.put (Act.put (Act.put (Act.put (Act.put (Act.put (Act.put (Act.put (Act.put (Act.put _ (some 5) (xq 0)) (some 6) (xq 1)) (some 7) (xq 2)) (some 8) (xq 3)) (some 9) (xq 4)) (some 10) (xq 5)) (some 11) (xq 6)) (some 12) (xq 7)) (some 13) (xq 8)) (some 14) (xq 9)) (some 15) (xq 10)) (some 16) (xq 11)) (some 17) (xq 12)) (some 18) (xq 13)) (some 19) (xq 14)) (some 20) (xq 15)) (some 21) (xq 16)) (some 22) (xq 17)) (some 23) (xq 18)) (some 24) (xq 19)) (some 25) (xq 20)) (some 26) (xq 21)) (some 27) (xq 22)) (some 28) (xq 23)) _
  simp only [putsL, Nat.reduceAdd, List.drop_succ_cons, List.drop_zero, List.drop_nil, Act.put, List.setIfInBounds_toArray, List.set_cons_succ, List.set_cons_zero]
  try simp only [f0, f1, f2, f3, f4, f5, f6, f7, f8, f9, f10, f11, f12, f13, f14, f15, f16, f17, f18, f19, f20, f21, f22, f23]
  clear f0 f1 f2 f3 f4 f5 f6 f7 f8 f9 f10 f11 f12 f13 f14 f15 f16 f17 f18 f19 f20 f21 f22 f23
  clear holdq hapq
  go_wp2
  go_ret
  exact ⟨rfl, (Ext.refl _).drew.trans herq⟩

set_option maxRecDepth 100000 in
set_option maxHeartbeats 3200000 in
theorem svHides_any (h : SvR w v pp pc P wp wcap wide hp hc high np nc T pls tks bs fw) (hT : SvT P wide high T) {i k : Nat} {x y : StandV} (hx : T[i]? = some x) (hy : T[k]? = some y) :
    Calls Tryz.prog 123 #[.pointer (some ⟨v, 0, none⟩), .int .i64 i, .int .i64 k] w fun e w' => e = .returned (.bool (hidesS P wide high x y)) ∧ Ext w w' := by
  have hv : hidesS P wide high x y = ((decide (x.row < y.row) && nearS wide x y) && decide (topS P high y ≤ topS P high x)) := rfl
  have hnr := fun u (hu : Ext w u) => near_any wp wcap hp high.length hc wide x y u (h.wid.ext hu) hT.ok.wo (hT.ok.on x (List.mem_of_getElem? hx)) (hT.ok.on y (List.mem_of_getElem? hy))
  have ht1 := fun u (hu : Ext w u) => svTop_any (h.more hu) hT hx
  have ht2 := fun u (hu : Ext w u) => svTop_any (h.more hu) hT hy
  rw [hv]
  clear hv
  have hi := (List.getElem?_eq_some_iff.1 hx).1
  have hk := (List.getElem?_eq_some_iff.1 hy).1
  rcases (slcC h.now).2 with ⟨-, e⟩ | ⟨b, off, rfl, hb, hEl⟩
  · rw [e] at hx; cases hx
  obtain ⟨c0, c1, c2⟩ := hEl.sta hx
  obtain ⟨d0, d1, d2⟩ := hEl.sta hy
  have hB := h.blk
  have hiI : (i : Int) < T.length := by omega
  have hkI : (k : Int) < T.length := by omega
  generalize nearS wide x y = nn at *
  generalize topS P high x = tx at *
  generalize topS P high y = ty at *
  replace hnr := Lib.hid hnr
  replace ht1 := Lib.hid ht1
  replace ht2 := Lib.hid ht2
  clear h hT hx hy hEl
  go_enter Tryz.func123, Tryz.ntmps123
  go_upto_region 1 with fail
  go_cut [7, 8] (fun s7 s8 w' => ∃ g g' : Nat, g ≠ g' ∧ s7 = .pointer (some ⟨g, 0, none⟩) ∧ s8 = .pointer (some ⟨g', 0, none⟩) ∧ Blk w' g 46 #[.string x.name, .int .i64 x.row, .int .i64 x.place] ∧ Blk w' g' 46 #[.string y.name, .int .i64 y.row, .int .i64 y.place] ∧ Ext w w')
  case first =>
    refine wp_region_forks [0, 1, 2, 3, 4, 5, 6, 7, 8, 9, 10, 11, 12, 13] 4 (fun w' => Blk w' v 77 #[.slice pp P.length pc, .slice wp wide.length wcap, .slice hp high.length hc, pls, tks, .slice (some ⟨b, off, none⟩) T.length nc, bs, .int .i64 fw] ∧ Ext w w') Ext (by kernel_rfl) (by kernel_rfl) Ext.refl (fun _ _ _ => Ext.trans) (fun _ _ h he => ⟨h.1.ext he, h.2.trans he⟩) ⟨(by (repeat (with_reducible first | assumption | exact Blk.new' (by simp) | refine Blk.drew ?_ | refine Blk.alloc ?_ _ | exact Ext.refl _ | refine Ext.drew ?_ | refine Ext.alloc ?_ _))), (by (repeat (with_reducible first | assumption | exact Blk.new' (by simp) | refine Blk.drew ?_ | refine Blk.alloc ?_ _ | exact Ext.refl _ | refine Ext.drew ?_ | refine Ext.alloc ?_ _)))⟩ ?_
    repeat
      first
        | (refine q_quiet rfl rfl (fun _ _ _ _ h => h) ?_
           apply Exists.intro
           refine ⟨fun w' hw' => ?_, ?_⟩
           · obtain ⟨hH0, hH1⟩ := hw'
             obtain ⟨y1, -⟩ := hH0.walk; obtain ⟨hc9, hff, hz9⟩ := hH1.walk; have v0 := (hc9 _ _ hb).trans c0; have v1 := (hc9 _ _ hb).trans c1; have v2 := (hc9 _ _ hb).trans c2; have u0 := (hc9 _ _ hb).trans d0; have u1 := (hc9 _ _ hb).trans d1; have u2 := (hc9 _ _ hb).trans d2
             skip
             simp [go_sem, quietTo, Ext.refl, ↓IntWalk.iteOmega, y1, v0, v1, v2, u0, u1, u2, hiI, hkI]
             first
               | rfl
           simp only [Act.put, List.setIfInBounds_toArray, List.set_cons_succ, List.set_cons_zero])
        | (refine q_skip rfl rfl (fun _ _ _ _ h => h) ?_
           simp only [Act.put, List.setIfInBounds_toArray, List.set_cons_succ, List.set_cons_zero])
    refine q_nil ?_
    try simp only [List.length_cons, List.length_nil, Nat.reduceAdd, Array.replicate_succ, Array.replicate_zero, List.push_toArray, List.nil_append, List.cons_append, List.setIfInBounds_toArray, List.set_cons_succ, List.set_cons_zero]
    refine ww_two (i := 14) (j := 15) rfl rfl rfl rfl (by kernel_rfl) ?_ ?_
    · intro w1 e1 h1 K hK
      go_wp2_with fail
      refine ⟨⟨(h1.1).alloc _, (h1.2).alloc _⟩, ?_⟩
      simp only [List.setIfInBounds_toArray, List.set_cons_succ, List.set_cons_zero]
      refine ww_one (i := 15) rfl rfl (by kernel_rfl) ?_
      intro w2 e2 h2 K2 hK2
      have c1 := Blk.ext (Blk.new' (w := w1) (t := 46) (cs := #[.string ⟨#[]⟩, .int .i64 0, .int .i64 0]) rfl) e2
      have l1 := c1.lt
      go_wp2_with fail
      refine ⟨⟨(h2.1).alloc _, (h2.2).alloc _⟩, ?_⟩
      simp only [List.setIfInBounds_toArray, List.set_cons_succ, List.set_cons_zero]
      have hl0 := h1.1.lt
      refine ww_one (i := 16) rfl rfl (by kernel_rfl) ?_
      intro w3 e3 h3 K3 hK3
      have d0 := Blk.ext (Blk.alloc c1 _) e3
      have d1 := Blk.ext (Blk.new' (w := w2) (t := 46) (cs := #[.string ⟨#[]⟩, .int .i64 0, .int .i64 0]) rfl) e3
      have ne : w1.heap.size ≠ w2.heap.size := by omega
      obtain ⟨p1, p2⟩ := d0.walk
      go_wp2_with fail
      have hz1 := h1.2.size
      have hz2 := h2.2.size
      refine ⟨⟨((((h3.1).far (by simp; omega) _).far (by simp; omega) _).far (by simp; omega) _), (Ext.setCell (Ext.setCell (Ext.setCell h3.2 (by simp; omega) _) (by simp; omega) _) (by simp; omega) _)⟩, ?_⟩
      simp only [List.setIfInBounds_toArray, List.set_cons_succ, List.set_cons_zero]
      refine ww_one (i := 17) rfl rfl (by kernel_rfl) ?_
      intro w4 e4 h4 K4 hK4
      have f0 := Blk.ext (((d0.set_ 0 _).set_ 1 _).set_ 2 _) e4
      have f1 := Blk.ext (((d1.far (p := ⟨_, 0, none⟩) (by simp; omega) _).far (p := ⟨_, 1, none⟩) (by simp; omega) _).far (p := ⟨_, 2, none⟩) (by simp; omega) _) e4
      obtain ⟨q1, q2⟩ := f1.walk
      go_wp2_with fail
      refine ⟨⟨((((h4.1).far (by simp; omega) _).far (by simp; omega) _).far (by simp; omega) _), (Ext.setCell (Ext.setCell (Ext.setCell h4.2 (by simp; omega) _) (by simp; omega) _) (by simp; omega) _)⟩, ?_⟩
      simp only [List.setIfInBounds_toArray, List.set_cons_succ, List.set_cons_zero]
      refine ww_done (by kernel_rfl) fun w5 e5 h5 => ?_
      have g1 := Blk.ext (((f1.set_ 0 _).set_ 1 _).set_ 2 _) e5
      have g0 := Blk.ext (((f0.far (p := ⟨_, 0, none⟩) (by simp; omega) _).far (p := ⟨_, 1, none⟩) (by simp; omega) _).far (p := ⟨_, 2, none⟩) (by simp; omega) _) e5
      dsimp only [Exit.then]
      go_step
      go_meet
      exact ⟨_, _, by omega, rfl, rfl, g0, g1, h5.2⟩
    · intro w1 e1 h1 K hK
      go_wp2_with fail
      refine ⟨⟨(h1.1).alloc _, (h1.2).alloc _⟩, ?_⟩
      simp only [List.setIfInBounds_toArray, List.set_cons_succ, List.set_cons_zero]
      refine ww_one (i := 14) rfl rfl (by kernel_rfl) ?_
      intro w2 e2 h2 K2 hK2
      have c1 := Blk.ext (Blk.new' (w := w1) (t := 46) (cs := #[.string ⟨#[]⟩, .int .i64 0, .int .i64 0]) rfl) e2
      have l1 := c1.lt
      go_wp2_with fail
      refine ⟨⟨(h2.1).alloc _, (h2.2).alloc _⟩, ?_⟩
      simp only [List.setIfInBounds_toArray, List.set_cons_succ, List.set_cons_zero]
      have hl0 := h1.1.lt
      refine ww_one (i := 16) rfl rfl (by kernel_rfl) ?_
      intro w3 e3 h3 K3 hK3
      have d1 := Blk.ext (Blk.alloc c1 _) e3
      have d0 := Blk.ext (Blk.new' (w := w2) (t := 46) (cs := #[.string ⟨#[]⟩, .int .i64 0, .int .i64 0]) rfl) e3
      have ne : w1.heap.size ≠ w2.heap.size := by omega
      obtain ⟨p1, p2⟩ := d0.walk
      go_wp2_with fail
      have hz1 := h1.2.size
      have hz2 := h2.2.size
      refine ⟨⟨((((h3.1).far (by simp; omega) _).far (by simp; omega) _).far (by simp; omega) _), (Ext.setCell (Ext.setCell (Ext.setCell h3.2 (by simp; omega) _) (by simp; omega) _) (by simp; omega) _)⟩, ?_⟩
      simp only [List.setIfInBounds_toArray, List.set_cons_succ, List.set_cons_zero]
      refine ww_one (i := 17) rfl rfl (by kernel_rfl) ?_
      intro w4 e4 h4 K4 hK4
      have f0 := Blk.ext (((d0.set_ 0 _).set_ 1 _).set_ 2 _) e4
      have f1 := Blk.ext (((d1.far (p := ⟨_, 0, none⟩) (by simp; omega) _).far (p := ⟨_, 1, none⟩) (by simp; omega) _).far (p := ⟨_, 2, none⟩) (by simp; omega) _) e4
      obtain ⟨q1, q2⟩ := f1.walk
      go_wp2_with fail
      refine ⟨⟨((((h4.1).far (by simp; omega) _).far (by simp; omega) _).far (by simp; omega) _), (Ext.setCell (Ext.setCell (Ext.setCell h4.2 (by simp; omega) _) (by simp; omega) _) (by simp; omega) _)⟩, ?_⟩
      simp only [List.setIfInBounds_toArray, List.set_cons_succ, List.set_cons_zero]
      refine ww_done (by kernel_rfl) fun w5 e5 h5 => ?_
      have g1 := Blk.ext (((f1.set_ 0 _).set_ 1 _).set_ 2 _) e5
      have g0 := Blk.ext (((f0.far (p := ⟨_, 0, none⟩) (by simp; omega) _).far (p := ⟨_, 1, none⟩) (by simp; omega) _).far (p := ⟨_, 2, none⟩) (by simp; omega) _) e5
      dsimp only [Exit.then]
      go_step
      go_meet
      exact ⟨_, _, by omega, rfl, rfl, g0, g1, h5.2⟩
  case rest =>
    obtain ⟨g, g', hgg, rfl, rfl, hg, hg', he⟩ := hcut
    generalize wc = W at *
    go_upto_region 2 with fail
    by_cases hlt : x.row < y.row
    · cases nn
      · skip
        refine wp_region_facts [] [([], false, false), ([0], false, false), ([], false, false), ([2], false, false), ([0, 1, 2, 3], false, false), ([0, 1, 2, 3, 4], false, false), ([0, 1, 2, 3, 4, 5], false, false), ([0, 1, 2, 3, 4, 5, 6], false, false), ([0, 1, 2, 3, 4, 5, 6, 7], false, false), ([0, 1, 2, 3, 4, 5, 6, 7, 8], false, false), ([0, 1, 2, 3, 4, 5], false, false), ([0, 1, 2, 3, 4, 5], false, false), ([0, 1, 2, 3, 4, 5, 6, 7, 8, 9, 10, 11], false, false), ([0, 1, 2, 3, 4, 5, 6, 7, 8, 9, 10, 11, 12], false, false), ([0, 1, 2, 3, 4, 5, 6, 7, 8, 9, 10, 11, 12, 13], false, false), ([0, 1, 2, 3, 4, 5, 6, 7, 8, 9, 10, 11, 12, 13, 14], false, false), ([0, 1, 2, 3, 4, 5, 6, 7, 8, 9, 10, 11, 12, 13, 14], false, false), ([0, 1, 2, 3, 4, 5, 6, 7, 8, 9, 10, 11, 12, 13, 14, 15, 16], false, false), ([0, 1, 2, 3, 4, 5, 6, 7, 8, 9, 10, 11, 12, 13, 14], false, false), ([0, 1, 2, 3, 4, 5, 6, 7, 8, 9, 10, 11, 12, 13, 14], false, false), ([0, 1, 2, 3, 4, 5, 6, 7, 8, 9, 10, 11, 12, 13, 14, 18, 19], false, false), ([0, 1, 2, 3, 4, 5, 6, 7, 8, 9, 10, 11, 12, 13, 14, 15, 16, 17, 18, 19, 20], false, false), ([0, 1, 2, 3, 4, 5, 6, 7, 8, 9, 10, 11, 12, 13, 14, 15, 16, 17, 18, 19, 20, 21], false, false)] (Ext) Ext (fun _ => True) (by kernel_rfl) (by kernel_rfl) Ext.refl (fun _ _ _ => Ext.trans) (fun _ _ h => h) (fun _ _ h => h.size) (fun _ _ h _ => h) trivial ?_
        dsimp only [List.length_cons, List.length_nil, List.drop_succ_cons, List.drop_zero, List.drop_nil]
        refine fac_quiet 0 rfl rfl rfl (fun _ _ h _ => h) rfl rfl ?_
        apply Exists.intro
        refine ⟨fun sv w' hw' hfa => ?_, ?_⟩
        · refine ⟨rfl, ?_⟩
          simp only [putsL]
          change quietTo _ _ _ _ (Sem.run _ (execOp (Act.eval _) _) _)
          try simp only [Act.put, List.setIfInBounds_toArray, List.set_cons_succ, List.set_cons_zero]
          simp [go_sem, quietTo, Ext.refl]
          all_goals first
            | rfl
        refine fac_quiet 1 rfl rfl rfl (fun _ _ h _ => h) rfl rfl ?_
        apply Exists.intro
        refine ⟨fun sv w' hw' hfa => ?_, ?_⟩
        · obtain ⟨f0, -⟩ := hfa
          replace f0 : sv 0 = _ := f0
          try dsimp only at f0
          have hk0 := (Ext.refl W).drew.trans hw'; have hk9 := he.trans hk0; obtain ⟨y1, -⟩ := (hB.ext hk9).walk; obtain ⟨p1, -⟩ := (hg.ext hk0).walk; obtain ⟨q1, -⟩ := (hg'.ext hk0).walk
          refine ⟨rfl, ?_⟩
          simp only [putsL]
          change quietTo _ _ _ _ (Sem.run _ (execOp (Act.eval (Act.put _ (some 23) (sv 0))) _) _)
          try simp only [Act.put, List.setIfInBounds_toArray, List.set_cons_succ, List.set_cons_zero]
          simp [go_sem, quietTo, Ext.refl, ↓IntWalk.iteOmega, f0, p1]
          all_goals try simp (disch := omega) only [IntWalk.i64_in]
          all_goals first
            | rfl
        refine fac_quiet 2 rfl rfl rfl (fun _ _ h _ => h) rfl rfl ?_
        apply Exists.intro
        refine ⟨fun sv w' hw' hfa => ?_, ?_⟩
        · refine ⟨rfl, ?_⟩
          simp only [putsL]
          change quietTo _ _ _ _ (Sem.run _ (execOp (Act.eval _) _) _)
          try simp only [Act.put, List.setIfInBounds_toArray, List.set_cons_succ, List.set_cons_zero]
          simp [go_sem, quietTo, Ext.refl]
          all_goals first
            | rfl
        refine fac_quiet 3 rfl rfl rfl (fun _ _ h _ => h) rfl rfl ?_
        apply Exists.intro
        refine ⟨fun sv w' hw' hfa => ?_, ?_⟩
        · obtain ⟨f2, -⟩ := hfa
          replace f2 : sv 2 = _ := f2
          try dsimp only at f2
          have hk0 := (Ext.refl W).drew.trans hw'; have hk9 := he.trans hk0; obtain ⟨y1, -⟩ := (hB.ext hk9).walk; obtain ⟨p1, -⟩ := (hg.ext hk0).walk; obtain ⟨q1, -⟩ := (hg'.ext hk0).walk
          refine ⟨rfl, ?_⟩
          simp only [putsL]
          change quietTo _ _ _ _ (Sem.run _ (execOp (Act.eval (Act.put _ (some 25) (sv 2))) _) _)
          try simp only [Act.put, List.setIfInBounds_toArray, List.set_cons_succ, List.set_cons_zero]
          simp [go_sem, quietTo, Ext.refl, ↓IntWalk.iteOmega, f2, q1]
          all_goals try simp (disch := omega) only [IntWalk.i64_in]
          all_goals first
            | rfl
        refine fac_quiet 4 rfl rfl rfl (fun _ _ h _ => h) rfl rfl ?_
        apply Exists.intro
        refine ⟨fun sv w' hw' hfa => ?_, ?_⟩
        · obtain ⟨_, f1, _, f3, -⟩ := hfa
          replace f1 : sv 1 = _ := f1
          try dsimp only at f1
          replace f3 : sv 3 = _ := f3
          try dsimp only at f3
          have hk0 := (Ext.refl W).drew.trans hw'; have hk9 := he.trans hk0; obtain ⟨y1, -⟩ := (hB.ext hk9).walk; obtain ⟨p1, -⟩ := (hg.ext hk0).walk; obtain ⟨q1, -⟩ := (hg'.ext hk0).walk
          refine ⟨rfl, ?_⟩
          simp only [putsL]
          change quietTo _ _ _ _ (Sem.run _ (execOp (Act.eval (Act.put (Act.put (Act.put (Act.put _ (some 26) (sv 3)) (some 25) (sv 2)) (some 24) (sv 1)) (some 23) (sv 0))) _) _)
          try simp only [Act.put, List.setIfInBounds_toArray, List.set_cons_succ, List.set_cons_zero]
          simp [go_sem, quietTo, Ext.refl, ↓IntWalk.iteOmega, f1, f3, hlt]
          all_goals try simp (disch := omega) only [IntWalk.i64_in]
          all_goals first
            | rfl
        refine fac_quiet 5 rfl rfl rfl (fun _ _ h _ => h) rfl rfl ?_
        apply Exists.intro
        refine ⟨fun sv w' hw' hfa => ?_, ?_⟩
        · obtain ⟨_, _, _, _, f4, -⟩ := hfa
          replace f4 : sv 4 = _ := f4
          try dsimp only at f4
          refine ⟨rfl, ?_⟩
          simp only [putsL]
          change quietTo _ _ _ _ (Sem.run _ (execOp (Act.eval (Act.put (Act.put (Act.put (Act.put (Act.put _ (some 27) (sv 4)) (some 26) (sv 3)) (some 25) (sv 2)) (some 24) (sv 1)) (some 23) (sv 0))) _) _)
          try simp only [Act.put, List.setIfInBounds_toArray, List.set_cons_succ, List.set_cons_zero]
          simp [go_sem, quietTo, Ext.refl, f4]
          all_goals first
            | rfl
        refine fac_quiet 6 rfl rfl rfl (fun _ _ h _ => h) rfl rfl ?_
        apply Exists.intro
        refine ⟨fun sv w' hw' hfa => ?_, ?_⟩
        · obtain ⟨_, _, _, _, _, f5, -⟩ := hfa
          replace f5 : sv 5 = _ := f5
          try dsimp only at f5
          refine ⟨by simp [Region.wanted, yielded, putsL, Act.put, f5], ?_⟩
          simp only [putsL]
          change quietTo _ _ _ _ (Sem.run _ (execOp (Act.eval (Act.put (Act.put (Act.put (Act.put (Act.put (Act.put _ (some 28) (sv 5)) (some 27) (sv 4)) (some 26) (sv 3)) (some 25) (sv 2)) (some 24) (sv 1)) (some 23) (sv 0))) _) _)
          try simp only [Act.put, List.setIfInBounds_toArray, List.set_cons_succ, List.set_cons_zero]
          simp [go_sem, quietTo, Ext.refl, f5]
          all_goals first
            | rfl
        refine fac_quiet 7 rfl rfl rfl (fun _ _ h _ => h) rfl rfl ?_
        apply Exists.intro
        refine ⟨fun sv w' hw' hfa => ?_, ?_⟩
        · obtain ⟨_, _, _, _, _, f5, f6, -⟩ := hfa
          replace f5 : sv 5 = _ := f5
          try dsimp only at f5
          replace f6 : sv 6 = _ := f6
          try dsimp only at f6
          refine ⟨by simp [Region.wanted, yielded, putsL, Act.put, f5, f6], ?_⟩
          simp only [putsL]
          change quietTo _ _ _ _ (Sem.run _ (execOp (Act.eval (Act.put (Act.put (Act.put (Act.put (Act.put (Act.put (Act.put _ (some 29) (sv 6)) (some 28) (sv 5)) (some 27) (sv 4)) (some 26) (sv 3)) (some 25) (sv 2)) (some 24) (sv 1)) (some 23) (sv 0))) _) _)
          try simp only [Act.put, List.setIfInBounds_toArray, List.set_cons_succ, List.set_cons_zero]
          simp [go_sem, quietTo, Ext.refl, f5, f6]
          all_goals first
            | rfl
        refine fac_quiet 8 rfl rfl rfl (fun _ _ h _ => h) rfl rfl ?_
        apply Exists.intro
        refine ⟨fun sv w' hw' hfa => ?_, ?_⟩
        · obtain ⟨_, _, _, _, _, f5, _, f7, -⟩ := hfa
          replace f5 : sv 5 = _ := f5
          try dsimp only at f5
          replace f7 : sv 7 = _ := f7
          try dsimp only at f7
          refine ⟨by simp [Region.wanted, yielded, putsL, Act.put, f5, f7], ?_⟩
          simp only [putsL]
          change quietTo _ _ _ _ (Sem.run _ (execOp (Act.eval (Act.put (Act.put (Act.put (Act.put (Act.put (Act.put (Act.put (Act.put _ (some 30) (sv 7)) (some 29) (sv 6)) (some 28) (sv 5)) (some 27) (sv 4)) (some 26) (sv 3)) (some 25) (sv 2)) (some 24) (sv 1)) (some 23) (sv 0))) _) _)
          try simp only [Act.put, List.setIfInBounds_toArray, List.set_cons_succ, List.set_cons_zero]
          simp [go_sem, quietTo, Ext.refl, f5, f7]
          all_goals first
            | rfl
        refine fac_quiet 9 rfl rfl rfl (fun _ _ h _ => h) rfl rfl ?_
        apply Exists.intro
        refine ⟨fun sv w' hw' hfa => ?_, ?_⟩
        · obtain ⟨_, _, _, _, _, f5, _, _, f8, -⟩ := hfa
          replace f5 : sv 5 = _ := f5
          try dsimp only at f5
          replace f8 : sv 8 = _ := f8
          try dsimp only at f8
          have hk0 := (Ext.refl W).drew.trans hw'; have hk9 := he.trans hk0; obtain ⟨y1, -⟩ := (hB.ext hk9).walk; obtain ⟨p1, -⟩ := (hg.ext hk0).walk; obtain ⟨q1, -⟩ := (hg'.ext hk0).walk
          refine ⟨by simp [Region.wanted, yielded, putsL, Act.put, f5, f8], ?_⟩
          simp only [putsL]
          change quietTo _ _ _ _ (Sem.run _ (execOp (Act.eval (Act.put (Act.put (Act.put (Act.put (Act.put (Act.put (Act.put (Act.put (Act.put _ (some 31) (sv 8)) (some 30) (sv 7)) (some 29) (sv 6)) (some 28) (sv 5)) (some 27) (sv 4)) (some 26) (sv 3)) (some 25) (sv 2)) (some 24) (sv 1)) (some 23) (sv 0))) _) _)
          try simp only [Act.put, List.setIfInBounds_toArray, List.set_cons_succ, List.set_cons_zero]
          simp [go_sem, quietTo, Ext.refl, ↓IntWalk.iteOmega, f5, f8, y1]
          all_goals try simp (disch := omega) only [IntWalk.i64_in]
          all_goals first
            | rfl
        refine fac_quiet 10 rfl rfl rfl (fun _ _ h _ => h) rfl rfl ?_
        apply Exists.intro
        refine ⟨fun sv w' hw' hfa => ?_, ?_⟩
        · obtain ⟨_, _, _, _, _, f5, -⟩ := hfa
          replace f5 : sv 5 = _ := f5
          try dsimp only at f5
          have hk0 := (Ext.refl W).drew.trans hw'; have hk9 := he.trans hk0; obtain ⟨y1, -⟩ := (hB.ext hk9).walk; obtain ⟨p1, -⟩ := (hg.ext hk0).walk; obtain ⟨q1, -⟩ := (hg'.ext hk0).walk
          refine ⟨by simp [Region.wanted, yielded, putsL, Act.put, f5], ?_⟩
          simp only [putsL]
          change quietTo _ _ _ _ (Sem.run _ (execOp (Act.eval (Act.put (Act.put (Act.put (Act.put (Act.put (Act.put _ (some 28) (sv 5)) (some 27) (sv 4)) (some 26) (sv 3)) (some 25) (sv 2)) (some 24) (sv 1)) (some 23) (sv 0))) _) _)
          try simp only [Act.put, List.setIfInBounds_toArray, List.set_cons_succ, List.set_cons_zero]
          simp [go_sem, quietTo, Ext.refl, ↓IntWalk.iteOmega, f5, p1]
          all_goals try simp (disch := omega) only [IntWalk.i64_in]
          all_goals first
            | rfl
        refine fac_quiet 11 rfl rfl rfl (fun _ _ h _ => h) rfl rfl ?_
        apply Exists.intro
        refine ⟨fun sv w' hw' hfa => ?_, ?_⟩
        · obtain ⟨_, _, _, _, _, f5, -⟩ := hfa
          replace f5 : sv 5 = _ := f5
          try dsimp only at f5
          have hk0 := (Ext.refl W).drew.trans hw'; have hk9 := he.trans hk0; obtain ⟨y1, -⟩ := (hB.ext hk9).walk; obtain ⟨p1, -⟩ := (hg.ext hk0).walk; obtain ⟨q1, -⟩ := (hg'.ext hk0).walk
          refine ⟨by simp [Region.wanted, yielded, putsL, Act.put, f5], ?_⟩
          simp only [putsL]
          change quietTo _ _ _ _ (Sem.run _ (execOp (Act.eval (Act.put (Act.put (Act.put (Act.put (Act.put (Act.put _ (some 28) (sv 5)) (some 27) (sv 4)) (some 26) (sv 3)) (some 25) (sv 2)) (some 24) (sv 1)) (some 23) (sv 0))) _) _)
          try simp only [Act.put, List.setIfInBounds_toArray, List.set_cons_succ, List.set_cons_zero]
          simp [go_sem, quietTo, Ext.refl, ↓IntWalk.iteOmega, f5, q1]
          all_goals try simp (disch := omega) only [IntWalk.i64_in]
          all_goals first
            | rfl
        refine fac_quiet 12 rfl rfl rfl (fun _ _ h _ => h) rfl rfl ?_
        apply Exists.intro
        refine ⟨fun sv w' hw' hfa => ?_, ?_⟩
        · obtain ⟨f0, f1, f2, f3, f4, f5, f6, f7, f8, f9, f10, f11, -⟩ := hfa
          replace f0 : sv 0 = _ := f0
          try dsimp only at f0
          replace f1 : sv 1 = _ := f1
          try dsimp only at f1
          replace f2 : sv 2 = _ := f2
          try dsimp only at f2
          replace f3 : sv 3 = _ := f3
          try dsimp only at f3
          replace f4 : sv 4 = _ := f4
          try dsimp only at f4
          replace f5 : sv 5 = _ := f5
          try dsimp only at f5
          replace f6 : sv 6 = _ := f6
          try dsimp only at f6
          replace f7 : sv 7 = _ := f7
          try dsimp only at f7
          replace f8 : sv 8 = _ := f8
          try dsimp only at f8
          replace f9 : sv 9 = _ := f9
          try dsimp only at f9
          replace f10 : sv 10 = _ := f10
          try dsimp only at f10
          replace f11 : sv 11 = _ := f11
          try dsimp only at f11
          have hk0 := (Ext.refl W).drew.trans hw'; have hk9 := he.trans hk0; obtain ⟨y1, -⟩ := (hB.ext hk9).walk; obtain ⟨p1, -⟩ := (hg.ext hk0).walk; obtain ⟨q1, -⟩ := (hg'.ext hk0).walk
          refine ⟨by simp [Region.wanted, yielded, putsL, Act.put, f5, f9, f10, f11], ?_⟩
          simp only [putsL]
          change quietTo _ _ _ _ (Sem.run _ (execOp (Act.eval (Act.put (Act.put (Act.put (Act.put (Act.put (Act.put (Act.put (Act.put (Act.put (Act.put (Act.put (Act.put _ (some 34) (sv 11)) (some 33) (sv 10)) (some 32) (sv 9)) (some 31) (sv 8)) (some 30) (sv 7)) (some 29) (sv 6)) (some 28) (sv 5)) (some 27) (sv 4)) (some 26) (sv 3)) (some 25) (sv 2)) (some 24) (sv 1)) (some 23) (sv 0))) _) _)
          try simp only [Act.put, List.setIfInBounds_toArray, List.set_cons_succ, List.set_cons_zero]
          simp [go_sem, quietTo, Ext.refl, ↓IntWalk.iteOmega, f5, f9, f10, f11]
          all_goals try simp (disch := omega) only [IntWalk.i64_in]
          all_goals first
            | rfl
            | (exact hnr.out _ hk9)
        refine fac_quiet 13 rfl rfl rfl (fun _ _ h _ => h) rfl rfl ?_
        apply Exists.intro
        refine ⟨fun sv w' hw' hfa => ?_, ?_⟩
        · obtain ⟨_, _, _, _, _, f5, _, _, _, _, _, _, f12, -⟩ := hfa
          replace f5 : sv 5 = _ := f5
          try dsimp only at f5
          replace f12 : sv 12 = _ := f12
          try dsimp only at f12
          refine ⟨rfl, ?_⟩
          simp only [putsL]
          change quietTo _ _ _ _ (Sem.run _ (execOp (Act.eval (Act.put (Act.put (Act.put (Act.put (Act.put (Act.put (Act.put (Act.put (Act.put (Act.put (Act.put (Act.put (Act.put _ (some 35) (sv 12)) (some 34) (sv 11)) (some 33) (sv 10)) (some 32) (sv 9)) (some 31) (sv 8)) (some 30) (sv 7)) (some 29) (sv 6)) (some 28) (sv 5)) (some 27) (sv 4)) (some 26) (sv 3)) (some 25) (sv 2)) (some 24) (sv 1)) (some 23) (sv 0))) _) _)
          try simp only [Act.put, List.setIfInBounds_toArray, List.set_cons_succ, List.set_cons_zero]
          simp [go_sem, quietTo, Ext.refl, ↓IntWalk.iteOmega, f5, f12]
          all_goals try simp (disch := omega) only [IntWalk.i64_in]
          all_goals first
            | rfl
        refine fac_quiet 14 rfl rfl rfl (fun _ _ h _ => h) rfl rfl ?_
        apply Exists.intro
        refine ⟨fun sv w' hw' hfa => ?_, ?_⟩
        · obtain ⟨_, _, _, _, _, _, _, _, _, _, _, _, _, f13, -⟩ := hfa
          replace f13 : sv 13 = _ := f13
          try dsimp only at f13
          refine ⟨rfl, ?_⟩
          simp only [putsL]
          change quietTo _ _ _ _ (Sem.run _ (execOp (Act.eval (Act.put (Act.put (Act.put (Act.put (Act.put (Act.put (Act.put (Act.put (Act.put (Act.put (Act.put (Act.put (Act.put (Act.put _ (some 36) (sv 13)) (some 35) (sv 12)) (some 34) (sv 11)) (some 33) (sv 10)) (some 32) (sv 9)) (some 31) (sv 8)) (some 30) (sv 7)) (some 29) (sv 6)) (some 28) (sv 5)) (some 27) (sv 4)) (some 26) (sv 3)) (some 25) (sv 2)) (some 24) (sv 1)) (some 23) (sv 0))) _) _)
          try simp only [Act.put, List.setIfInBounds_toArray, List.set_cons_succ, List.set_cons_zero]
          simp [go_sem, quietTo, Ext.refl, f13]
          all_goals first
            | rfl
        refine fac_skip 15 rfl rfl rfl (fun _ _ h _ => h) Ext.refl ?_ ?_
        · intro sv w' hw' hfa
          obtain ⟨f0, f1, f2, f3, f4, f5, f6, f7, f8, f9, f10, f11, f12, f13, f14, -⟩ := hfa
          replace f0 : sv 0 = _ := f0
          try dsimp only at f0
          replace f1 : sv 1 = _ := f1
          try dsimp only at f1
          replace f2 : sv 2 = _ := f2
          try dsimp only at f2
          replace f3 : sv 3 = _ := f3
          try dsimp only at f3
          replace f4 : sv 4 = _ := f4
          try dsimp only at f4
          replace f5 : sv 5 = _ := f5
          try dsimp only at f5
          replace f6 : sv 6 = _ := f6
          try dsimp only at f6
          replace f7 : sv 7 = _ := f7
          try dsimp only at f7
          replace f8 : sv 8 = _ := f8
          try dsimp only at f8
          replace f9 : sv 9 = _ := f9
          try dsimp only at f9
          replace f10 : sv 10 = _ := f10
          try dsimp only at f10
          replace f11 : sv 11 = _ := f11
          try dsimp only at f11
          replace f12 : sv 12 = _ := f12
          try dsimp only at f12
          replace f13 : sv 13 = _ := f13
          try dsimp only at f13
          replace f14 : sv 14 = _ := f14
          try dsimp only at f14
          simp [Region.wanted, yielded, putsL, Act.put, f14]
        refine fac_skip 16 rfl rfl rfl (fun _ _ h _ => h) Ext.refl ?_ ?_
        · intro sv w' hw' hfa
          obtain ⟨f0, f1, f2, f3, f4, f5, f6, f7, f8, f9, f10, f11, f12, f13, f14, -⟩ := hfa
          replace f0 : sv 0 = _ := f0
          try dsimp only at f0
          replace f1 : sv 1 = _ := f1
          try dsimp only at f1
          replace f2 : sv 2 = _ := f2
          try dsimp only at f2
          replace f3 : sv 3 = _ := f3
          try dsimp only at f3
          replace f4 : sv 4 = _ := f4
          try dsimp only at f4
          replace f5 : sv 5 = _ := f5
          try dsimp only at f5
          replace f6 : sv 6 = _ := f6
          try dsimp only at f6
          replace f7 : sv 7 = _ := f7
          try dsimp only at f7
          replace f8 : sv 8 = _ := f8
          try dsimp only at f8
          replace f9 : sv 9 = _ := f9
          try dsimp only at f9
          replace f10 : sv 10 = _ := f10
          try dsimp only at f10
          replace f11 : sv 11 = _ := f11
          try dsimp only at f11
          replace f12 : sv 12 = _ := f12
          try dsimp only at f12
          replace f13 : sv 13 = _ := f13
          try dsimp only at f13
          replace f14 : sv 14 = _ := f14
          try dsimp only at f14
          simp [Region.wanted, yielded, putsL, Act.put, f14]
        refine fac_skip 17 rfl rfl rfl (fun _ _ h _ => h) Ext.refl ?_ ?_
        · intro sv w' hw' hfa
          obtain ⟨f0, f1, f2, f3, f4, f5, f6, f7, f8, f9, f10, f11, f12, f13, f14, f15, f16, -⟩ := hfa
          replace f0 : sv 0 = _ := f0
          try dsimp only at f0
          replace f1 : sv 1 = _ := f1
          try dsimp only at f1
          replace f2 : sv 2 = _ := f2
          try dsimp only at f2
          replace f3 : sv 3 = _ := f3
          try dsimp only at f3
          replace f4 : sv 4 = _ := f4
          try dsimp only at f4
          replace f5 : sv 5 = _ := f5
          try dsimp only at f5
          replace f6 : sv 6 = _ := f6
          try dsimp only at f6
          replace f7 : sv 7 = _ := f7
          try dsimp only at f7
          replace f8 : sv 8 = _ := f8
          try dsimp only at f8
          replace f9 : sv 9 = _ := f9
          try dsimp only at f9
          replace f10 : sv 10 = _ := f10
          try dsimp only at f10
          replace f11 : sv 11 = _ := f11
          try dsimp only at f11
          replace f12 : sv 12 = _ := f12
          try dsimp only at f12
          replace f13 : sv 13 = _ := f13
          try dsimp only at f13
          replace f14 : sv 14 = _ := f14
          try dsimp only at f14
          replace f15 : sv 15 = _ := f15
          try dsimp only at f15
          replace f16 : sv 16 = _ := f16
          try dsimp only at f16
          simp [Region.wanted, yielded, putsL, Act.put, f14, f15, f16]
        refine fac_skip 18 rfl rfl rfl (fun _ _ h _ => h) Ext.refl ?_ ?_
        · intro sv w' hw' hfa
          obtain ⟨f0, f1, f2, f3, f4, f5, f6, f7, f8, f9, f10, f11, f12, f13, f14, -⟩ := hfa
          replace f0 : sv 0 = _ := f0
          try dsimp only at f0
          replace f1 : sv 1 = _ := f1
          try dsimp only at f1
          replace f2 : sv 2 = _ := f2
          try dsimp only at f2
          replace f3 : sv 3 = _ := f3
          try dsimp only at f3
          replace f4 : sv 4 = _ := f4
          try dsimp only at f4
          replace f5 : sv 5 = _ := f5
          try dsimp only at f5
          replace f6 : sv 6 = _ := f6
          try dsimp only at f6
          replace f7 : sv 7 = _ := f7
          try dsimp only at f7
          replace f8 : sv 8 = _ := f8
          try dsimp only at f8
          replace f9 : sv 9 = _ := f9
          try dsimp only at f9
          replace f10 : sv 10 = _ := f10
          try dsimp only at f10
          replace f11 : sv 11 = _ := f11
          try dsimp only at f11
          replace f12 : sv 12 = _ := f12
          try dsimp only at f12
          replace f13 : sv 13 = _ := f13
          try dsimp only at f13
          replace f14 : sv 14 = _ := f14
          try dsimp only at f14
          simp [Region.wanted, yielded, putsL, Act.put, f14]
        refine fac_skip 19 rfl rfl rfl (fun _ _ h _ => h) Ext.refl ?_ ?_
        · intro sv w' hw' hfa
          obtain ⟨f0, f1, f2, f3, f4, f5, f6, f7, f8, f9, f10, f11, f12, f13, f14, -⟩ := hfa
          replace f0 : sv 0 = _ := f0
          try dsimp only at f0
          replace f1 : sv 1 = _ := f1
          try dsimp only at f1
          replace f2 : sv 2 = _ := f2
          try dsimp only at f2
          replace f3 : sv 3 = _ := f3
          try dsimp only at f3
          replace f4 : sv 4 = _ := f4
          try dsimp only at f4
          replace f5 : sv 5 = _ := f5
          try dsimp only at f5
          replace f6 : sv 6 = _ := f6
          try dsimp only at f6
          replace f7 : sv 7 = _ := f7
          try dsimp only at f7
          replace f8 : sv 8 = _ := f8
          try dsimp only at f8
          replace f9 : sv 9 = _ := f9
          try dsimp only at f9
          replace f10 : sv 10 = _ := f10
          try dsimp only at f10
          replace f11 : sv 11 = _ := f11
          try dsimp only at f11
          replace f12 : sv 12 = _ := f12
          try dsimp only at f12
          replace f13 : sv 13 = _ := f13
          try dsimp only at f13
          replace f14 : sv 14 = _ := f14
          try dsimp only at f14
          simp [Region.wanted, yielded, putsL, Act.put, f14]
        refine fac_skip 20 rfl rfl rfl (fun _ _ h _ => h) Ext.refl ?_ ?_
        · intro sv w' hw' hfa
          obtain ⟨f0, f1, f2, f3, f4, f5, f6, f7, f8, f9, f10, f11, f12, f13, f14, f18, f19, -⟩ := hfa
          replace f0 : sv 0 = _ := f0
          try dsimp only at f0
          replace f1 : sv 1 = _ := f1
          try dsimp only at f1
          replace f2 : sv 2 = _ := f2
          try dsimp only at f2
          replace f3 : sv 3 = _ := f3
          try dsimp only at f3
          replace f4 : sv 4 = _ := f4
          try dsimp only at f4
          replace f5 : sv 5 = _ := f5
          try dsimp only at f5
          replace f6 : sv 6 = _ := f6
          try dsimp only at f6
          replace f7 : sv 7 = _ := f7
          try dsimp only at f7
          replace f8 : sv 8 = _ := f8
          try dsimp only at f8
          replace f9 : sv 9 = _ := f9
          try dsimp only at f9
          replace f10 : sv 10 = _ := f10
          try dsimp only at f10
          replace f11 : sv 11 = _ := f11
          try dsimp only at f11
          replace f12 : sv 12 = _ := f12
          try dsimp only at f12
          replace f13 : sv 13 = _ := f13
          try dsimp only at f13
          replace f14 : sv 14 = _ := f14
          try dsimp only at f14
          replace f18 : sv 18 = _ := f18
          try dsimp only at f18
          replace f19 : sv 19 = _ := f19
          try dsimp only at f19
          simp [Region.wanted, yielded, putsL, Act.put, f14, f18, f19]
        refine fac_skip 21 rfl rfl rfl (fun _ _ h _ => h) Ext.refl ?_ ?_
        · intro sv w' hw' hfa
          obtain ⟨f0, f1, f2, f3, f4, f5, f6, f7, f8, f9, f10, f11, f12, f13, f14, f15, f16, f17, f18, f19, f20, -⟩ := hfa
          replace f0 : sv 0 = _ := f0
          try dsimp only at f0
          replace f1 : sv 1 = _ := f1
          try dsimp only at f1
          replace f2 : sv 2 = _ := f2
          try dsimp only at f2
          replace f3 : sv 3 = _ := f3
          try dsimp only at f3
          replace f4 : sv 4 = _ := f4
          try dsimp only at f4
          replace f5 : sv 5 = _ := f5
          try dsimp only at f5
          replace f6 : sv 6 = _ := f6
          try dsimp only at f6
          replace f7 : sv 7 = _ := f7
          try dsimp only at f7
          replace f8 : sv 8 = _ := f8
          try dsimp only at f8
          replace f9 : sv 9 = _ := f9
          try dsimp only at f9
          replace f10 : sv 10 = _ := f10
          try dsimp only at f10
          replace f11 : sv 11 = _ := f11
          try dsimp only at f11
          replace f12 : sv 12 = _ := f12
          try dsimp only at f12
          replace f13 : sv 13 = _ := f13
          try dsimp only at f13
          replace f14 : sv 14 = _ := f14
          try dsimp only at f14
          replace f15 : sv 15 = _ := f15
          try dsimp only at f15
          replace f16 : sv 16 = _ := f16
          try dsimp only at f16
          replace f17 : sv 17 = _ := f17
          try dsimp only at f17
          replace f18 : sv 18 = _ := f18
          try dsimp only at f18
          replace f19 : sv 19 = _ := f19
          try dsimp only at f19
          replace f20 : sv 20 = _ := f20
          try dsimp only at f20
          simp [Region.wanted, yielded, putsL, Act.put, f14, f17, f20]
        refine fac_quiet 22 rfl rfl rfl (fun _ _ h _ => h) rfl rfl ?_
        apply Exists.intro
        refine ⟨fun sv w' hw' hfa => ?_, ?_⟩
        · obtain ⟨_, _, _, _, _, _, _, _, _, _, _, _, _, _, f14, _, _, _, _, _, _, f21, -⟩ := hfa
          replace f14 : sv 14 = _ := f14
          try dsimp only at f14
          replace f21 : sv 21 = _ := f21
          try dsimp only at f21
          refine ⟨rfl, ?_⟩
          simp only [putsL]
          change quietTo _ _ _ _ (Sem.run _ (execOp (Act.eval (Act.put (Act.put (Act.put (Act.put (Act.put (Act.put (Act.put (Act.put (Act.put (Act.put (Act.put (Act.put (Act.put (Act.put (Act.put (Act.put (Act.put (Act.put (Act.put (Act.put (Act.put (Act.put _ (some 44) (sv 21)) (some 43) (sv 20)) (some 42) (sv 19)) (some 41) (sv 18)) (some 40) (sv 17)) (some 39) (sv 16)) (some 38) (sv 15)) (some 37) (sv 14)) (some 36) (sv 13)) (some 35) (sv 12)) (some 34) (sv 11)) (some 33) (sv 10)) (some 32) (sv 9)) (some 31) (sv 8)) (some 30) (sv 7)) (some 29) (sv 6)) (some 28) (sv 5)) (some 27) (sv 4)) (some 26) (sv 3)) (some 25) (sv 2)) (some 24) (sv 1)) (some 23) (sv 0))) _) _)
          try simp only [Act.put, List.setIfInBounds_toArray, List.set_cons_succ, List.set_cons_zero]
          simp [go_sem, quietTo, Ext.refl, ↓IntWalk.iteOmega, f14, f21]
          all_goals try simp (disch := omega) only [IntWalk.i64_in]
          all_goals first
            | rfl
        refine fac_nil fun xq wrq herq hfrq hcrq holdq hapq => ?_
        obtain ⟨f0, f1, f2, f3, f4, f5, f6, f7, f8, f9, f10, f11, f12, f13, f14, f15, f16, f17, f18, f19, f20, f21, f22, -⟩ := hfrq
        replace f0 : xq 0 = _ := f0
        try dsimp only at f0
        replace f1 : xq 1 = _ := f1
        try dsimp only at f1
        replace f2 : xq 2 = _ := f2
        try dsimp only at f2
        replace f3 : xq 3 = _ := f3
        try dsimp only at f3
        replace f4 : xq 4 = _ := f4
        try dsimp only at f4
        replace f5 : xq 5 = _ := f5
        try dsimp only at f5
        replace f6 : xq 6 = _ := f6
        try dsimp only at f6
        replace f7 : xq 7 = _ := f7
        try dsimp only at f7
        replace f8 : xq 8 = _ := f8
        try dsimp only at f8
        replace f9 : xq 9 = _ := f9
        try dsimp only at f9
        replace f10 : xq 10 = _ := f10
        try dsimp only at f10
        replace f11 : xq 11 = _ := f11
        try dsimp only at f11
        replace f12 : xq 12 = _ := f12
        try dsimp only at f12
        replace f13 : xq 13 = _ := f13
        try dsimp only at f13
        replace f14 : xq 14 = _ := f14
        try dsimp only at f14
        replace f15 : xq 15 = _ := f15
        try dsimp only at f15
        replace f16 : xq 16 = _ := f16
        try dsimp only at f16
        replace f17 : xq 17 = _ := f17
        try dsimp only at f17
        replace f18 : xq 18 = _ := f18
        try dsimp only at f18
        replace f19 : xq 19 = _ := f19
        try dsimp only at f19
        replace f20 : xq 20 = _ := f20
        try dsimp only at f20
        replace f21 : xq 21 = _ := f21
        try dsimp only at f21
        replace f22 : xq 22 = _ := f22
        try dsimp only at f22
        change wpList _ _ _ _ (Act.put (Act.put (Act.put (Act.put (Act.put (Act.put (Act.put (Act.put (Act.put (Act.put (Act.put (Act.put (Act.put (Act.put (Act.put (Act.put (Act.put (Act.put (Act.put (Act.put (Act.put (Act.put (Act.put _ (some 23) (xq 0)) (some 24) (xq 1)) (some 25) (xq 2)) (some 26) (xq 3)) (some 27) (xq 4)) (some 28) (xq 5)) (some 29) (xq 6)) (some 30) (xq 7)) (some 31) (xq 8)) (some 32) (xq 9)) (some 33) (xq 10)) (some 34) (xq 11)) (some 35) (xq 12)) (some 36) (xq 13)) (some 37) (xq 14)) (some 38) (xq 15)) (some 39) (xq 16)) (some 40) (xq 17)) (some 41) (xq 18)) (some 42) (xq 19)) (some 43) (xq 20)) (some 44) (xq 21)) (some 45) (xq 22)) _
        simp only [putsL, Nat.reduceAdd, List.drop_succ_cons, List.drop_zero, List.drop_nil, Act.put, List.setIfInBounds_toArray, List.set_cons_succ, List.set_cons_zero]
        try simp only [f0, f1, f2, f3, f4, f5, f6, f7, f8, f9, f10, f11, f12, f13, f14, f15, f16, f17, f18, f19, f20, f21, f22]
        clear f0 f1 f2 f3 f4 f5 f6 f7 f8 f9 f10 f11 f12 f13 f14 f15 f16 f17 f18 f19 f20 f21 f22
        clear holdq hapq
        go_wp2
        go_ret
        exact ⟨ret_bool (by simp), he.trans ((Ext.refl _).drew.trans herq)⟩
      · skip
        refine wp_region_facts [] [([], false, false), ([0], false, false), ([], false, false), ([2], false, false), ([0, 1, 2, 3], false, false), ([0, 1, 2, 3, 4], false, false), ([0, 1, 2, 3, 4, 5], false, false), ([0, 1, 2, 3, 4, 5, 6], false, false), ([0, 1, 2, 3, 4, 5, 6, 7], false, false), ([0, 1, 2, 3, 4, 5, 6, 7, 8], false, false), ([0, 1, 2, 3, 4, 5], false, false), ([0, 1, 2, 3, 4, 5], false, false), ([0, 1, 2, 3, 4, 5, 6, 7, 8, 9, 10, 11], false, false), ([0, 1, 2, 3, 4, 5, 6, 7, 8, 9, 10, 11, 12], false, false), ([0, 1, 2, 3, 4, 5, 6, 7, 8, 9, 10, 11, 12, 13], false, false), ([0, 1, 2, 3, 4, 5, 6, 7, 8, 9, 10, 11, 12, 13, 14], false, false), ([0, 1, 2, 3, 4, 5, 6, 7, 8, 9, 10, 11, 12, 13, 14], false, false), ([0, 1, 2, 3, 4, 5, 6, 7, 8, 9, 10, 11, 12, 13, 14, 15, 16], false, false), ([0, 1, 2, 3, 4, 5, 6, 7, 8, 9, 10, 11, 12, 13, 14], false, false), ([0, 1, 2, 3, 4, 5, 6, 7, 8, 9, 10, 11, 12, 13, 14], false, false), ([0, 1, 2, 3, 4, 5, 6, 7, 8, 9, 10, 11, 12, 13, 14, 18, 19], false, false), ([0, 1, 2, 3, 4, 5, 6, 7, 8, 9, 10, 11, 12, 13, 14, 15, 16, 17, 18, 19, 20], false, false), ([0, 1, 2, 3, 4, 5, 6, 7, 8, 9, 10, 11, 12, 13, 14, 15, 16, 17, 18, 19, 20, 21], false, false)] (Ext) Ext (fun _ => True) (by kernel_rfl) (by kernel_rfl) Ext.refl (fun _ _ _ => Ext.trans) (fun _ _ h => h) (fun _ _ h => h.size) (fun _ _ h _ => h) trivial ?_
        dsimp only [List.length_cons, List.length_nil, List.drop_succ_cons, List.drop_zero, List.drop_nil]
        refine fac_quiet 0 rfl rfl rfl (fun _ _ h _ => h) rfl rfl ?_
        apply Exists.intro
        refine ⟨fun sv w' hw' hfa => ?_, ?_⟩
        · refine ⟨rfl, ?_⟩
          simp only [putsL]
          change quietTo _ _ _ _ (Sem.run _ (execOp (Act.eval _) _) _)
          try simp only [Act.put, List.setIfInBounds_toArray, List.set_cons_succ, List.set_cons_zero]
          simp [go_sem, quietTo, Ext.refl]
          all_goals first
            | rfl
        refine fac_quiet 1 rfl rfl rfl (fun _ _ h _ => h) rfl rfl ?_
        apply Exists.intro
        refine ⟨fun sv w' hw' hfa => ?_, ?_⟩
        · obtain ⟨f0, -⟩ := hfa
          replace f0 : sv 0 = _ := f0
          try dsimp only at f0
          have hk0 := (Ext.refl W).drew.trans hw'; have hk9 := he.trans hk0; obtain ⟨y1, -⟩ := (hB.ext hk9).walk; obtain ⟨p1, -⟩ := (hg.ext hk0).walk; obtain ⟨q1, -⟩ := (hg'.ext hk0).walk
          refine ⟨rfl, ?_⟩
          simp only [putsL]
          change quietTo _ _ _ _ (Sem.run _ (execOp (Act.eval (Act.put _ (some 23) (sv 0))) _) _)
          try simp only [Act.put, List.setIfInBounds_toArray, List.set_cons_succ, List.set_cons_zero]
          simp [go_sem, quietTo, Ext.refl, ↓IntWalk.iteOmega, f0, p1]
          all_goals try simp (disch := omega) only [IntWalk.i64_in]
          all_goals first
            | rfl
        refine fac_quiet 2 rfl rfl rfl (fun _ _ h _ => h) rfl rfl ?_
        apply Exists.intro
        refine ⟨fun sv w' hw' hfa => ?_, ?_⟩
        · refine ⟨rfl, ?_⟩
          simp only [putsL]
          change quietTo _ _ _ _ (Sem.run _ (execOp (Act.eval _) _) _)
          try simp only [Act.put, List.setIfInBounds_toArray, List.set_cons_succ, List.set_cons_zero]
          simp [go_sem, quietTo, Ext.refl]
          all_goals first
            | rfl
        refine fac_quiet 3 rfl rfl rfl (fun _ _ h _ => h) rfl rfl ?_
        apply Exists.intro
        refine ⟨fun sv w' hw' hfa => ?_, ?_⟩
        · obtain ⟨f2, -⟩ := hfa
          replace f2 : sv 2 = _ := f2
          try dsimp only at f2
          have hk0 := (Ext.refl W).drew.trans hw'; have hk9 := he.trans hk0; obtain ⟨y1, -⟩ := (hB.ext hk9).walk; obtain ⟨p1, -⟩ := (hg.ext hk0).walk; obtain ⟨q1, -⟩ := (hg'.ext hk0).walk
          refine ⟨rfl, ?_⟩
          simp only [putsL]
          change quietTo _ _ _ _ (Sem.run _ (execOp (Act.eval (Act.put _ (some 25) (sv 2))) _) _)
          try simp only [Act.put, List.setIfInBounds_toArray, List.set_cons_succ, List.set_cons_zero]
          simp [go_sem, quietTo, Ext.refl, ↓IntWalk.iteOmega, f2, q1]
          all_goals try simp (disch := omega) only [IntWalk.i64_in]
          all_goals first
            | rfl
        refine fac_quiet 4 rfl rfl rfl (fun _ _ h _ => h) rfl rfl ?_
        apply Exists.intro
        refine ⟨fun sv w' hw' hfa => ?_, ?_⟩
        · obtain ⟨_, f1, _, f3, -⟩ := hfa
          replace f1 : sv 1 = _ := f1
          try dsimp only at f1
          replace f3 : sv 3 = _ := f3
          try dsimp only at f3
          have hk0 := (Ext.refl W).drew.trans hw'; have hk9 := he.trans hk0; obtain ⟨y1, -⟩ := (hB.ext hk9).walk; obtain ⟨p1, -⟩ := (hg.ext hk0).walk; obtain ⟨q1, -⟩ := (hg'.ext hk0).walk
          refine ⟨rfl, ?_⟩
          simp only [putsL]
          change quietTo _ _ _ _ (Sem.run _ (execOp (Act.eval (Act.put (Act.put (Act.put (Act.put _ (some 26) (sv 3)) (some 25) (sv 2)) (some 24) (sv 1)) (some 23) (sv 0))) _) _)
          try simp only [Act.put, List.setIfInBounds_toArray, List.set_cons_succ, List.set_cons_zero]
          simp [go_sem, quietTo, Ext.refl, ↓IntWalk.iteOmega, f1, f3, hlt]
          all_goals try simp (disch := omega) only [IntWalk.i64_in]
          all_goals first
            | rfl
        refine fac_quiet 5 rfl rfl rfl (fun _ _ h _ => h) rfl rfl ?_
        apply Exists.intro
        refine ⟨fun sv w' hw' hfa => ?_, ?_⟩
        · obtain ⟨_, _, _, _, f4, -⟩ := hfa
          replace f4 : sv 4 = _ := f4
          try dsimp only at f4
          refine ⟨rfl, ?_⟩
          simp only [putsL]
          change quietTo _ _ _ _ (Sem.run _ (execOp (Act.eval (Act.put (Act.put (Act.put (Act.put (Act.put _ (some 27) (sv 4)) (some 26) (sv 3)) (some 25) (sv 2)) (some 24) (sv 1)) (some 23) (sv 0))) _) _)
          try simp only [Act.put, List.setIfInBounds_toArray, List.set_cons_succ, List.set_cons_zero]
          simp [go_sem, quietTo, Ext.refl, f4]
          all_goals first
            | rfl
        refine fac_quiet 6 rfl rfl rfl (fun _ _ h _ => h) rfl rfl ?_
        apply Exists.intro
        refine ⟨fun sv w' hw' hfa => ?_, ?_⟩
        · obtain ⟨_, _, _, _, _, f5, -⟩ := hfa
          replace f5 : sv 5 = _ := f5
          try dsimp only at f5
          refine ⟨by simp [Region.wanted, yielded, putsL, Act.put, f5], ?_⟩
          simp only [putsL]
          change quietTo _ _ _ _ (Sem.run _ (execOp (Act.eval (Act.put (Act.put (Act.put (Act.put (Act.put (Act.put _ (some 28) (sv 5)) (some 27) (sv 4)) (some 26) (sv 3)) (some 25) (sv 2)) (some 24) (sv 1)) (some 23) (sv 0))) _) _)
          try simp only [Act.put, List.setIfInBounds_toArray, List.set_cons_succ, List.set_cons_zero]
          simp [go_sem, quietTo, Ext.refl, f5]
          all_goals first
            | rfl
        refine fac_quiet 7 rfl rfl rfl (fun _ _ h _ => h) rfl rfl ?_
        apply Exists.intro
        refine ⟨fun sv w' hw' hfa => ?_, ?_⟩
        · obtain ⟨_, _, _, _, _, f5, f6, -⟩ := hfa
          replace f5 : sv 5 = _ := f5
          try dsimp only at f5
          replace f6 : sv 6 = _ := f6
          try dsimp only at f6
          refine ⟨by simp [Region.wanted, yielded, putsL, Act.put, f5, f6], ?_⟩
          simp only [putsL]
          change quietTo _ _ _ _ (Sem.run _ (execOp (Act.eval (Act.put (Act.put (Act.put (Act.put (Act.put (Act.put (Act.put _ (some 29) (sv 6)) (some 28) (sv 5)) (some 27) (sv 4)) (some 26) (sv 3)) (some 25) (sv 2)) (some 24) (sv 1)) (some 23) (sv 0))) _) _)
          try simp only [Act.put, List.setIfInBounds_toArray, List.set_cons_succ, List.set_cons_zero]
          simp [go_sem, quietTo, Ext.refl, f5, f6]
          all_goals first
            | rfl
        refine fac_quiet 8 rfl rfl rfl (fun _ _ h _ => h) rfl rfl ?_
        apply Exists.intro
        refine ⟨fun sv w' hw' hfa => ?_, ?_⟩
        · obtain ⟨_, _, _, _, _, f5, _, f7, -⟩ := hfa
          replace f5 : sv 5 = _ := f5
          try dsimp only at f5
          replace f7 : sv 7 = _ := f7
          try dsimp only at f7
          refine ⟨by simp [Region.wanted, yielded, putsL, Act.put, f5, f7], ?_⟩
          simp only [putsL]
          change quietTo _ _ _ _ (Sem.run _ (execOp (Act.eval (Act.put (Act.put (Act.put (Act.put (Act.put (Act.put (Act.put (Act.put _ (some 30) (sv 7)) (some 29) (sv 6)) (some 28) (sv 5)) (some 27) (sv 4)) (some 26) (sv 3)) (some 25) (sv 2)) (some 24) (sv 1)) (some 23) (sv 0))) _) _)
          try simp only [Act.put, List.setIfInBounds_toArray, List.set_cons_succ, List.set_cons_zero]
          simp [go_sem, quietTo, Ext.refl, f5, f7]
          all_goals first
            | rfl
        refine fac_quiet 9 rfl rfl rfl (fun _ _ h _ => h) rfl rfl ?_
        apply Exists.intro
        refine ⟨fun sv w' hw' hfa => ?_, ?_⟩
        · obtain ⟨_, _, _, _, _, f5, _, _, f8, -⟩ := hfa
          replace f5 : sv 5 = _ := f5
          try dsimp only at f5
          replace f8 : sv 8 = _ := f8
          try dsimp only at f8
          have hk0 := (Ext.refl W).drew.trans hw'; have hk9 := he.trans hk0; obtain ⟨y1, -⟩ := (hB.ext hk9).walk; obtain ⟨p1, -⟩ := (hg.ext hk0).walk; obtain ⟨q1, -⟩ := (hg'.ext hk0).walk
          refine ⟨by simp [Region.wanted, yielded, putsL, Act.put, f5, f8], ?_⟩
          simp only [putsL]
          change quietTo _ _ _ _ (Sem.run _ (execOp (Act.eval (Act.put (Act.put (Act.put (Act.put (Act.put (Act.put (Act.put (Act.put (Act.put _ (some 31) (sv 8)) (some 30) (sv 7)) (some 29) (sv 6)) (some 28) (sv 5)) (some 27) (sv 4)) (some 26) (sv 3)) (some 25) (sv 2)) (some 24) (sv 1)) (some 23) (sv 0))) _) _)
          try simp only [Act.put, List.setIfInBounds_toArray, List.set_cons_succ, List.set_cons_zero]
          simp [go_sem, quietTo, Ext.refl, ↓IntWalk.iteOmega, f5, f8, y1]
          all_goals try simp (disch := omega) only [IntWalk.i64_in]
          all_goals first
            | rfl
        refine fac_quiet 10 rfl rfl rfl (fun _ _ h _ => h) rfl rfl ?_
        apply Exists.intro
        refine ⟨fun sv w' hw' hfa => ?_, ?_⟩
        · obtain ⟨_, _, _, _, _, f5, -⟩ := hfa
          replace f5 : sv 5 = _ := f5
          try dsimp only at f5
          have hk0 := (Ext.refl W).drew.trans hw'; have hk9 := he.trans hk0; obtain ⟨y1, -⟩ := (hB.ext hk9).walk; obtain ⟨p1, -⟩ := (hg.ext hk0).walk; obtain ⟨q1, -⟩ := (hg'.ext hk0).walk
          refine ⟨by simp [Region.wanted, yielded, putsL, Act.put, f5], ?_⟩
          simp only [putsL]
          change quietTo _ _ _ _ (Sem.run _ (execOp (Act.eval (Act.put (Act.put (Act.put (Act.put (Act.put (Act.put _ (some 28) (sv 5)) (some 27) (sv 4)) (some 26) (sv 3)) (some 25) (sv 2)) (some 24) (sv 1)) (some 23) (sv 0))) _) _)
          try simp only [Act.put, List.setIfInBounds_toArray, List.set_cons_succ, List.set_cons_zero]
          simp [go_sem, quietTo, Ext.refl, ↓IntWalk.iteOmega, f5, p1]
          all_goals try simp (disch := omega) only [IntWalk.i64_in]
          all_goals first
            | rfl
        refine fac_quiet 11 rfl rfl rfl (fun _ _ h _ => h) rfl rfl ?_
        apply Exists.intro
        refine ⟨fun sv w' hw' hfa => ?_, ?_⟩
        · obtain ⟨_, _, _, _, _, f5, -⟩ := hfa
          replace f5 : sv 5 = _ := f5
          try dsimp only at f5
          have hk0 := (Ext.refl W).drew.trans hw'; have hk9 := he.trans hk0; obtain ⟨y1, -⟩ := (hB.ext hk9).walk; obtain ⟨p1, -⟩ := (hg.ext hk0).walk; obtain ⟨q1, -⟩ := (hg'.ext hk0).walk
          refine ⟨by simp [Region.wanted, yielded, putsL, Act.put, f5], ?_⟩
          simp only [putsL]
          change quietTo _ _ _ _ (Sem.run _ (execOp (Act.eval (Act.put (Act.put (Act.put (Act.put (Act.put (Act.put _ (some 28) (sv 5)) (some 27) (sv 4)) (some 26) (sv 3)) (some 25) (sv 2)) (some 24) (sv 1)) (some 23) (sv 0))) _) _)
          try simp only [Act.put, List.setIfInBounds_toArray, List.set_cons_succ, List.set_cons_zero]
          simp [go_sem, quietTo, Ext.refl, ↓IntWalk.iteOmega, f5, q1]
          all_goals try simp (disch := omega) only [IntWalk.i64_in]
          all_goals first
            | rfl
        refine fac_quiet 12 rfl rfl rfl (fun _ _ h _ => h) rfl rfl ?_
        apply Exists.intro
        refine ⟨fun sv w' hw' hfa => ?_, ?_⟩
        · obtain ⟨f0, f1, f2, f3, f4, f5, f6, f7, f8, f9, f10, f11, -⟩ := hfa
          replace f0 : sv 0 = _ := f0
          try dsimp only at f0
          replace f1 : sv 1 = _ := f1
          try dsimp only at f1
          replace f2 : sv 2 = _ := f2
          try dsimp only at f2
          replace f3 : sv 3 = _ := f3
          try dsimp only at f3
          replace f4 : sv 4 = _ := f4
          try dsimp only at f4
          replace f5 : sv 5 = _ := f5
          try dsimp only at f5
          replace f6 : sv 6 = _ := f6
          try dsimp only at f6
          replace f7 : sv 7 = _ := f7
          try dsimp only at f7
          replace f8 : sv 8 = _ := f8
          try dsimp only at f8
          replace f9 : sv 9 = _ := f9
          try dsimp only at f9
          replace f10 : sv 10 = _ := f10
          try dsimp only at f10
          replace f11 : sv 11 = _ := f11
          try dsimp only at f11
          have hk0 := (Ext.refl W).drew.trans hw'; have hk9 := he.trans hk0; obtain ⟨y1, -⟩ := (hB.ext hk9).walk; obtain ⟨p1, -⟩ := (hg.ext hk0).walk; obtain ⟨q1, -⟩ := (hg'.ext hk0).walk
          refine ⟨by simp [Region.wanted, yielded, putsL, Act.put, f5, f9, f10, f11], ?_⟩
          simp only [putsL]
          change quietTo _ _ _ _ (Sem.run _ (execOp (Act.eval (Act.put (Act.put (Act.put (Act.put (Act.put (Act.put (Act.put (Act.put (Act.put (Act.put (Act.put (Act.put _ (some 34) (sv 11)) (some 33) (sv 10)) (some 32) (sv 9)) (some 31) (sv 8)) (some 30) (sv 7)) (some 29) (sv 6)) (some 28) (sv 5)) (some 27) (sv 4)) (some 26) (sv 3)) (some 25) (sv 2)) (some 24) (sv 1)) (some 23) (sv 0))) _) _)
          try simp only [Act.put, List.setIfInBounds_toArray, List.set_cons_succ, List.set_cons_zero]
          simp [go_sem, quietTo, Ext.refl, ↓IntWalk.iteOmega, f5, f9, f10, f11]
          all_goals try simp (disch := omega) only [IntWalk.i64_in]
          all_goals first
            | rfl
            | (exact hnr.out _ hk9)
        refine fac_quiet 13 rfl rfl rfl (fun _ _ h _ => h) rfl rfl ?_
        apply Exists.intro
        refine ⟨fun sv w' hw' hfa => ?_, ?_⟩
        · obtain ⟨_, _, _, _, _, f5, _, _, _, _, _, _, f12, -⟩ := hfa
          replace f5 : sv 5 = _ := f5
          try dsimp only at f5
          replace f12 : sv 12 = _ := f12
          try dsimp only at f12
          refine ⟨rfl, ?_⟩
          simp only [putsL]
          change quietTo _ _ _ _ (Sem.run _ (execOp (Act.eval (Act.put (Act.put (Act.put (Act.put (Act.put (Act.put (Act.put (Act.put (Act.put (Act.put (Act.put (Act.put (Act.put _ (some 35) (sv 12)) (some 34) (sv 11)) (some 33) (sv 10)) (some 32) (sv 9)) (some 31) (sv 8)) (some 30) (sv 7)) (some 29) (sv 6)) (some 28) (sv 5)) (some 27) (sv 4)) (some 26) (sv 3)) (some 25) (sv 2)) (some 24) (sv 1)) (some 23) (sv 0))) _) _)
          try simp only [Act.put, List.setIfInBounds_toArray, List.set_cons_succ, List.set_cons_zero]
          simp [go_sem, quietTo, Ext.refl, ↓IntWalk.iteOmega, f5, f12]
          all_goals try simp (disch := omega) only [IntWalk.i64_in]
          all_goals first
            | rfl
        refine fac_quiet 14 rfl rfl rfl (fun _ _ h _ => h) rfl rfl ?_
        apply Exists.intro
        refine ⟨fun sv w' hw' hfa => ?_, ?_⟩
        · obtain ⟨_, _, _, _, _, _, _, _, _, _, _, _, _, f13, -⟩ := hfa
          replace f13 : sv 13 = _ := f13
          try dsimp only at f13
          refine ⟨rfl, ?_⟩
          simp only [putsL]
          change quietTo _ _ _ _ (Sem.run _ (execOp (Act.eval (Act.put (Act.put (Act.put (Act.put (Act.put (Act.put (Act.put (Act.put (Act.put (Act.put (Act.put (Act.put (Act.put (Act.put _ (some 36) (sv 13)) (some 35) (sv 12)) (some 34) (sv 11)) (some 33) (sv 10)) (some 32) (sv 9)) (some 31) (sv 8)) (some 30) (sv 7)) (some 29) (sv 6)) (some 28) (sv 5)) (some 27) (sv 4)) (some 26) (sv 3)) (some 25) (sv 2)) (some 24) (sv 1)) (some 23) (sv 0))) _) _)
          try simp only [Act.put, List.setIfInBounds_toArray, List.set_cons_succ, List.set_cons_zero]
          simp [go_sem, quietTo, Ext.refl, f13]
          all_goals first
            | rfl
        refine fac_quiet 15 rfl rfl rfl (fun _ _ h _ => h) rfl rfl ?_
        apply Exists.intro
        refine ⟨fun sv w' hw' hfa => ?_, ?_⟩
        · obtain ⟨_, _, _, _, _, _, _, _, _, _, _, _, _, _, f14, -⟩ := hfa
          replace f14 : sv 14 = _ := f14
          try dsimp only at f14
          refine ⟨by simp [Region.wanted, yielded, putsL, Act.put, f14], ?_⟩
          simp only [putsL]
          change quietTo _ _ _ _ (Sem.run _ (execOp (Act.eval (Act.put (Act.put (Act.put (Act.put (Act.put (Act.put (Act.put (Act.put (Act.put (Act.put (Act.put (Act.put (Act.put (Act.put (Act.put _ (some 37) (sv 14)) (some 36) (sv 13)) (some 35) (sv 12)) (some 34) (sv 11)) (some 33) (sv 10)) (some 32) (sv 9)) (some 31) (sv 8)) (some 30) (sv 7)) (some 29) (sv 6)) (some 28) (sv 5)) (some 27) (sv 4)) (some 26) (sv 3)) (some 25) (sv 2)) (some 24) (sv 1)) (some 23) (sv 0))) _) _)
          try simp only [Act.put, List.setIfInBounds_toArray, List.set_cons_succ, List.set_cons_zero]
          simp [go_sem, quietTo, Ext.refl, f14]
          all_goals first
            | rfl
        refine fac_quiet 16 rfl rfl rfl (fun _ _ h _ => h) rfl rfl ?_
        apply Exists.intro
        refine ⟨fun sv w' hw' hfa => ?_, ?_⟩
        · obtain ⟨_, _, _, _, _, _, _, _, _, _, _, _, _, _, f14, -⟩ := hfa
          replace f14 : sv 14 = _ := f14
          try dsimp only at f14
          refine ⟨by simp [Region.wanted, yielded, putsL, Act.put, f14], ?_⟩
          simp only [putsL]
          change quietTo _ _ _ _ (Sem.run _ (execOp (Act.eval (Act.put (Act.put (Act.put (Act.put (Act.put (Act.put (Act.put (Act.put (Act.put (Act.put (Act.put (Act.put (Act.put (Act.put (Act.put _ (some 37) (sv 14)) (some 36) (sv 13)) (some 35) (sv 12)) (some 34) (sv 11)) (some 33) (sv 10)) (some 32) (sv 9)) (some 31) (sv 8)) (some 30) (sv 7)) (some 29) (sv 6)) (some 28) (sv 5)) (some 27) (sv 4)) (some 26) (sv 3)) (some 25) (sv 2)) (some 24) (sv 1)) (some 23) (sv 0))) _) _)
          try simp only [Act.put, List.setIfInBounds_toArray, List.set_cons_succ, List.set_cons_zero]
          simp [go_sem, quietTo, Ext.refl, f14]
          all_goals first
            | rfl
        refine fac_quiet 17 rfl rfl rfl (fun _ _ h _ => h) rfl rfl ?_
        apply Exists.intro
        refine ⟨fun sv w' hw' hfa => ?_, ?_⟩
        · obtain ⟨f0, f1, f2, f3, f4, f5, f6, f7, f8, f9, f10, f11, f12, f13, f14, f15, f16, -⟩ := hfa
          replace f0 : sv 0 = _ := f0
          try dsimp only at f0
          replace f1 : sv 1 = _ := f1
          try dsimp only at f1
          replace f2 : sv 2 = _ := f2
          try dsimp only at f2
          replace f3 : sv 3 = _ := f3
          try dsimp only at f3
          replace f4 : sv 4 = _ := f4
          try dsimp only at f4
          replace f5 : sv 5 = _ := f5
          try dsimp only at f5
          replace f6 : sv 6 = _ := f6
          try dsimp only at f6
          replace f7 : sv 7 = _ := f7
          try dsimp only at f7
          replace f8 : sv 8 = _ := f8
          try dsimp only at f8
          replace f9 : sv 9 = _ := f9
          try dsimp only at f9
          replace f10 : sv 10 = _ := f10
          try dsimp only at f10
          replace f11 : sv 11 = _ := f11
          try dsimp only at f11
          replace f12 : sv 12 = _ := f12
          try dsimp only at f12
          replace f13 : sv 13 = _ := f13
          try dsimp only at f13
          replace f14 : sv 14 = _ := f14
          try dsimp only at f14
          replace f15 : sv 15 = _ := f15
          try dsimp only at f15
          replace f16 : sv 16 = _ := f16
          try dsimp only at f16
          have hk0 := (Ext.refl W).drew.trans hw'; have hk9 := he.trans hk0; obtain ⟨y1, -⟩ := (hB.ext hk9).walk; obtain ⟨p1, -⟩ := (hg.ext hk0).walk; obtain ⟨q1, -⟩ := (hg'.ext hk0).walk
          refine ⟨by simp [Region.wanted, yielded, putsL, Act.put, f14, f15, f16], ?_⟩
          simp only [putsL]
          change quietTo _ _ _ _ (Sem.run _ (execOp (Act.eval (Act.put (Act.put (Act.put (Act.put (Act.put (Act.put (Act.put (Act.put (Act.put (Act.put (Act.put (Act.put (Act.put (Act.put (Act.put (Act.put (Act.put _ (some 39) (sv 16)) (some 38) (sv 15)) (some 37) (sv 14)) (some 36) (sv 13)) (some 35) (sv 12)) (some 34) (sv 11)) (some 33) (sv 10)) (some 32) (sv 9)) (some 31) (sv 8)) (some 30) (sv 7)) (some 29) (sv 6)) (some 28) (sv 5)) (some 27) (sv 4)) (some 26) (sv 3)) (some 25) (sv 2)) (some 24) (sv 1)) (some 23) (sv 0))) _) _)
          try simp only [Act.put, List.setIfInBounds_toArray, List.set_cons_succ, List.set_cons_zero]
          simp [go_sem, quietTo, Ext.refl, ↓IntWalk.iteOmega, f14, f15, f16]
          all_goals try simp (disch := omega) only [IntWalk.i64_in]
          all_goals first
            | rfl
            | (exact ht1.out _ hk9)
        refine fac_quiet 18 rfl rfl rfl (fun _ _ h _ => h) rfl rfl ?_
        apply Exists.intro
        refine ⟨fun sv w' hw' hfa => ?_, ?_⟩
        · obtain ⟨_, _, _, _, _, _, _, _, _, _, _, _, _, _, f14, -⟩ := hfa
          replace f14 : sv 14 = _ := f14
          try dsimp only at f14
          refine ⟨by simp [Region.wanted, yielded, putsL, Act.put, f14], ?_⟩
          simp only [putsL]
          change quietTo _ _ _ _ (Sem.run _ (execOp (Act.eval (Act.put (Act.put (Act.put (Act.put (Act.put (Act.put (Act.put (Act.put (Act.put (Act.put (Act.put (Act.put (Act.put (Act.put (Act.put _ (some 37) (sv 14)) (some 36) (sv 13)) (some 35) (sv 12)) (some 34) (sv 11)) (some 33) (sv 10)) (some 32) (sv 9)) (some 31) (sv 8)) (some 30) (sv 7)) (some 29) (sv 6)) (some 28) (sv 5)) (some 27) (sv 4)) (some 26) (sv 3)) (some 25) (sv 2)) (some 24) (sv 1)) (some 23) (sv 0))) _) _)
          try simp only [Act.put, List.setIfInBounds_toArray, List.set_cons_succ, List.set_cons_zero]
          simp [go_sem, quietTo, Ext.refl, f14]
          all_goals first
            | rfl
        refine fac_quiet 19 rfl rfl rfl (fun _ _ h _ => h) rfl rfl ?_
        apply Exists.intro
        refine ⟨fun sv w' hw' hfa => ?_, ?_⟩
        · obtain ⟨_, _, _, _, _, _, _, _, _, _, _, _, _, _, f14, -⟩ := hfa
          replace f14 : sv 14 = _ := f14
          try dsimp only at f14
          refine ⟨by simp [Region.wanted, yielded, putsL, Act.put, f14], ?_⟩
          simp only [putsL]
          change quietTo _ _ _ _ (Sem.run _ (execOp (Act.eval (Act.put (Act.put (Act.put (Act.put (Act.put (Act.put (Act.put (Act.put (Act.put (Act.put (Act.put (Act.put (Act.put (Act.put (Act.put _ (some 37) (sv 14)) (some 36) (sv 13)) (some 35) (sv 12)) (some 34) (sv 11)) (some 33) (sv 10)) (some 32) (sv 9)) (some 31) (sv 8)) (some 30) (sv 7)) (some 29) (sv 6)) (some 28) (sv 5)) (some 27) (sv 4)) (some 26) (sv 3)) (some 25) (sv 2)) (some 24) (sv 1)) (some 23) (sv 0))) _) _)
          try simp only [Act.put, List.setIfInBounds_toArray, List.set_cons_succ, List.set_cons_zero]
          simp [go_sem, quietTo, Ext.refl, f14]
          all_goals first
            | rfl
        refine fac_quiet 20 rfl rfl rfl (fun _ _ h _ => h) rfl rfl ?_
        apply Exists.intro
        refine ⟨fun sv w' hw' hfa => ?_, ?_⟩
        · obtain ⟨f0, f1, f2, f3, f4, f5, f6, f7, f8, f9, f10, f11, f12, f13, f14, f18, f19, -⟩ := hfa
          replace f0 : sv 0 = _ := f0
          try dsimp only at f0
          replace f1 : sv 1 = _ := f1
          try dsimp only at f1
          replace f2 : sv 2 = _ := f2
          try dsimp only at f2
          replace f3 : sv 3 = _ := f3
          try dsimp only at f3
          replace f4 : sv 4 = _ := f4
          try dsimp only at f4
          replace f5 : sv 5 = _ := f5
          try dsimp only at f5
          replace f6 : sv 6 = _ := f6
          try dsimp only at f6
          replace f7 : sv 7 = _ := f7
          try dsimp only at f7
          replace f8 : sv 8 = _ := f8
          try dsimp only at f8
          replace f9 : sv 9 = _ := f9
          try dsimp only at f9
          replace f10 : sv 10 = _ := f10
          try dsimp only at f10
          replace f11 : sv 11 = _ := f11
          try dsimp only at f11
          replace f12 : sv 12 = _ := f12
          try dsimp only at f12
          replace f13 : sv 13 = _ := f13
          try dsimp only at f13
          replace f14 : sv 14 = _ := f14
          try dsimp only at f14
          replace f18 : sv 18 = _ := f18
          try dsimp only at f18
          replace f19 : sv 19 = _ := f19
          try dsimp only at f19
          have hk0 := (Ext.refl W).drew.trans hw'; have hk9 := he.trans hk0; obtain ⟨y1, -⟩ := (hB.ext hk9).walk; obtain ⟨p1, -⟩ := (hg.ext hk0).walk; obtain ⟨q1, -⟩ := (hg'.ext hk0).walk
          refine ⟨by simp [Region.wanted, yielded, putsL, Act.put, f14, f18, f19], ?_⟩
          simp only [putsL]
          change quietTo _ _ _ _ (Sem.run _ (execOp (Act.eval (Act.put (Act.put (Act.put (Act.put (Act.put (Act.put (Act.put (Act.put (Act.put (Act.put (Act.put (Act.put (Act.put (Act.put (Act.put (Act.put (Act.put _ (some 42) (sv 19)) (some 41) (sv 18)) (some 37) (sv 14)) (some 36) (sv 13)) (some 35) (sv 12)) (some 34) (sv 11)) (some 33) (sv 10)) (some 32) (sv 9)) (some 31) (sv 8)) (some 30) (sv 7)) (some 29) (sv 6)) (some 28) (sv 5)) (some 27) (sv 4)) (some 26) (sv 3)) (some 25) (sv 2)) (some 24) (sv 1)) (some 23) (sv 0))) _) _)
          try simp only [Act.put, List.setIfInBounds_toArray, List.set_cons_succ, List.set_cons_zero]
          simp [go_sem, quietTo, Ext.refl, ↓IntWalk.iteOmega, f14, f18, f19]
          all_goals try simp (disch := omega) only [IntWalk.i64_in]
          all_goals first
            | rfl
            | (exact ht2.out _ hk9)
        refine fac_quiet 21 rfl rfl rfl (fun _ _ h _ => h) rfl rfl ?_
        apply Exists.intro
        refine ⟨fun sv w' hw' hfa => ?_, ?_⟩
        · obtain ⟨_, _, _, _, _, _, _, _, _, _, _, _, _, _, f14, _, _, f17, _, _, f20, -⟩ := hfa
          replace f14 : sv 14 = _ := f14
          try dsimp only at f14
          replace f17 : sv 17 = _ := f17
          try dsimp only at f17
          replace f20 : sv 20 = _ := f20
          try dsimp only at f20
          refine ⟨by simp [Region.wanted, yielded, putsL, Act.put, f14, f17, f20], ?_⟩
          simp only [putsL]
          change quietTo _ _ _ _ (Sem.run _ (execOp (Act.eval (Act.put (Act.put (Act.put (Act.put (Act.put (Act.put (Act.put (Act.put (Act.put (Act.put (Act.put (Act.put (Act.put (Act.put (Act.put (Act.put (Act.put (Act.put (Act.put (Act.put (Act.put _ (some 43) (sv 20)) (some 42) (sv 19)) (some 41) (sv 18)) (some 40) (sv 17)) (some 39) (sv 16)) (some 38) (sv 15)) (some 37) (sv 14)) (some 36) (sv 13)) (some 35) (sv 12)) (some 34) (sv 11)) (some 33) (sv 10)) (some 32) (sv 9)) (some 31) (sv 8)) (some 30) (sv 7)) (some 29) (sv 6)) (some 28) (sv 5)) (some 27) (sv 4)) (some 26) (sv 3)) (some 25) (sv 2)) (some 24) (sv 1)) (some 23) (sv 0))) _) _)
          try simp only [Act.put, List.setIfInBounds_toArray, List.set_cons_succ, List.set_cons_zero]
          simp [go_sem, quietTo, Ext.refl, ↓IntWalk.iteOmega, f14, f17, f20]
          all_goals try simp (disch := omega) only [IntWalk.i64_in]
          all_goals first
            | rfl
        refine fac_quiet 22 rfl rfl rfl (fun _ _ h _ => h) rfl rfl ?_
        apply Exists.intro
        refine ⟨fun sv w' hw' hfa => ?_, ?_⟩
        · obtain ⟨_, _, _, _, _, _, _, _, _, _, _, _, _, _, f14, _, _, _, _, _, _, f21, -⟩ := hfa
          replace f14 : sv 14 = _ := f14
          try dsimp only at f14
          replace f21 : sv 21 = _ := f21
          try dsimp only at f21
          refine ⟨rfl, ?_⟩
          simp only [putsL]
          change quietTo _ _ _ _ (Sem.run _ (execOp (Act.eval (Act.put (Act.put (Act.put (Act.put (Act.put (Act.put (Act.put (Act.put (Act.put (Act.put (Act.put (Act.put (Act.put (Act.put (Act.put (Act.put (Act.put (Act.put (Act.put (Act.put (Act.put (Act.put _ (some 44) (sv 21)) (some 43) (sv 20)) (some 42) (sv 19)) (some 41) (sv 18)) (some 40) (sv 17)) (some 39) (sv 16)) (some 38) (sv 15)) (some 37) (sv 14)) (some 36) (sv 13)) (some 35) (sv 12)) (some 34) (sv 11)) (some 33) (sv 10)) (some 32) (sv 9)) (some 31) (sv 8)) (some 30) (sv 7)) (some 29) (sv 6)) (some 28) (sv 5)) (some 27) (sv 4)) (some 26) (sv 3)) (some 25) (sv 2)) (some 24) (sv 1)) (some 23) (sv 0))) _) _)
          try simp only [Act.put, List.setIfInBounds_toArray, List.set_cons_succ, List.set_cons_zero]
          simp [go_sem, quietTo, Ext.refl, ↓IntWalk.iteOmega, f14, f21]
          all_goals try simp (disch := omega) only [IntWalk.i64_in]
          all_goals first
            | rfl
        refine fac_nil fun xq wrq herq hfrq hcrq holdq hapq => ?_
        obtain ⟨f0, f1, f2, f3, f4, f5, f6, f7, f8, f9, f10, f11, f12, f13, f14, f15, f16, f17, f18, f19, f20, f21, f22, -⟩ := hfrq
        replace f0 : xq 0 = _ := f0
        try dsimp only at f0
        replace f1 : xq 1 = _ := f1
        try dsimp only at f1
        replace f2 : xq 2 = _ := f2
        try dsimp only at f2
        replace f3 : xq 3 = _ := f3
        try dsimp only at f3
        replace f4 : xq 4 = _ := f4
        try dsimp only at f4
        replace f5 : xq 5 = _ := f5
        try dsimp only at f5
        replace f6 : xq 6 = _ := f6
        try dsimp only at f6
        replace f7 : xq 7 = _ := f7
        try dsimp only at f7
        replace f8 : xq 8 = _ := f8
        try dsimp only at f8
        replace f9 : xq 9 = _ := f9
        try dsimp only at f9
        replace f10 : xq 10 = _ := f10
        try dsimp only at f10
        replace f11 : xq 11 = _ := f11
        try dsimp only at f11
        replace f12 : xq 12 = _ := f12
        try dsimp only at f12
        replace f13 : xq 13 = _ := f13
        try dsimp only at f13
        replace f14 : xq 14 = _ := f14
        try dsimp only at f14
        replace f15 : xq 15 = _ := f15
        try dsimp only at f15
        replace f16 : xq 16 = _ := f16
        try dsimp only at f16
        replace f17 : xq 17 = _ := f17
        try dsimp only at f17
        replace f18 : xq 18 = _ := f18
        try dsimp only at f18
        replace f19 : xq 19 = _ := f19
        try dsimp only at f19
        replace f20 : xq 20 = _ := f20
        try dsimp only at f20
        replace f21 : xq 21 = _ := f21
        try dsimp only at f21
        replace f22 : xq 22 = _ := f22
        try dsimp only at f22
        change wpList _ _ _ _ (Act.put (Act.put (Act.put (Act.put (Act.put (Act.put (Act.put (Act.put (Act.put (Act.put (Act.put (Act.put (Act.put (Act.put (Act.put (Act.put (Act.put (Act.put (Act.put (Act.put (Act.put (Act.put (Act.put _ (some 23) (xq 0)) (some 24) (xq 1)) (some 25) (xq 2)) (some 26) (xq 3)) (some 27) (xq 4)) (some 28) (xq 5)) (some 29) (xq 6)) (some 30) (xq 7)) (some 31) (xq 8)) (some 32) (xq 9)) (some 33) (xq 10)) (some 34) (xq 11)) (some 35) (xq 12)) (some 36) (xq 13)) (some 37) (xq 14)) (some 38) (xq 15)) (some 39) (xq 16)) (some 40) (xq 17)) (some 41) (xq 18)) (some 42) (xq 19)) (some 43) (xq 20)) (some 44) (xq 21)) (some 45) (xq 22)) _
        simp only [putsL, Nat.reduceAdd, List.drop_succ_cons, List.drop_zero, List.drop_nil, Act.put, List.setIfInBounds_toArray, List.set_cons_succ, List.set_cons_zero]
        try simp only [f0, f1, f2, f3, f4, f5, f6, f7, f8, f9, f10, f11, f12, f13, f14, f15, f16, f17, f18, f19, f20, f21, f22]
        clear f0 f1 f2 f3 f4 f5 f6 f7 f8 f9 f10 f11 f12 f13 f14 f15 f16 f17 f18 f19 f20 f21 f22
        clear holdq hapq
        go_wp2
        go_ret
        exact ⟨ret_bool (by simp [hlt]), he.trans ((Ext.refl _).drew.trans herq)⟩
    · skip
      refine wp_region_facts [] [([], false, false), ([0], false, false), ([], false, false), ([2], false, false), ([0, 1, 2, 3], false, false), ([0, 1, 2, 3, 4], false, false), ([0, 1, 2, 3, 4, 5], false, false), ([0, 1, 2, 3, 4, 5, 6], false, false), ([0, 1, 2, 3, 4, 5, 6, 7], false, false), ([0, 1, 2, 3, 4, 5, 6, 7, 8], false, false), ([0, 1, 2, 3, 4, 5], false, false), ([0, 1, 2, 3, 4, 5], false, false), ([0, 1, 2, 3, 4, 5, 6, 7, 8, 9, 10, 11], false, false), ([0, 1, 2, 3, 4, 5, 6, 7, 8, 9, 10, 11, 12], false, false), ([0, 1, 2, 3, 4, 5, 6, 7, 8, 9, 10, 11, 12, 13], false, false), ([0, 1, 2, 3, 4, 5, 6, 7, 8, 9, 10, 11, 12, 13, 14], false, false), ([0, 1, 2, 3, 4, 5, 6, 7, 8, 9, 10, 11, 12, 13, 14], false, false), ([0, 1, 2, 3, 4, 5, 6, 7, 8, 9, 10, 11, 12, 13, 14, 15, 16], false, false), ([0, 1, 2, 3, 4, 5, 6, 7, 8, 9, 10, 11, 12, 13, 14], false, false), ([0, 1, 2, 3, 4, 5, 6, 7, 8, 9, 10, 11, 12, 13, 14], false, false), ([0, 1, 2, 3, 4, 5, 6, 7, 8, 9, 10, 11, 12, 13, 14, 18, 19], false, false), ([0, 1, 2, 3, 4, 5, 6, 7, 8, 9, 10, 11, 12, 13, 14, 15, 16, 17, 18, 19, 20], false, false), ([0, 1, 2, 3, 4, 5, 6, 7, 8, 9, 10, 11, 12, 13, 14, 15, 16, 17, 18, 19, 20, 21], false, false)] (Ext) Ext (fun _ => True) (by kernel_rfl) (by kernel_rfl) Ext.refl (fun _ _ _ => Ext.trans) (fun _ _ h => h) (fun _ _ h => h.size) (fun _ _ h _ => h) trivial ?_
      dsimp only [List.length_cons, List.length_nil, List.drop_succ_cons, List.drop_zero, List.drop_nil]
      refine fac_quiet 0 rfl rfl rfl (fun _ _ h _ => h) rfl rfl ?_
      apply Exists.intro
      refine ⟨fun sv w' hw' hfa => ?_, ?_⟩
      · refine ⟨rfl, ?_⟩
        simp only [putsL]
        change quietTo _ _ _ _ (Sem.run _ (execOp (Act.eval _) _) _)
        try simp only [Act.put, List.setIfInBounds_toArray, List.set_cons_succ, List.set_cons_zero]
        simp [go_sem, quietTo, Ext.refl]
        all_goals first
          | rfl
      refine fac_quiet 1 rfl rfl rfl (fun _ _ h _ => h) rfl rfl ?_
      apply Exists.intro
      refine ⟨fun sv w' hw' hfa => ?_, ?_⟩
      · obtain ⟨f0, -⟩ := hfa
        replace f0 : sv 0 = _ := f0
        try dsimp only at f0
        have hk0 := (Ext.refl W).drew.trans hw'; have hk9 := he.trans hk0; obtain ⟨y1, -⟩ := (hB.ext hk9).walk; obtain ⟨p1, -⟩ := (hg.ext hk0).walk; obtain ⟨q1, -⟩ := (hg'.ext hk0).walk
        refine ⟨rfl, ?_⟩
        simp only [putsL]
        change quietTo _ _ _ _ (Sem.run _ (execOp (Act.eval (Act.put _ (some 23) (sv 0))) _) _)
        try simp only [Act.put, List.setIfInBounds_toArray, List.set_cons_succ, List.set_cons_zero]
        simp [go_sem, quietTo, Ext.refl, ↓IntWalk.iteOmega, f0, p1]
        all_goals try simp (disch := omega) only [IntWalk.i64_in]
        all_goals first
          | rfl
      refine fac_quiet 2 rfl rfl rfl (fun _ _ h _ => h) rfl rfl ?_
      apply Exists.intro
      refine ⟨fun sv w' hw' hfa => ?_, ?_⟩
      · refine ⟨rfl, ?_⟩
        simp only [putsL]
        change quietTo _ _ _ _ (Sem.run _ (execOp (Act.eval _) _) _)
        try simp only [Act.put, List.setIfInBounds_toArray, List.set_cons_succ, List.set_cons_zero]
        simp [go_sem, quietTo, Ext.refl]
        all_goals first
          | rfl
      refine fac_quiet 3 rfl rfl rfl (fun _ _ h _ => h) rfl rfl ?_
      apply Exists.intro
      refine ⟨fun sv w' hw' hfa => ?_, ?_⟩
      · obtain ⟨f2, -⟩ := hfa
        replace f2 : sv 2 = _ := f2
        try dsimp only at f2
        have hk0 := (Ext.refl W).drew.trans hw'; have hk9 := he.trans hk0; obtain ⟨y1, -⟩ := (hB.ext hk9).walk; obtain ⟨p1, -⟩ := (hg.ext hk0).walk; obtain ⟨q1, -⟩ := (hg'.ext hk0).walk
        refine ⟨rfl, ?_⟩
        simp only [putsL]
        change quietTo _ _ _ _ (Sem.run _ (execOp (Act.eval (Act.put _ (some 25) (sv 2))) _) _)
        try simp only [Act.put, List.setIfInBounds_toArray, List.set_cons_succ, List.set_cons_zero]
        simp [go_sem, quietTo, Ext.refl, ↓IntWalk.iteOmega, f2, q1]
        all_goals try simp (disch := omega) only [IntWalk.i64_in]
        all_goals first
          | rfl
      refine fac_quiet 4 rfl rfl rfl (fun _ _ h _ => h) rfl rfl ?_
      apply Exists.intro
      refine ⟨fun sv w' hw' hfa => ?_, ?_⟩
      · obtain ⟨_, f1, _, f3, -⟩ := hfa
        replace f1 : sv 1 = _ := f1
        try dsimp only at f1
        replace f3 : sv 3 = _ := f3
        try dsimp only at f3
        have hk0 := (Ext.refl W).drew.trans hw'; have hk9 := he.trans hk0; obtain ⟨y1, -⟩ := (hB.ext hk9).walk; obtain ⟨p1, -⟩ := (hg.ext hk0).walk; obtain ⟨q1, -⟩ := (hg'.ext hk0).walk
        refine ⟨rfl, ?_⟩
        simp only [putsL]
        change quietTo _ _ _ _ (Sem.run _ (execOp (Act.eval (Act.put (Act.put (Act.put (Act.put _ (some 26) (sv 3)) (some 25) (sv 2)) (some 24) (sv 1)) (some 23) (sv 0))) _) _)
        try simp only [Act.put, List.setIfInBounds_toArray, List.set_cons_succ, List.set_cons_zero]
        simp [go_sem, quietTo, Ext.refl, ↓IntWalk.iteOmega, f1, f3, hlt]
        all_goals try simp (disch := omega) only [IntWalk.i64_in]
        all_goals first
          | rfl
      refine fac_quiet 5 rfl rfl rfl (fun _ _ h _ => h) rfl rfl ?_
      apply Exists.intro
      refine ⟨fun sv w' hw' hfa => ?_, ?_⟩
      · obtain ⟨_, _, _, _, f4, -⟩ := hfa
        replace f4 : sv 4 = _ := f4
        try dsimp only at f4
        refine ⟨rfl, ?_⟩
        simp only [putsL]
        change quietTo _ _ _ _ (Sem.run _ (execOp (Act.eval (Act.put (Act.put (Act.put (Act.put (Act.put _ (some 27) (sv 4)) (some 26) (sv 3)) (some 25) (sv 2)) (some 24) (sv 1)) (some 23) (sv 0))) _) _)
        try simp only [Act.put, List.setIfInBounds_toArray, List.set_cons_succ, List.set_cons_zero]
        simp [go_sem, quietTo, Ext.refl, f4]
        all_goals first
          | rfl
      refine fac_skip 6 rfl rfl rfl (fun _ _ h _ => h) Ext.refl ?_ ?_
      · intro sv w' hw' hfa
        obtain ⟨f0, f1, f2, f3, f4, f5, -⟩ := hfa
        replace f0 : sv 0 = _ := f0
        try dsimp only at f0
        replace f1 : sv 1 = _ := f1
        try dsimp only at f1
        replace f2 : sv 2 = _ := f2
        try dsimp only at f2
        replace f3 : sv 3 = _ := f3
        try dsimp only at f3
        replace f4 : sv 4 = _ := f4
        try dsimp only at f4
        replace f5 : sv 5 = _ := f5
        try dsimp only at f5
        simp [Region.wanted, yielded, putsL, Act.put, f5]
      refine fac_skip 7 rfl rfl rfl (fun _ _ h _ => h) Ext.refl ?_ ?_
      · intro sv w' hw' hfa
        obtain ⟨f0, f1, f2, f3, f4, f5, f6, -⟩ := hfa
        replace f0 : sv 0 = _ := f0
        try dsimp only at f0
        replace f1 : sv 1 = _ := f1
        try dsimp only at f1
        replace f2 : sv 2 = _ := f2
        try dsimp only at f2
        replace f3 : sv 3 = _ := f3
        try dsimp only at f3
        replace f4 : sv 4 = _ := f4
        try dsimp only at f4
        replace f5 : sv 5 = _ := f5
        try dsimp only at f5
        replace f6 : sv 6 = _ := f6
        try dsimp only at f6
        simp [Region.wanted, yielded, putsL, Act.put, f5, f6]
      refine fac_skip 8 rfl rfl rfl (fun _ _ h _ => h) Ext.refl ?_ ?_
      · intro sv w' hw' hfa
        obtain ⟨f0, f1, f2, f3, f4, f5, f6, f7, -⟩ := hfa
        replace f0 : sv 0 = _ := f0
        try dsimp only at f0
        replace f1 : sv 1 = _ := f1
        try dsimp only at f1
        replace f2 : sv 2 = _ := f2
        try dsimp only at f2
        replace f3 : sv 3 = _ := f3
        try dsimp only at f3
        replace f4 : sv 4 = _ := f4
        try dsimp only at f4
        replace f5 : sv 5 = _ := f5
        try dsimp only at f5
        replace f6 : sv 6 = _ := f6
        try dsimp only at f6
        replace f7 : sv 7 = _ := f7
        try dsimp only at f7
        simp [Region.wanted, yielded, putsL, Act.put, f5, f7]
      refine fac_skip 9 rfl rfl rfl (fun _ _ h _ => h) Ext.refl ?_ ?_
      · intro sv w' hw' hfa
        obtain ⟨f0, f1, f2, f3, f4, f5, f6, f7, f8, -⟩ := hfa
        replace f0 : sv 0 = _ := f0
        try dsimp only at f0
        replace f1 : sv 1 = _ := f1
        try dsimp only at f1
        replace f2 : sv 2 = _ := f2
        try dsimp only at f2
        replace f3 : sv 3 = _ := f3
        try dsimp only at f3
        replace f4 : sv 4 = _ := f4
        try dsimp only at f4
        replace f5 : sv 5 = _ := f5
        try dsimp only at f5
        replace f6 : sv 6 = _ := f6
        try dsimp only at f6
        replace f7 : sv 7 = _ := f7
        try dsimp only at f7
        replace f8 : sv 8 = _ := f8
        try dsimp only at f8
        simp [Region.wanted, yielded, putsL, Act.put, f5, f8]
      refine fac_skip 10 rfl rfl rfl (fun _ _ h _ => h) Ext.refl ?_ ?_
      · intro sv w' hw' hfa
        obtain ⟨f0, f1, f2, f3, f4, f5, -⟩ := hfa
        replace f0 : sv 0 = _ := f0
        try dsimp only at f0
        replace f1 : sv 1 = _ := f1
        try dsimp only at f1
        replace f2 : sv 2 = _ := f2
        try dsimp only at f2
        replace f3 : sv 3 = _ := f3
        try dsimp only at f3
        replace f4 : sv 4 = _ := f4
        try dsimp only at f4
        replace f5 : sv 5 = _ := f5
        try dsimp only at f5
        simp [Region.wanted, yielded, putsL, Act.put, f5]
      refine fac_skip 11 rfl rfl rfl (fun _ _ h _ => h) Ext.refl ?_ ?_
      · intro sv w' hw' hfa
        obtain ⟨f0, f1, f2, f3, f4, f5, -⟩ := hfa
        replace f0 : sv 0 = _ := f0
        try dsimp only at f0
        replace f1 : sv 1 = _ := f1
        try dsimp only at f1
        replace f2 : sv 2 = _ := f2
        try dsimp only at f2
        replace f3 : sv 3 = _ := f3
        try dsimp only at f3
        replace f4 : sv 4 = _ := f4
        try dsimp only at f4
        replace f5 : sv 5 = _ := f5
        try dsimp only at f5
        simp [Region.wanted, yielded, putsL, Act.put, f5]
      refine fac_skip 12 rfl rfl rfl (fun _ _ h _ => h) Ext.refl ?_ ?_
      · intro sv w' hw' hfa
        obtain ⟨f0, f1, f2, f3, f4, f5, f6, f7, f8, f9, f10, f11, -⟩ := hfa
        replace f0 : sv 0 = _ := f0
        try dsimp only at f0
        replace f1 : sv 1 = _ := f1
        try dsimp only at f1
        replace f2 : sv 2 = _ := f2
        try dsimp only at f2
        replace f3 : sv 3 = _ := f3
        try dsimp only at f3
        replace f4 : sv 4 = _ := f4
        try dsimp only at f4
        replace f5 : sv 5 = _ := f5
        try dsimp only at f5
        replace f6 : sv 6 = _ := f6
        try dsimp only at f6
        replace f7 : sv 7 = _ := f7
        try dsimp only at f7
        replace f8 : sv 8 = _ := f8
        try dsimp only at f8
        replace f9 : sv 9 = _ := f9
        try dsimp only at f9
        replace f10 : sv 10 = _ := f10
        try dsimp only at f10
        replace f11 : sv 11 = _ := f11
        try dsimp only at f11
        simp [Region.wanted, yielded, putsL, Act.put, f5, f9, f10, f11]
      refine fac_quiet 13 rfl rfl rfl (fun _ _ h _ => h) rfl rfl ?_
      apply Exists.intro
      refine ⟨fun sv w' hw' hfa => ?_, ?_⟩
      · obtain ⟨_, _, _, _, _, f5, _, _, _, _, _, _, f12, -⟩ := hfa
        replace f5 : sv 5 = _ := f5
        try dsimp only at f5
        replace f12 : sv 12 = _ := f12
        try dsimp only at f12
        refine ⟨rfl, ?_⟩
        simp only [putsL]
        change quietTo _ _ _ _ (Sem.run _ (execOp (Act.eval (Act.put (Act.put (Act.put (Act.put (Act.put (Act.put (Act.put (Act.put (Act.put (Act.put (Act.put (Act.put (Act.put _ (some 35) (sv 12)) (some 34) (sv 11)) (some 33) (sv 10)) (some 32) (sv 9)) (some 31) (sv 8)) (some 30) (sv 7)) (some 29) (sv 6)) (some 28) (sv 5)) (some 27) (sv 4)) (some 26) (sv 3)) (some 25) (sv 2)) (some 24) (sv 1)) (some 23) (sv 0))) _) _)
        try simp only [Act.put, List.setIfInBounds_toArray, List.set_cons_succ, List.set_cons_zero]
        simp [go_sem, quietTo, Ext.refl, ↓IntWalk.iteOmega, f5, f12]
        all_goals try simp (disch := omega) only [IntWalk.i64_in]
        all_goals first
          | rfl
      refine fac_quiet 14 rfl rfl rfl (fun _ _ h _ => h) rfl rfl ?_
      apply Exists.intro
      refine ⟨fun sv w' hw' hfa => ?_, ?_⟩
      · obtain ⟨_, _, _, _, _, _, _, _, _, _, _, _, _, f13, -⟩ := hfa
        replace f13 : sv 13 = _ := f13
        try dsimp only at f13
        refine ⟨rfl, ?_⟩
        simp only [putsL]
        change quietTo _ _ _ _ (Sem.run _ (execOp (Act.eval (Act.put (Act.put (Act.put (Act.put (Act.put (Act.put (Act.put (Act.put (Act.put (Act.put (Act.put (Act.put (Act.put (Act.put _ (some 36) (sv 13)) (some 35) (sv 12)) (some 34) (sv 11)) (some 33) (sv 10)) (some 32) (sv 9)) (some 31) (sv 8)) (some 30) (sv 7)) (some 29) (sv 6)) (some 28) (sv 5)) (some 27) (sv 4)) (some 26) (sv 3)) (some 25) (sv 2)) (some 24) (sv 1)) (some 23) (sv 0))) _) _)
        try simp only [Act.put, List.setIfInBounds_toArray, List.set_cons_succ, List.set_cons_zero]
        simp [go_sem, quietTo, Ext.refl, f13]
        all_goals first
          | rfl
      refine fac_skip 15 rfl rfl rfl (fun _ _ h _ => h) Ext.refl ?_ ?_
      · intro sv w' hw' hfa
        obtain ⟨f0, f1, f2, f3, f4, f5, f6, f7, f8, f9, f10, f11, f12, f13, f14, -⟩ := hfa
        replace f0 : sv 0 = _ := f0
        try dsimp only at f0
        replace f1 : sv 1 = _ := f1
        try dsimp only at f1
        replace f2 : sv 2 = _ := f2
        try dsimp only at f2
        replace f3 : sv 3 = _ := f3
        try dsimp only at f3
        replace f4 : sv 4 = _ := f4
        try dsimp only at f4
        replace f5 : sv 5 = _ := f5
        try dsimp only at f5
        replace f6 : sv 6 = _ := f6
        try dsimp only at f6
        replace f7 : sv 7 = _ := f7
        try dsimp only at f7
        replace f8 : sv 8 = _ := f8
        try dsimp only at f8
        replace f9 : sv 9 = _ := f9
        try dsimp only at f9
        replace f10 : sv 10 = _ := f10
        try dsimp only at f10
        replace f11 : sv 11 = _ := f11
        try dsimp only at f11
        replace f12 : sv 12 = _ := f12
        try dsimp only at f12
        replace f13 : sv 13 = _ := f13
        try dsimp only at f13
        replace f14 : sv 14 = _ := f14
        try dsimp only at f14
        simp [Region.wanted, yielded, putsL, Act.put, f14]
      refine fac_skip 16 rfl rfl rfl (fun _ _ h _ => h) Ext.refl ?_ ?_
      · intro sv w' hw' hfa
        obtain ⟨f0, f1, f2, f3, f4, f5, f6, f7, f8, f9, f10, f11, f12, f13, f14, -⟩ := hfa
        replace f0 : sv 0 = _ := f0
        try dsimp only at f0
        replace f1 : sv 1 = _ := f1
        try dsimp only at f1
        replace f2 : sv 2 = _ := f2
        try dsimp only at f2
        replace f3 : sv 3 = _ := f3
        try dsimp only at f3
        replace f4 : sv 4 = _ := f4
        try dsimp only at f4
        replace f5 : sv 5 = _ := f5
        try dsimp only at f5
        replace f6 : sv 6 = _ := f6
        try dsimp only at f6
        replace f7 : sv 7 = _ := f7
        try dsimp only at f7
        replace f8 : sv 8 = _ := f8
        try dsimp only at f8
        replace f9 : sv 9 = _ := f9
        try dsimp only at f9
        replace f10 : sv 10 = _ := f10
        try dsimp only at f10
        replace f11 : sv 11 = _ := f11
        try dsimp only at f11
        replace f12 : sv 12 = _ := f12
        try dsimp only at f12
        replace f13 : sv 13 = _ := f13
        try dsimp only at f13
        replace f14 : sv 14 = _ := f14
        try dsimp only at f14
        simp [Region.wanted, yielded, putsL, Act.put, f14]
      refine fac_skip 17 rfl rfl rfl (fun _ _ h _ => h) Ext.refl ?_ ?_
      · intro sv w' hw' hfa
        obtain ⟨f0, f1, f2, f3, f4, f5, f6, f7, f8, f9, f10, f11, f12, f13, f14, f15, f16, -⟩ := hfa
        replace f0 : sv 0 = _ := f0
        try dsimp only at f0
        replace f1 : sv 1 = _ := f1
        try dsimp only at f1
        replace f2 : sv 2 = _ := f2
        try dsimp only at f2
        replace f3 : sv 3 = _ := f3
        try dsimp only at f3
        replace f4 : sv 4 = _ := f4
        try dsimp only at f4
        replace f5 : sv 5 = _ := f5
        try dsimp only at f5
        replace f6 : sv 6 = _ := f6
        try dsimp only at f6
        replace f7 : sv 7 = _ := f7
        try dsimp only at f7
        replace f8 : sv 8 = _ := f8
        try dsimp only at f8
        replace f9 : sv 9 = _ := f9
        try dsimp only at f9
        replace f10 : sv 10 = _ := f10
        try dsimp only at f10
        replace f11 : sv 11 = _ := f11
        try dsimp only at f11
        replace f12 : sv 12 = _ := f12
        try dsimp only at f12
        replace f13 : sv 13 = _ := f13
        try dsimp only at f13
        replace f14 : sv 14 = _ := f14
        try dsimp only at f14
        replace f15 : sv 15 = _ := f15
        try dsimp only at f15
        replace f16 : sv 16 = _ := f16
        try dsimp only at f16
        simp [Region.wanted, yielded, putsL, Act.put, f14, f15, f16]
      refine fac_skip 18 rfl rfl rfl (fun _ _ h _ => h) Ext.refl ?_ ?_
      · intro sv w' hw' hfa
        obtain ⟨f0, f1, f2, f3, f4, f5, f6, f7, f8, f9, f10, f11, f12, f13, f14, -⟩ := hfa
        replace f0 : sv 0 = _ := f0
        try dsimp only at f0
        replace f1 : sv 1 = _ := f1
        try dsimp only at f1
        replace f2 : sv 2 = _ := f2
        try dsimp only at f2
        replace f3 : sv 3 = _ := f3
        try dsimp only at f3
        replace f4 : sv 4 = _ := f4
        try dsimp only at f4
        replace f5 : sv 5 = _ := f5
        try dsimp only at f5
        replace f6 : sv 6 = _ := f6
        try dsimp only at f6
        replace f7 : sv 7 = _ := f7
        try dsimp only at f7
        replace f8 : sv 8 = _ := f8
        try dsimp only at f8
        replace f9 : sv 9 = _ := f9
        try dsimp only at f9
        replace f10 : sv 10 = _ := f10
        try dsimp only at f10
        replace f11 : sv 11 = _ := f11
        try dsimp only at f11
        replace f12 : sv 12 = _ := f12
        try dsimp only at f12
        replace f13 : sv 13 = _ := f13
        try dsimp only at f13
        replace f14 : sv 14 = _ := f14
        try dsimp only at f14
        simp [Region.wanted, yielded, putsL, Act.put, f14]
      refine fac_skip 19 rfl rfl rfl (fun _ _ h _ => h) Ext.refl ?_ ?_
      · intro sv w' hw' hfa
        obtain ⟨f0, f1, f2, f3, f4, f5, f6, f7, f8, f9, f10, f11, f12, f13, f14, -⟩ := hfa
        replace f0 : sv 0 = _ := f0
        try dsimp only at f0
        replace f1 : sv 1 = _ := f1
        try dsimp only at f1
        replace f2 : sv 2 = _ := f2
        try dsimp only at f2
        replace f3 : sv 3 = _ := f3
        try dsimp only at f3
        replace f4 : sv 4 = _ := f4
        try dsimp only at f4
        replace f5 : sv 5 = _ := f5
        try dsimp only at f5
        replace f6 : sv 6 = _ := f6
        try dsimp only at f6
        replace f7 : sv 7 = _ := f7
        try dsimp only at f7
        replace f8 : sv 8 = _ := f8
        try dsimp only at f8
        replace f9 : sv 9 = _ := f9
        try dsimp only at f9
        replace f10 : sv 10 = _ := f10
        try dsimp only at f10
        replace f11 : sv 11 = _ := f11
        try dsimp only at f11
        replace f12 : sv 12 = _ := f12
        try dsimp only at f12
        replace f13 : sv 13 = _ := f13
        try dsimp only at f13
        replace f14 : sv 14 = _ := f14
        try dsimp only at f14
        simp [Region.wanted, yielded, putsL, Act.put, f14]
      refine fac_skip 20 rfl rfl rfl (fun _ _ h _ => h) Ext.refl ?_ ?_
      · intro sv w' hw' hfa
        obtain ⟨f0, f1, f2, f3, f4, f5, f6, f7, f8, f9, f10, f11, f12, f13, f14, f18, f19, -⟩ := hfa
        replace f0 : sv 0 = _ := f0
        try dsimp only at f0
        replace f1 : sv 1 = _ := f1
        try dsimp only at f1
        replace f2 : sv 2 = _ := f2
        try dsimp only at f2
        replace f3 : sv 3 = _ := f3
        try dsimp only at f3
        replace f4 : sv 4 = _ := f4
        try dsimp only at f4
        replace f5 : sv 5 = _ := f5
        try dsimp only at f5
        replace f6 : sv 6 = _ := f6
        try dsimp only at f6
        replace f7 : sv 7 = _ := f7
        try dsimp only at f7
        replace f8 : sv 8 = _ := f8
        try dsimp only at f8
        replace f9 : sv 9 = _ := f9
        try dsimp only at f9
        replace f10 : sv 10 = _ := f10
        try dsimp only at f10
        replace f11 : sv 11 = _ := f11
        try dsimp only at f11
        replace f12 : sv 12 = _ := f12
        try dsimp only at f12
        replace f13 : sv 13 = _ := f13
        try dsimp only at f13
        replace f14 : sv 14 = _ := f14
        try dsimp only at f14
        replace f18 : sv 18 = _ := f18
        try dsimp only at f18
        replace f19 : sv 19 = _ := f19
        try dsimp only at f19
        simp [Region.wanted, yielded, putsL, Act.put, f14, f18, f19]
      refine fac_skip 21 rfl rfl rfl (fun _ _ h _ => h) Ext.refl ?_ ?_
      · intro sv w' hw' hfa
        obtain ⟨f0, f1, f2, f3, f4, f5, f6, f7, f8, f9, f10, f11, f12, f13, f14, f15, f16, f17, f18, f19, f20, -⟩ := hfa
        replace f0 : sv 0 = _ := f0
        try dsimp only at f0
        replace f1 : sv 1 = _ := f1
        try dsimp only at f1
        replace f2 : sv 2 = _ := f2
        try dsimp only at f2
        replace f3 : sv 3 = _ := f3
        try dsimp only at f3
        replace f4 : sv 4 = _ := f4
        try dsimp only at f4
        replace f5 : sv 5 = _ := f5
        try dsimp only at f5
        replace f6 : sv 6 = _ := f6
        try dsimp only at f6
        replace f7 : sv 7 = _ := f7
        try dsimp only at f7
        replace f8 : sv 8 = _ := f8
        try dsimp only at f8
        replace f9 : sv 9 = _ := f9
        try dsimp only at f9
        replace f10 : sv 10 = _ := f10
        try dsimp only at f10
        replace f11 : sv 11 = _ := f11
        try dsimp only at f11
        replace f12 : sv 12 = _ := f12
        try dsimp only at f12
        replace f13 : sv 13 = _ := f13
        try dsimp only at f13
        replace f14 : sv 14 = _ := f14
        try dsimp only at f14
        replace f15 : sv 15 = _ := f15
        try dsimp only at f15
        replace f16 : sv 16 = _ := f16
        try dsimp only at f16
        replace f17 : sv 17 = _ := f17
        try dsimp only at f17
        replace f18 : sv 18 = _ := f18
        try dsimp only at f18
        replace f19 : sv 19 = _ := f19
        try dsimp only at f19
        replace f20 : sv 20 = _ := f20
        try dsimp only at f20
        simp [Region.wanted, yielded, putsL, Act.put, f14, f17, f20]
      refine fac_quiet 22 rfl rfl rfl (fun _ _ h _ => h) rfl rfl ?_
      apply Exists.intro
      refine ⟨fun sv w' hw' hfa => ?_, ?_⟩
      · obtain ⟨_, _, _, _, _, _, _, _, _, _, _, _, _, _, f14, _, _, _, _, _, _, f21, -⟩ := hfa
        replace f14 : sv 14 = _ := f14
        try dsimp only at f14
        replace f21 : sv 21 = _ := f21
        try dsimp only at f21
        refine ⟨rfl, ?_⟩
        simp only [putsL]
        change quietTo _ _ _ _ (Sem.run _ (execOp (Act.eval (Act.put (Act.put (Act.put (Act.put (Act.put (Act.put (Act.put (Act.put (Act.put (Act.put (Act.put (Act.put (Act.put (Act.put (Act.put (Act.put (Act.put (Act.put (Act.put (Act.put (Act.put (Act.put _ (some 44) (sv 21)) (some 43) (sv 20)) (some 42) (sv 19)) (some 41) (sv 18)) (some 40) (sv 17)) (some 39) (sv 16)) (some 38) (sv 15)) (some 37) (sv 14)) (some 36) (sv 13)) (some 35) (sv 12)) (some 34) (sv 11)) (some 33) (sv 10)) (some 32) (sv 9)) (some 31) (sv 8)) (some 30) (sv 7)) (some 29) (sv 6)) (some 28) (sv 5)) (some 27) (sv 4)) (some 26) (sv 3)) (some 25) (sv 2)) (some 24) (sv 1)) (some 23) (sv 0))) _) _)
        try simp only [Act.put, List.setIfInBounds_toArray, List.set_cons_succ, List.set_cons_zero]
        simp [go_sem, quietTo, Ext.refl, ↓IntWalk.iteOmega, f14, f21]
        all_goals try simp (disch := omega) only [IntWalk.i64_in]
        all_goals first
          | rfl
      refine fac_nil fun xq wrq herq hfrq hcrq holdq hapq => ?_
      obtain ⟨f0, f1, f2, f3, f4, f5, f6, f7, f8, f9, f10, f11, f12, f13, f14, f15, f16, f17, f18, f19, f20, f21, f22, -⟩ := hfrq
      replace f0 : xq 0 = _ := f0
      try dsimp only at f0
      replace f1 : xq 1 = _ := f1
      try dsimp only at f1
      replace f2 : xq 2 = _ := f2
      try dsimp only at f2
      replace f3 : xq 3 = _ := f3
      try dsimp only at f3
      replace f4 : xq 4 = _ := f4
      try dsimp only at f4
      replace f5 : xq 5 = _ := f5
      try dsimp only at f5
      replace f6 : xq 6 = _ := f6
      try dsimp only at f6
      replace f7 : xq 7 = _ := f7
      try dsimp only at f7
      replace f8 : xq 8 = _ := f8
      try dsimp only at f8
      replace f9 : xq 9 = _ := f9
      try dsimp only at f9
      replace f10 : xq 10 = _ := f10
      try dsimp only at f10
      replace f11 : xq 11 = _ := f11
      try dsimp only at f11
      replace f12 : xq 12 = _ := f12
      try dsimp only at f12
      replace f13 : xq 13 = _ := f13
      try dsimp only at f13
      replace f14 : xq 14 = _ := f14
      try dsimp only at f14
      replace f15 : xq 15 = _ := f15
      try dsimp only at f15
      replace f16 : xq 16 = _ := f16
      try dsimp only at f16
      replace f17 : xq 17 = _ := f17
      try dsimp only at f17
      replace f18 : xq 18 = _ := f18
      try dsimp only at f18
      replace f19 : xq 19 = _ := f19
      try dsimp only at f19
      replace f20 : xq 20 = _ := f20
      try dsimp only at f20
      replace f21 : xq 21 = _ := f21
      try dsimp only at f21
      replace f22 : xq 22 = _ := f22
      try dsimp only at f22
      change wpList _ _ _ _ (Act.put (Act.put (Act.put (Act.put (Act.put (Act.put (Act.put (Act.put (Act.put (Act.put (Act.put (Act.put (Act.put (Act.put (Act.put (Act.put (Act.put (Act.put (Act.put (Act.put (Act.put (Act.put (Act.put _ (some 23) (xq 0)) (some 24) (xq 1)) (some 25) (xq 2)) (some 26) (xq 3)) (some 27) (xq 4)) (some 28) (xq 5)) (some 29) (xq 6)) (some 30) (xq 7)) (some 31) (xq 8)) (some 32) (xq 9)) (some 33) (xq 10)) (some 34) (xq 11)) (some 35) (xq 12)) (some 36) (xq 13)) (some 37) (xq 14)) (some 38) (xq 15)) (some 39) (xq 16)) (some 40) (xq 17)) (some 41) (xq 18)) (some 42) (xq 19)) (some 43) (xq 20)) (some 44) (xq 21)) (some 45) (xq 22)) _
      simp only [putsL, Nat.reduceAdd, List.drop_succ_cons, List.drop_zero, List.drop_nil, Act.put, List.setIfInBounds_toArray, List.set_cons_succ, List.set_cons_zero]
      try simp only [f0, f1, f2, f3, f4, f5, f6, f7, f8, f9, f10, f11, f12, f13, f14, f15, f16, f17, f18, f19, f20, f21, f22]
      clear f0 f1 f2 f3 f4 f5 f6 f7 f8 f9 f10 f11 f12 f13 f14 f15 f16 f17 f18 f19 f20 f21 f22
      clear holdq hapq
      go_wp2
      go_ret
      exact ⟨ret_bool (by rw [show decide (x.row < y.row) = false from decide_eq_false (by omega)]; rfl), he.trans ((Ext.refl _).drew.trans herq)⟩
end
end Go.Proofs.YtfbegdcmnfkhgaaGreatDoor
