/- How high somebody stands; who hides whom. Conditions: the stands are on the stage, those who stand are people. -/
import Derived.Test.YtfcoeikekbjgpaaGreatDoorSxStH
set_option linter.unusedSimpArgs false
set_option linter.unusedVariables false
namespace Go.Proofs.YtfcoeikekbjgpaaGreatDoor
open Go Go.RowKit

theorem heightOf_is {P : List PersonV} (hok : PeopleOk P) {k : Nat} {q : PersonV} (hq : P[k]? = some q) : heightOf P q.name = q.high := by
  unfold heightOf
  have hm := List.mem_of_getElem? hq
  cases hf : P.find? fun x => x.name.toList == q.name.toList with
  | none =>
    have := List.find?_eq_none.1 hf q hm
    simp at this
  | some r =>
    have h1 := List.find?_some hf
    have h2 := List.mem_of_find?_eq_some hf
    obtain ⟨j, hj, e⟩ := List.getElem_of_mem h2
    have hjr : P[j]? = some r := by rw [List.getElem?_eq_getElem hj, e]
    have h3 : r.name = q.name := by
      have h4 := eq_of_beq h1
      rw [ByteArray.toList_eq, ByteArray.toList_eq] at h4
      obtain ⟨⟨a⟩⟩ := r
      cases hqn : q.name with
      | mk b =>
        rw [hqn] at h4
        simp only at h4 ⊢
        congr 1
        exact Array.toList_inj.1 h4
    have := hok.names hjr hq h3
    subst this
    rw [hjr] at hq
    cases hq
    rfl

set_option maxRecDepth 100000 in
set_option maxHeartbeats 1600000 in
theorem person_any (g : Nat) (pp : Option Addr) (pc : Nat) (P : List PersonV) (wp : Option Addr) (wc : Nat) (wide : List Int) (hp : Option Addr) (hc : Nat) (high : List Int) (lp : Option Addr) (lc : Nat) (S : List StandV) (w : World) (h : ChM w g pp pc P wp wc wide hp hc high lp lc S) (hpo : PeopleOk P) (hl : S.length ≤ 1000) {i : Nat} {x : StandV} (hx : S[i]? = some x) {k : Nat} {q : PersonV} (hq : P[k]? = some q) (hqn : q.name = x.name) :
    Calls Tryz.prog 102 #[.pointer (some ⟨g, 0, none⟩), .int .i64 i] w fun e w' => e = .returned (.agg #[.string q.name, .int .i64 q.high, .string q.sect]) ∧ Ext w w' := by
  have hat : ∀ u, Ext w u → Calls Tryz.prog 97 #[.slice pp P.length pc, .string x.name] u fun e w' => e = .returned (.tuple #[.int .i64 k, .bool true]) ∧ Ext u w' := fun u hu =>
    (personAt_any pp P.length pc P x.name u (h.per.ext hu) hpo).mono fun e w' ⟨k', is, he, hE, h1, h2⟩ => by
      cases is
      · exact absurd hqn (h2 rfl q (List.mem_of_getElem? hq))
      · obtain ⟨y, hy, hyn⟩ := h1 rfl
        have := hpo.names hy hq (hyn.trans hqn.symm)
        subst this
        exact ⟨he, hE⟩
  have hi := (List.getElem?_eq_some_iff.1 hx).1
  have hk := (List.getElem?_eq_some_iff.1 hq).1
  have hpl := hpo.len
  rcases (slcC h.sta).2 with ⟨-, e⟩ | ⟨b, off, rfl, hb, hEl⟩
  · rw [e] at hx; cases hx
  rcases (slcC h.per).2 with ⟨-, e⟩ | ⟨pb, po, rfl, hpb, hEp⟩
  · rw [e] at hq; cases hq
  obtain ⟨c0, c1, c2⟩ := hEl.sta hx
  obtain ⟨d0, d1, d2⟩ := hEp.per hq
  have hE0 : Ext w (w.alloc (.cells #[.string ⟨#[]⟩, .int .i64 0, .string ⟨#[]⟩] 59)) := (Ext.refl _).alloc _
  have hR : Blk (w.alloc (.cells #[.string ⟨#[]⟩, .int .i64 0, .string ⟨#[]⟩] 59)) w.heap.size 59 #[.string ⟨#[]⟩, .int .i64 0, .string ⟨#[]⟩] := Blk.new' rfl
  have hB := h.blk.ext hE0
  have hiI : (i : Int) < S.length := by omega
  have hkI : (k : Int) < P.length := by omega
  replace hat := Lib.hid hat
  rw [hqn] at d0 ⊢
  clear h hpo hx hq hEl hEp hqn
  go_enter Tryz.func102, Tryz.ntmps102
  go_upto_region 1 with fail
  generalize w.alloc (.cells #[.string ⟨#[]⟩, .int .i64 0, .string ⟨#[]⟩] 59) = W at *
  refine wp_region_facts [15] [([], false, false), ([0], false, false), ([0, 1], false, false), ([0, 1, 2], false, false), ([], false, false), ([4], false, false), ([4, 5], false, false), ([4, 5, 6], false, false), ([], false, false), ([4, 5, 6, 7, 8], false, false), ([4, 5, 6, 7, 8, 9], false, false), ([4, 5, 6, 7, 8, 9, 10], false, false), ([0, 1, 2, 3, 4, 5, 6, 7, 8, 9, 10, 11], false, false), ([0, 1, 2, 3, 4, 5, 6, 7, 8, 9, 10, 11, 12], false, false), ([0, 1, 2, 3, 4, 5, 6, 7, 8, 9, 10, 11, 12, 13], false, false), ([0, 1, 2, 3, 4, 5, 6, 7, 8, 9, 10, 11, 12, 13], false, false)] (Ext) Ext (fun _ => True) (by kernel_rfl) (by kernel_rfl) Ext.refl (fun _ _ _ => Ext.trans) (fun _ _ h => h) (fun _ _ h => h.size) (fun _ _ h _ => h) trivial ?_
  dsimp only [List.length_cons, List.length_nil, List.drop_succ_cons, List.drop_zero, List.drop_nil]
  refine fac_quiet 0 rfl rfl rfl (fun _ _ h _ => h) rfl rfl ?_
  apply Exists.intro
  refine ⟨fun sv w' hw' hfa => ?_, ?_⟩
  · refine ⟨rfl, ?_⟩
    simp only [putsL]
    change quietTo _ _ _ _ (Sem.run _ (execOp (Act.eval _) _) _)
    try simp only [Act.put, List.setIfInBounds_toArray, List.set_cons_succ, List.set_cons_zero]
    simp [go_sem, quietTo, Ext.refl]
    all_goals first
      | rfl
  refine fac_quiet 1 rfl rfl rfl (fun _ _ h _ => h) rfl rfl ?_
  apply Exists.intro
  refine ⟨fun sv w' hw' hfa => ?_, ?_⟩
  · obtain ⟨f0, -⟩ := hfa
    replace f0 : sv 0 = _ := f0
    try dsimp only at f0
    refine ⟨rfl, ?_⟩
    simp only [putsL]
    change quietTo _ _ _ _ (Sem.run _ (execOp (Act.eval (Act.put _ (some 8) (sv 0))) _) _)
    try simp only [Act.put, List.setIfInBounds_toArray, List.set_cons_succ, List.set_cons_zero]
    simp [go_sem, quietTo, Ext.refl, f0]
    all_goals first
      | rfl
  refine fac_quiet 2 rfl rfl rfl (fun _ _ h _ => h) rfl rfl ?_
  apply Exists.intro
  refine ⟨fun sv w' hw' hfa => ?_, ?_⟩
  · obtain ⟨_, f1, -⟩ := hfa
    replace f1 : sv 1 = _ := f1
    try dsimp only at f1
    refine ⟨rfl, ?_⟩
    simp only [putsL]
    change quietTo _ _ _ _ (Sem.run _ (execOp (Act.eval (Act.put (Act.put _ (some 9) (sv 1)) (some 8) (sv 0))) _) _)
    try simp only [Act.put, List.setIfInBounds_toArray, List.set_cons_succ, List.set_cons_zero]
    simp [go_sem, quietTo, Ext.refl, f1]
    all_goals first
      | rfl
  refine fac_quiet 3 rfl rfl rfl (fun _ _ h _ => h) rfl rfl ?_
  apply Exists.intro
  refine ⟨fun sv w' hw' hfa => ?_, ?_⟩
  · obtain ⟨_, _, f2, -⟩ := hfa
    replace f2 : sv 2 = _ := f2
    try dsimp only at f2
    have hk9 := (Ext.refl W).drew.trans hw'; obtain ⟨y1, -⟩ := (hB.ext hk9).walk; obtain ⟨hc9, hff, hz9⟩ := (hE0.trans hk9).walk; have v0 := (hc9 _ _ hb).trans c0
    refine ⟨rfl, ?_⟩
    simp only [putsL]
    change quietTo _ _ _ _ (Sem.run _ (execOp (Act.eval (Act.put (Act.put (Act.put _ (some 10) (sv 2)) (some 9) (sv 1)) (some 8) (sv 0))) _) _)
    try simp only [Act.put, List.setIfInBounds_toArray, List.set_cons_succ, List.set_cons_zero]
    simp [go_sem, quietTo, Ext.refl, ↓IntWalk.iteOmega, f2, y1]
    all_goals try simp (disch := omega) only [IntWalk.i64_in]
    all_goals first
      | rfl
  refine fac_quiet 4 rfl rfl rfl (fun _ _ h _ => h) rfl rfl ?_
  apply Exists.intro
  refine ⟨fun sv w' hw' hfa => ?_, ?_⟩
  · refine ⟨rfl, ?_⟩
    simp only [putsL]
    change quietTo _ _ _ _ (Sem.run _ (execOp (Act.eval _) _) _)
    try simp only [Act.put, List.setIfInBounds_toArray, List.set_cons_succ, List.set_cons_zero]
    simp [go_sem, quietTo, Ext.refl]
    all_goals first
      | rfl
  refine fac_quiet 5 rfl rfl rfl (fun _ _ h _ => h) rfl rfl ?_
  apply Exists.intro
  refine ⟨fun sv w' hw' hfa => ?_, ?_⟩
  · obtain ⟨f4, -⟩ := hfa
    replace f4 : sv 4 = _ := f4
    try dsimp only at f4
    refine ⟨rfl, ?_⟩
    simp only [putsL]
    change quietTo _ _ _ _ (Sem.run _ (execOp (Act.eval (Act.put _ (some 12) (sv 4))) _) _)
    try simp only [Act.put, List.setIfInBounds_toArray, List.set_cons_succ, List.set_cons_zero]
    simp [go_sem, quietTo, Ext.refl, f4]
    all_goals first
      | rfl
  refine fac_quiet 6 rfl rfl rfl (fun _ _ h _ => h) rfl rfl ?_
  apply Exists.intro
  refine ⟨fun sv w' hw' hfa => ?_, ?_⟩
  · obtain ⟨_, f5, -⟩ := hfa
    replace f5 : sv 5 = _ := f5
    try dsimp only at f5
    refine ⟨rfl, ?_⟩
    simp only [putsL]
    change quietTo _ _ _ _ (Sem.run _ (execOp (Act.eval (Act.put (Act.put _ (some 13) (sv 5)) (some 12) (sv 4))) _) _)
    try simp only [Act.put, List.setIfInBounds_toArray, List.set_cons_succ, List.set_cons_zero]
    simp [go_sem, quietTo, Ext.refl, f5]
    all_goals first
      | rfl
  refine fac_quiet 7 rfl rfl rfl (fun _ _ h _ => h) rfl rfl ?_
  apply Exists.intro
  refine ⟨fun sv w' hw' hfa => ?_, ?_⟩
  · obtain ⟨_, _, f6, -⟩ := hfa
    replace f6 : sv 6 = _ := f6
    try dsimp only at f6
    have hk9 := (Ext.refl W).drew.trans hw'; obtain ⟨y1, -⟩ := (hB.ext hk9).walk; obtain ⟨hc9, hff, hz9⟩ := (hE0.trans hk9).walk; have v0 := (hc9 _ _ hb).trans c0
    refine ⟨rfl, ?_⟩
    simp only [putsL]
    change quietTo _ _ _ _ (Sem.run _ (execOp (Act.eval (Act.put (Act.put (Act.put _ (some 14) (sv 6)) (some 13) (sv 5)) (some 12) (sv 4))) _) _)
    try simp only [Act.put, List.setIfInBounds_toArray, List.set_cons_succ, List.set_cons_zero]
    simp [go_sem, quietTo, Ext.refl, ↓IntWalk.iteOmega, f6, y1]
    all_goals try simp (disch := omega) only [IntWalk.i64_in]
    all_goals first
      | rfl
  refine fac_quiet 8 rfl rfl rfl (fun _ _ h _ => h) rfl rfl ?_
  apply Exists.intro
  refine ⟨fun sv w' hw' hfa => ?_, ?_⟩
  · refine ⟨rfl, ?_⟩
    simp only [putsL]
    change quietTo _ _ _ _ (Sem.run _ (execOp (Act.eval _) _) _)
    try simp only [Act.put, List.setIfInBounds_toArray, List.set_cons_succ, List.set_cons_zero]
    simp [go_sem, quietTo, Ext.refl]
    all_goals first
      | rfl
  refine fac_quiet 9 rfl rfl rfl (fun _ _ h _ => h) rfl rfl ?_
  apply Exists.intro
  refine ⟨fun sv w' hw' hfa => ?_, ?_⟩
  · obtain ⟨_, _, _, f7, f8, -⟩ := hfa
    replace f7 : sv 7 = _ := f7
    try dsimp only at f7
    replace f8 : sv 8 = _ := f8
    try dsimp only at f8
    have hk9 := (Ext.refl W).drew.trans hw'; obtain ⟨y1, -⟩ := (hB.ext hk9).walk; obtain ⟨hc9, hff, hz9⟩ := (hE0.trans hk9).walk; have v0 := (hc9 _ _ hb).trans c0
    refine ⟨rfl, ?_⟩
    simp only [putsL]
    change quietTo _ _ _ _ (Sem.run _ (execOp (Act.eval (Act.put (Act.put (Act.put (Act.put (Act.put _ (some 16) (sv 8)) (some 15) (sv 7)) (some 14) (sv 6)) (some 13) (sv 5)) (some 12) (sv 4))) _) _)
    try simp only [Act.put, List.setIfInBounds_toArray, List.set_cons_succ, List.set_cons_zero]
    simp [go_sem, quietTo, Ext.refl, ↓IntWalk.iteOmega, f7, f8, hiI]
    all_goals try simp (disch := omega) only [IntWalk.i64_in]
    all_goals first
      | rfl
  refine fac_quiet 10 rfl rfl rfl (fun _ _ h _ => h) rfl rfl ?_
  apply Exists.intro
  refine ⟨fun sv w' hw' hfa => ?_, ?_⟩
  · obtain ⟨_, _, _, _, _, f9, -⟩ := hfa
    replace f9 : sv 9 = _ := f9
    try dsimp only at f9
    refine ⟨rfl, ?_⟩
    simp only [putsL]
    change quietTo _ _ _ _ (Sem.run _ (execOp (Act.eval (Act.put (Act.put (Act.put (Act.put (Act.put (Act.put _ (some 17) (sv 9)) (some 16) (sv 8)) (some 15) (sv 7)) (some 14) (sv 6)) (some 13) (sv 5)) (some 12) (sv 4))) _) _)
    try simp only [Act.put, List.setIfInBounds_toArray, List.set_cons_succ, List.set_cons_zero]
    simp [go_sem, quietTo, Ext.refl, f9]
    all_goals first
      | rfl
  refine fac_quiet 11 rfl rfl rfl (fun _ _ h _ => h) rfl rfl ?_
  apply Exists.intro
  refine ⟨fun sv w' hw' hfa => ?_, ?_⟩
  · obtain ⟨_, _, _, _, _, _, f10, -⟩ := hfa
    replace f10 : sv 10 = _ := f10
    try dsimp only at f10
    have hk9 := (Ext.refl W).drew.trans hw'; obtain ⟨y1, -⟩ := (hB.ext hk9).walk; obtain ⟨hc9, hff, hz9⟩ := (hE0.trans hk9).walk; have v0 := (hc9 _ _ hb).trans c0
    refine ⟨rfl, ?_⟩
    simp only [putsL]
    change quietTo _ _ _ _ (Sem.run _ (execOp (Act.eval (Act.put (Act.put (Act.put (Act.put (Act.put (Act.put (Act.put _ (some 18) (sv 10)) (some 17) (sv 9)) (some 16) (sv 8)) (some 15) (sv 7)) (some 14) (sv 6)) (some 13) (sv 5)) (some 12) (sv 4))) _) _)
    try simp only [Act.put, List.setIfInBounds_toArray, List.set_cons_succ, List.set_cons_zero]
    simp [go_sem, quietTo, Ext.refl, ↓IntWalk.iteOmega, f10, v0]
    all_goals try simp (disch := omega) only [IntWalk.i64_in]
    all_goals first
      | rfl
  refine fac_quiet 12 rfl rfl rfl (fun _ _ h _ => h) rfl rfl ?_
  apply Exists.intro
  refine ⟨fun sv w' hw' hfa => ?_, ?_⟩
  · obtain ⟨f0, f1, f2, f3, f4, f5, f6, f7, f8, f9, f10, f11, -⟩ := hfa
    replace f0 : sv 0 = _ := f0
    try dsimp only at f0
    replace f1 : sv 1 = _ := f1
    try dsimp only at f1
    replace f2 : sv 2 = _ := f2
    try dsimp only at f2
    replace f3 : sv 3 = _ := f3
    try dsimp only at f3
    replace f4 : sv 4 = _ := f4
    try dsimp only at f4
    replace f5 : sv 5 = _ := f5
    try dsimp only at f5
    replace f6 : sv 6 = _ := f6
    try dsimp only at f6
    replace f7 : sv 7 = _ := f7
    try dsimp only at f7
    replace f8 : sv 8 = _ := f8
    try dsimp only at f8
    replace f9 : sv 9 = _ := f9
    try dsimp only at f9
    replace f10 : sv 10 = _ := f10
    try dsimp only at f10
    replace f11 : sv 11 = _ := f11
    try dsimp only at f11
    have hk9 := (Ext.refl W).drew.trans hw'; obtain ⟨y1, -⟩ := (hB.ext hk9).walk; obtain ⟨hc9, hff, hz9⟩ := (hE0.trans hk9).walk; have v0 := (hc9 _ _ hb).trans c0
    refine ⟨rfl, ?_⟩
    simp only [putsL]
    change quietTo _ _ _ _ (Sem.run _ (execOp (Act.eval (Act.put (Act.put (Act.put (Act.put (Act.put (Act.put (Act.put (Act.put (Act.put (Act.put (Act.put (Act.put _ (some 19) (sv 11)) (some 18) (sv 10)) (some 17) (sv 9)) (some 16) (sv 8)) (some 15) (sv 7)) (some 14) (sv 6)) (some 13) (sv 5)) (some 12) (sv 4)) (some 11) (sv 3)) (some 10) (sv 2)) (some 9) (sv 1)) (some 8) (sv 0))) _) _)
    try simp only [Act.put, List.setIfInBounds_toArray, List.set_cons_succ, List.set_cons_zero]
    simp [go_sem, quietTo, Ext.refl, ↓IntWalk.iteOmega, f3, f11]
    all_goals try simp (disch := omega) only [IntWalk.i64_in]
    all_goals first
      | rfl
      | (exact hat.out _ (hE0.trans hk9))
  refine fac_quiet 13 rfl rfl rfl (fun _ _ h _ => h) rfl rfl ?_
  apply Exists.intro
  refine ⟨fun sv w' hw' hfa => ?_, ?_⟩
  · obtain ⟨_, _, _, _, _, _, _, _, _, _, _, _, f12, -⟩ := hfa
    replace f12 : sv 12 = _ := f12
    try dsimp only at f12
    refine ⟨rfl, ?_⟩
    simp only [putsL]
    change quietTo _ _ _ _ (Sem.run _ (execOp (Act.eval (Act.put (Act.put (Act.put (Act.put (Act.put (Act.put (Act.put (Act.put (Act.put (Act.put (Act.put (Act.put (Act.put _ (some 20) (sv 12)) (some 19) (sv 11)) (some 18) (sv 10)) (some 17) (sv 9)) (some 16) (sv 8)) (some 15) (sv 7)) (some 14) (sv 6)) (some 13) (sv 5)) (some 12) (sv 4)) (some 11) (sv 3)) (some 10) (sv 2)) (some 9) (sv 1)) (some 8) (sv 0))) _) _)
    try simp only [Act.put, List.setIfInBounds_toArray, List.set_cons_succ, List.set_cons_zero]
    simp [go_sem, quietTo, Ext.refl, f12]
    all_goals first
      | rfl
  refine fac_quiet 14 rfl rfl rfl (fun _ _ h _ => h) rfl rfl ?_
  apply Exists.intro
  refine ⟨fun sv w' hw' hfa => ?_, ?_⟩
  · obtain ⟨_, _, _, _, _, _, _, _, _, _, _, _, _, f13, -⟩ := hfa
    replace f13 : sv 13 = _ := f13
    try dsimp only at f13
    refine ⟨rfl, ?_⟩
    simp only [putsL]
    change quietTo _ _ _ _ (Sem.run _ (execOp (Act.eval (Act.put (Act.put (Act.put (Act.put (Act.put (Act.put (Act.put (Act.put (Act.put (Act.put (Act.put (Act.put (Act.put (Act.put _ (some 7) (sv 13)) (some 20) (sv 12)) (some 19) (sv 11)) (some 18) (sv 10)) (some 17) (sv 9)) (some 16) (sv 8)) (some 15) (sv 7)) (some 14) (sv 6)) (some 13) (sv 5)) (some 12) (sv 4)) (some 11) (sv 3)) (some 10) (sv 2)) (some 9) (sv 1)) (some 8) (sv 0))) _) _)
    try simp only [Act.put, List.setIfInBounds_toArray, List.set_cons_succ, List.set_cons_zero]
    simp [go_sem, quietTo, Ext.refl, f13]
    all_goals first
      | rfl
  refine fac_late 15 rfl rfl Ext.refl (fun _ _ h _ => h) rfl rfl (fun _ _ _ _ h => h) ?_
  apply Exists.intro
  refine ⟨fun sv w' hw' hfa => ?_, ?_⟩
  · obtain ⟨_, _, _, _, _, _, _, _, _, _, _, _, _, f13, -⟩ := hfa
    replace f13 : sv 13 = _ := f13
    try dsimp only at f13
    refine ⟨rfl, fun w2 => ?_⟩
    simp only [putsL]
    change pureTo _ _ (Sem.run _ (execOp (Act.eval (Act.put (Act.put (Act.put (Act.put (Act.put (Act.put (Act.put (Act.put (Act.put (Act.put (Act.put (Act.put (Act.put (Act.put _ (some 7) (sv 13)) (some 20) (sv 12)) (some 19) (sv 11)) (some 18) (sv 10)) (some 17) (sv 9)) (some 16) (sv 8)) (some 15) (sv 7)) (some 14) (sv 6)) (some 13) (sv 5)) (some 12) (sv 4)) (some 11) (sv 3)) (some 10) (sv 2)) (some 9) (sv 1)) (some 8) (sv 0))) _) _)
    try simp only [Act.put, List.setIfInBounds_toArray, List.set_cons_succ, List.set_cons_zero]
    simp [go_sem, pureTo, f13]
    all_goals try simp (disch := omega) only [IntWalk.i64_in]
    all_goals first
      | rfl
  refine fac_nil fun xq wrq herq hfrq hcrq holdq hapq => ?_
  obtain ⟨f0, f1, f2, f3, f4, f5, f6, f7, f8, f9, f10, f11, f12, f13, f14, f15, -⟩ := hfrq
  replace f0 : xq 0 = _ := f0
  try dsimp only at f0
  replace f1 : xq 1 = _ := f1
  try dsimp only at f1
  replace f2 : xq 2 = _ := f2
  try dsimp only at f2
  replace f3 : xq 3 = _ := f3
  try dsimp only at f3
  replace f4 : xq 4 = _ := f4
  try dsimp only at f4
  replace f5 : xq 5 = _ := f5
  try dsimp only at f5
  replace f6 : xq 6 = _ := f6
  try dsimp only at f6
  replace f7 : xq 7 = _ := f7
  try dsimp only at f7
  replace f8 : xq 8 = _ := f8
  try dsimp only at f8
  replace f9 : xq 9 = _ := f9
  try dsimp only at f9
  replace f10 : xq 10 = _ := f10
  try dsimp only at f10
  replace f11 : xq 11 = _ := f11
  try dsimp only at f11
  replace f12 : xq 12 = _ := f12
  try dsimp only at f12
  replace f13 : xq 13 = _ := f13
  try dsimp only at f13
  replace f14 : xq 14 = _ := f14
  try dsimp only at f14
  replace f15 : xq 15 = _ := f15
  try dsimp only at f15
  change wpList _ _ _ _ (Act.put (Act.put (Act.put (Act.put (Act.put (Act.put (Act.put (Act.put (Act.put (Act.put (Act.put (Act.put (Act.put (Act.put (Act.put (Act.put _ (some 8) (xq 0)) (some 9) (xq 1)) (some 10) (xq 2)) (some 11) (xq 3)) (some 12) (xq 4)) (some 13) (xq 5)) (some 14) (xq 6)) (some 15) (xq 7)) (some 16) (xq 8)) (some 17) (xq 9)) (some 18) (xq 10)) (some 19) (xq 11)) (some 20) (xq 12)) (some 7) (xq 13)) (some 21) (xq 14)) (some 22) (xq 15)) _
  simp only [putsL, Nat.reduceAdd, List.drop_succ_cons, List.drop_zero, List.drop_nil, Act.put, List.setIfInBounds_toArray, List.set_cons_succ, List.set_cons_zero]
  try simp only [f0, f1, f2, f3, f4, f5, f6, f7, f8, f9, f10, f11, f12, f13, f14, f15]
  clear f0 f1 f2 f3 f4 f5 f6 f7 f8 f9 f10 f11 f12 f13 f14 f15
  clear holdq hapq
  have hkq := (Ext.refl W).drew.trans herq
  obtain ⟨y1, -⟩ := (hB.ext hkq).walk
  obtain ⟨r1, r2⟩ := (hR.ext hkq).walk
  obtain ⟨hc9, hff, hz9⟩ := (hE0.trans hkq).walk
  have v0 := (hc9 _ _ hpb).trans d0
  have v1 := (hc9 _ _ hpb).trans d1
  have v2 := (hc9 _ _ hpb).trans d2
  have hRl := (hR.ext hkq).lt
  have hpw := Nat.lt_of_lt_of_le hpb (hE0.trans hkq).size
  have hww := hE0.size
  go_wp2
  have hF1 := ((((hR.ext hkq).set_ 0 (.string x.name)).set_ 1 (.int .i64 q.high)).set_ 2 (.string q.sect)).cast (cs' := #[.string x.name, .int .i64 q.high, .string q.sect]) (by simp)
  go_light
  exact bodyPost_ret (v := .agg #[.string x.name, .int .i64 q.high, .string q.sect]) (results_cell_row Tryz.results102 _ _ w.heap.size 59 _ (0, 0) _ rfl hF1 Tryz.underlying59 rfl (by kernel_rfl)) rfl ⟨rfl, (((hE0.trans hkq).setCell (p := ⟨w.heap.size, 0, none⟩) (Nat.le_refl _) _).setCell (p := ⟨w.heap.size, 1, none⟩) (Nat.le_refl _) _).setCell (p := ⟨w.heap.size, 2, none⟩) (Nat.le_refl _) _⟩
end Go.Proofs.YtfcoeikekbjgpaaGreatDoor
