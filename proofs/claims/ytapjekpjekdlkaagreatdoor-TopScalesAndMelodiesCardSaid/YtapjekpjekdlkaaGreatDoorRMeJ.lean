/- The choices of each step of a melody, by tune's text. Conditions: steps and notes lie in memory. -/
import Derived.Test.YtapjekpjekdlkaaGreatDoorRMeI
import Derived.Test.YtapjekpjekdlkaaGreatDoorRShelf
import Derived.Deep.DeepCutAuto
set_option linter.unusedSimpArgs false
set_option linter.unusedVariables false
namespace Go.Proofs.YtapjekpjekdlkaaGreatDoor
open Go Go.RowKit

theorem idx_first {α : Type} (p : α → Bool) (d : α) : ∀ (l : List α) (i : Nat), (Lib.idxByFrom (fun _ y => p y) d l i = -1 ∧ ∀ (j : Nat) x, l[j]? = some x → p x = false) ∨ ∃ k x, l[k]? = some x ∧ p x = true ∧ (∀ j y, j < k → l[j]? = some y → p y = false) ∧ Lib.idxByFrom (fun _ y => p y) d l i = ((i + k : Nat) : Int)
  | [], _ => .inl ⟨rfl, fun j x hx => by cases hx⟩
  | y :: r, i => by
    unfold Lib.idxByFrom
    cases h : p y
    · rcases idx_first p d r (i + 1) with ⟨h1, h2⟩ | ⟨k, x, hx, hp, hj, e⟩
      · refine .inl ⟨by simpa using h1, fun j x hx => ?_⟩
        cases j with
        | zero => cases hx; exact h
        | succ j => exact h2 j x hx
      · refine .inr ⟨k + 1, x, hx, hp, fun j z hjk hz => ?_, ?_⟩
        · cases j with
          | zero => cases hz; exact h
          | succ j => exact hj j z (by omega) hz
        · simp only [Bool.false_eq_true, if_false]
          rw [e]
          congr 1
          omega
    · exact .inr ⟨0, y, rfl, h, fun j z hj => by omega, by simp⟩
theorem find_at {α : Type} {p : α → Bool} : ∀ {l : List α} {k : Nat} {x : α}, l[k]? = some x → p x = true → (∀ j y, j < k → l[j]? = some y → p y = false) → l.find? p = some x
  | [], k, x, h, _, _ => by cases h
  | y :: l, 0, x, h, hp, _ => by cases h; exact List.find?_cons_of_pos hp
  | y :: l, k + 1, x, h, hp, hj => by
    rw [List.find?_cons_of_neg (by rw [hj 0 y (by omega) rfl]; decide)]
    exact find_at (k := k) h hp fun j z hjk hz => hj (j + 1) z (by omega) hz
set_option maxRecDepth 100000 in
theorem idxStep_nil (c : Nat) (fv : Value) (w : World) : Calls Tryz.prog 9 #[.slice none 0 c, fv] w fun e w' => e = .returned (.int .i64 (-1)) ∧ Ext w w' := by
  go_enter Tryz.func9, Tryz.ntmps9
  go_wp2
  refine wp_loop_rounds 1 ?_
  rw [rounds_succ]
  go_wp2
  go_ret
  exact ⟨rfl, Ext.refl _⟩
/-- The number of the first step of so many half tones. -/
theorem stepIdx_any {w : World} {p : Option Addr} {n c : Nat} {X : List StepV} (h : StpM w p n c X) (hn : n ≤ 1000000) (d : Int) {f : Nat} {lb : Array Value} (hp : PredBelow Tryz.prog f lb (fun s : StpR => .agg (stpC s).toArray) (fun s => decide (s.size = d)) w) (eg : ∀ args w, (callFunc f args).run Tryz.prog w = .ok (.enter f args) w) :
    Calls Tryz.prog 9 #[.slice p n c, .func (.func f) #[] lb] w fun e w' => Ext w w' ∧ ((findX X d = none ∧ e = .returned (.int .i64 (-1))) ∨ ∃ (k : Nat) (x : StepV), X[k]? = some x ∧ x.size = d ∧ findX X d = some x ∧ e = .returned (.int .i64 (k : Int))) := by
  have hl := h.len
  rcases h.form with ⟨rfl, e⟩ | ⟨b, off, rfl, hb⟩
  · subst e
    have h0 : n = 0 := by rw [← hl]; rfl
    subst h0
    exact (idxStep_nil c _ _).mono fun e w' ⟨he, hE⟩ => ⟨hE, .inl ⟨rfl, he⟩⟩
  · obtain ⟨R, h1, h2, h3⟩ := h
    obtain ⟨-, ⟨e, _⟩ | ⟨b', o', e, _, hEl⟩⟩ := slcC h2
    · cases e
    cases e
    have hRn : R.length = n := by omega
    have this := AnyQ.slices_IndexFunc Tryz.lqiStep 2 Tryz.isAgg41 Tryz.sizeOf41 stpC stpC_len (fun s => decide (s.size = d)) f lb eg b off n c R w hp (by omega) (by omega) hb (fun j hj i v hi => hEl j _ (by rw [List.getElem?_eq_getElem hj, getElem!_pos R j hj]) i v hi)
    rw [List.take_of_length_le (by omega)] at this
    unfold Lib.idxBy at this
    refine this.mono fun e w' ⟨he, hE⟩ => ⟨hE, ?_⟩
    rcases idx_first (fun s : StpR => decide (s.size = d)) default R 0 with ⟨q1, q2⟩ | ⟨k, s, hs, hd, hj, q⟩
    · rw [q1] at he
      refine .inl ⟨?_, he⟩
      unfold findX
      rw [List.find?_eq_none]
      intro x hx
      obtain ⟨i, hi⟩ := List.mem_iff_getElem?.1 hx
      obtain ⟨s, a, a1, -⟩ := h3 i x hi
      have := q2 i s a
      rw [a1] at this
      rw [this]; decide
    · rw [q, Nat.zero_add] at he
      obtain ⟨x, hx⟩ := getD_some h1.symm (List.getElem?_eq_some_iff.1 hs).1
      obtain ⟨s', a, a1, -⟩ := h3 k x hx
      rw [hs] at a
      cases a
      refine .inr ⟨k, x, hx, by rw [← a1]; exact of_decide_eq_true hd, find_at hx (by rw [← a1]; exact hd) fun j y hjk hy => ?_, he⟩
      obtain ⟨s', b, b1, -⟩ := h3 j y hy
      rw [← b1]
      exact hj j s' hjk b
set_option maxRecDepth 100000 in
theorem outPred (w : World) : PredAt Tryz.prog 52 #[] (fun x : Int => .int .i64 x) (fun x => outB x 0 127) w := fun W x hb => by
  show Calls Tryz.prog 52 #[.int .i64 x] W _
  have ho := fun u => outside_any x 0 127 u
  obtain ⟨v, hv⟩ : ∃ v, outB x 0 127 = v := ⟨_, rfl⟩
  simp only [hv] at ho
  replace hv := Lib.hid hv
  replace ho := Lib.hid ho
  go_enter Tryz.func52, Tryz.ntmps52
  go_wp2_with (go_at_call 19; (with_reducible refine Calls.mono (ho.out _) ?_); rintro e w' ⟨rfl, rfl⟩)
  go_ret
  exact ⟨by rw [hv.out]; rfl, 0, rfl⟩
theorem outs_any {p : Option Addr} {n c : Nat} {m : List Int} {w : World} (h : Slc 1 intC w p n c m) (h0 : 0 < n) :
    Calls Tryz.prog 51 #[.slice p n c, .func (.func 52) #[] #[]] w fun e w' => e = .returned (.bool (m.any fun x => outB x 0 127)) ∧ Ext w w' := by
  obtain ⟨hl, ⟨-, e⟩ | ⟨b, off, rfl, hb, hEl⟩⟩ := slcC h
  · rw [e] at hl; simp at hl; omega
  have hn := h.1.2.1
  subst hl
  have this := AnyE.slices_ContainsFunc Tryz.lqcInt (fun x : Int => .int .i64 x) (fun x => outB x 0 127) 52 #[] (enters_of Tryz.func52 (by kernel_rfl) rfl) b off m.length c m w (outPred w) (by omega) (by omega) (fun j hj => by
    have := hEl j m[j]! (by rw [List.getElem?_eq_getElem hj, getElem!_pos m j hj]) 0 _ rfl
    simpa using this)
  rw [List.take_length] at this
  exact this.mono fun e w' ⟨he, r, hw⟩ => ⟨he, by rw [hw]; exact below_drewN' (Below.refl _ w) r⟩
/-- What the closure that looks for a step reads. -/
structure StpQ (w : World) (gN gi : Nat) (b off c : Nat) (m : List Int) (i : Nat) : Prop where
  hn : Blk w gN 22 #[.slice (some ⟨b, off, none⟩) m.length c]
  hi : Blk w gi 3 #[.int .i64 ((i : Int) + 1)]
  hb : b < w.heap.size
  he : Elems 1 intC w b off m
  hlen : m.length ≤ 400
  hr : ∀ x ∈ m, 0 ≤ x ∧ x ≤ 127
theorem StpQ.ext {w w' : World} {gN gi b off c : Nat} {m : List Int} {i : Nat} (h : StpQ w gN gi b off c m i) (he : Ext w w') : StpQ w' gN gi b off c m i :=
  ⟨h.hn.ext he, h.hi.ext he, Nat.lt_of_lt_of_le h.hb he.size, h.he.ext he h.hb, h.hlen, h.hr⟩
theorem Elems.int {w : World} {b off : Nat} {xs : List Int} (h : Elems 1 intC w b off xs) {i : Nat} {x : Int} (hx : xs[i]? = some x) : w.cell? ⟨b, off + i, none⟩ = some (.int .i64 x) := by
  have := h i x hx 0 _ rfl
  simpa using this
set_option maxRecDepth 100000 in
set_option maxHeartbeats 1600000 in
theorem stepPred {w : World} {gN gi b off c : Nat} {m : List Int} {i : Nat} (h : StpQ w gN gi b off c m i) (hi : i + 1 < m.length) :
    PredBelow Tryz.prog 53 #[.pointer (some ⟨gN, 0, none⟩), .pointer (some ⟨gi, 0, none⟩)] (fun s : StpR => .agg (stpC s).toArray) (fun s => decide (s.size = gapAt m i)) w := fun W s hb => by
  have hE : Ext w W := hb
  show Calls Tryz.prog 53 #[.agg #[.int .i64 s.size, .slice s.p s.n s.c], .pointer (some ⟨gN, 0, none⟩), .pointer (some ⟨gi, 0, none⟩)] W _
  have hE1 : Ext W (W.alloc (.cells #[.int .i64 s.size, .slice s.p s.n s.c] 41)) := (Ext.refl _).alloc _
  have hX : Blk (W.alloc (.cells #[.int .i64 s.size, .slice s.p s.n s.c] 41)) W.heap.size 41 #[.int .i64 s.size, .slice s.p s.n s.c] := Blk.new' rfl
  have hq := (h.ext hE).ext hE1
  obtain ⟨x, hx⟩ := getD_some (rfl : m.length = m.length) (show i < m.length by omega)
  obtain ⟨y, hy⟩ := getD_some (rfl : m.length = m.length) hi
  have c1 := hq.he.int hx
  have c2 := hq.he.int hy
  obtain ⟨x1, x2⟩ := h.hr x (List.mem_of_getElem? hx)
  obtain ⟨y1, y2⟩ := h.hr y (List.mem_of_getElem? hy)
  have hg : gapAt m i = y - x := by unfold gapAt; rw [atL_of hx, atL_of hy]
  rw [hg]
  have hln := h.hlen
  have hbq := hq.hb
  have hiI : (i : Int) + 1 < m.length := by omega
  have hiI2 : (i : Int) < m.length := by omega
  have hEw := hE.trans hE1
  clear hg hx hy hb h
  go_enter Tryz.func53, Tryz.ntmps53
  go_upto_region 1 with fail
  generalize W.alloc (.cells #[.int .i64 s.size, .slice s.p s.n s.c] 41) = W1 at *
  refine wp_region_facts [] [([], false, false), ([0], false, false), ([], false, false), ([], false, false), ([2, 3], false, false), ([2, 3, 4], false, false), ([], false, false), ([], false, false), ([7], false, false), ([6, 7, 8], false, false), ([6, 7, 8, 9], false, false), ([2, 3, 4, 5, 6, 7, 8, 9, 10], false, false), ([0, 1, 2, 3, 4, 5, 6, 7, 8, 9, 10, 11], false, false)] (Ext) Ext (fun _ => True) (by kernel_rfl) (by kernel_rfl) Ext.refl (fun _ _ _ => Ext.trans) (fun _ _ h => h) (fun _ _ h => h.size) (fun _ _ h _ => h) trivial ?_
  dsimp only [List.length_cons, List.length_nil, List.drop_succ_cons, List.drop_zero, List.drop_nil]
  refine fac_quiet 0 rfl rfl rfl (fun _ _ h _ => h) rfl rfl ?_
  apply Exists.intro
  refine ⟨fun sv w' hw' hfa => ?_, ?_⟩
  · refine ⟨rfl, ?_⟩
    simp only [putsL]
    change quietTo _ _ _ _ (Sem.run _ (execOp (Act.eval _) _) _)
    try simp only [Act.put, List.setIfInBounds_toArray, List.set_cons_succ, List.set_cons_zero]
    simp [go_sem, quietTo, Ext.refl]
    all_goals first
      | rfl
  refine fac_quiet 1 rfl rfl rfl (fun _ _ h _ => h) rfl rfl ?_
  apply Exists.intro
  refine ⟨fun sv w' hw' hfa => ?_, ?_⟩
  · obtain ⟨f0, -⟩ := hfa
    replace f0 : sv 0 = _ := f0
    try dsimp only at f0
    have hk9 := (Ext.refl W1).drew.trans hw'; obtain ⟨z1, -⟩ := (hX.ext hk9).walk; obtain ⟨z2, -⟩ := (hq.hn.ext hk9).walk; obtain ⟨z3, -⟩ := (hq.hi.ext hk9).walk; have z4 := (hk9.walk.1 _ _ hbq).trans c1; have z5 := (hk9.walk.1 _ _ hbq).trans c2
    refine ⟨rfl, ?_⟩
    simp only [putsL]
    change quietTo _ _ _ _ (Sem.run _ (execOp (Act.eval (Act.put _ (some 5) (sv 0))) _) _)
    try simp only [Act.put, List.setIfInBounds_toArray, List.set_cons_succ, List.set_cons_zero]
    simp [go_sem, quietTo, Ext.refl, ↓IntWalk.iteOmega, f0, z1]
    all_goals try simp (disch := omega) only [IntWalk.i64_in]
    all_goals first
      | rfl
  refine fac_quiet 2 rfl rfl rfl (fun _ _ h _ => h) rfl rfl ?_
  apply Exists.intro
  refine ⟨fun sv w' hw' hfa => ?_, ?_⟩
  · have hk9 := (Ext.refl W1).drew.trans hw'; obtain ⟨z1, -⟩ := (hX.ext hk9).walk; obtain ⟨z2, -⟩ := (hq.hn.ext hk9).walk; obtain ⟨z3, -⟩ := (hq.hi.ext hk9).walk; have z4 := (hk9.walk.1 _ _ hbq).trans c1; have z5 := (hk9.walk.1 _ _ hbq).trans c2
    refine ⟨rfl, ?_⟩
    simp only [putsL]
    change quietTo _ _ _ _ (Sem.run _ (execOp (Act.eval _) _) _)
    try simp only [Act.put, List.setIfInBounds_toArray, List.set_cons_succ, List.set_cons_zero]
    simp [go_sem, quietTo, Ext.refl, ↓IntWalk.iteOmega, z2]
    all_goals try simp (disch := omega) only [IntWalk.i64_in]
    all_goals first
      | rfl
  refine fac_quiet 3 rfl rfl rfl (fun _ _ h _ => h) rfl rfl ?_
  apply Exists.intro
  refine ⟨fun sv w' hw' hfa => ?_, ?_⟩
  · have hk9 := (Ext.refl W1).drew.trans hw'; obtain ⟨z1, -⟩ := (hX.ext hk9).walk; obtain ⟨z2, -⟩ := (hq.hn.ext hk9).walk; obtain ⟨z3, -⟩ := (hq.hi.ext hk9).walk; have z4 := (hk9.walk.1 _ _ hbq).trans c1; have z5 := (hk9.walk.1 _ _ hbq).trans c2
    refine ⟨rfl, ?_⟩
    simp only [putsL]
    change quietTo _ _ _ _ (Sem.run _ (execOp (Act.eval _) _) _)
    try simp only [Act.put, List.setIfInBounds_toArray, List.set_cons_succ, List.set_cons_zero]
    simp [go_sem, quietTo, Ext.refl, ↓IntWalk.iteOmega, z3]
    all_goals try simp (disch := omega) only [IntWalk.i64_in]
    all_goals first
      | rfl
  refine fac_quiet 4 rfl rfl rfl (fun _ _ h _ => h) rfl rfl ?_
  apply Exists.intro
  refine ⟨fun sv w' hw' hfa => ?_, ?_⟩
  · obtain ⟨f2, f3, -⟩ := hfa
    replace f2 : sv 2 = _ := f2
    try dsimp only at f2
    replace f3 : sv 3 = _ := f3
    try dsimp only at f3
    have hk9 := (Ext.refl W1).drew.trans hw'; obtain ⟨z1, -⟩ := (hX.ext hk9).walk; obtain ⟨z2, -⟩ := (hq.hn.ext hk9).walk; obtain ⟨z3, -⟩ := (hq.hi.ext hk9).walk; have z4 := (hk9.walk.1 _ _ hbq).trans c1; have z5 := (hk9.walk.1 _ _ hbq).trans c2
    refine ⟨rfl, ?_⟩
    simp only [putsL]
    change quietTo _ _ _ _ (Sem.run _ (execOp (Act.eval (Act.put (Act.put _ (some 8) (sv 3)) (some 7) (sv 2))) _) _)
    try simp only [Act.put, List.setIfInBounds_toArray, List.set_cons_succ, List.set_cons_zero]
    simp [go_sem, quietTo, Ext.refl, ↓IntWalk.iteOmega, f2, f3, hiI]
    all_goals try simp (disch := omega) only [IntWalk.i64_in]
    all_goals first
      | rfl
  refine fac_quiet 5 rfl rfl rfl (fun _ _ h _ => h) rfl rfl ?_
  apply Exists.intro
  refine ⟨fun sv w' hw' hfa => ?_, ?_⟩
  · obtain ⟨_, _, f4, -⟩ := hfa
    replace f4 : sv 4 = _ := f4
    try dsimp only at f4
    have hk9 := (Ext.refl W1).drew.trans hw'; obtain ⟨z1, -⟩ := (hX.ext hk9).walk; obtain ⟨z2, -⟩ := (hq.hn.ext hk9).walk; obtain ⟨z3, -⟩ := (hq.hi.ext hk9).walk; have z4 := (hk9.walk.1 _ _ hbq).trans c1; have z5 := (hk9.walk.1 _ _ hbq).trans c2
    refine ⟨rfl, ?_⟩
    simp only [putsL]
    change quietTo _ _ _ _ (Sem.run _ (execOp (Act.eval (Act.put (Act.put (Act.put _ (some 9) (sv 4)) (some 8) (sv 3)) (some 7) (sv 2))) _) _)
    try simp only [Act.put, List.setIfInBounds_toArray, List.set_cons_succ, List.set_cons_zero]
    simp [go_sem, quietTo, Ext.refl, ↓IntWalk.iteOmega, f4, z5]
    all_goals try simp (disch := omega) only [IntWalk.i64_in]
    all_goals first
      | rfl
  refine fac_quiet 6 rfl rfl rfl (fun _ _ h _ => h) rfl rfl ?_
  apply Exists.intro
  refine ⟨fun sv w' hw' hfa => ?_, ?_⟩
  · have hk9 := (Ext.refl W1).drew.trans hw'; obtain ⟨z1, -⟩ := (hX.ext hk9).walk; obtain ⟨z2, -⟩ := (hq.hn.ext hk9).walk; obtain ⟨z3, -⟩ := (hq.hi.ext hk9).walk; have z4 := (hk9.walk.1 _ _ hbq).trans c1; have z5 := (hk9.walk.1 _ _ hbq).trans c2
    refine ⟨rfl, ?_⟩
    simp only [putsL]
    change quietTo _ _ _ _ (Sem.run _ (execOp (Act.eval _) _) _)
    try simp only [Act.put, List.setIfInBounds_toArray, List.set_cons_succ, List.set_cons_zero]
    simp [go_sem, quietTo, Ext.refl, ↓IntWalk.iteOmega, z2]
    all_goals try simp (disch := omega) only [IntWalk.i64_in]
    all_goals first
      | rfl
  refine fac_quiet 7 rfl rfl rfl (fun _ _ h _ => h) rfl rfl ?_
  apply Exists.intro
  refine ⟨fun sv w' hw' hfa => ?_, ?_⟩
  · have hk9 := (Ext.refl W1).drew.trans hw'; obtain ⟨z1, -⟩ := (hX.ext hk9).walk; obtain ⟨z2, -⟩ := (hq.hn.ext hk9).walk; obtain ⟨z3, -⟩ := (hq.hi.ext hk9).walk; have z4 := (hk9.walk.1 _ _ hbq).trans c1; have z5 := (hk9.walk.1 _ _ hbq).trans c2
    refine ⟨rfl, ?_⟩
    simp only [putsL]
    change quietTo _ _ _ _ (Sem.run _ (execOp (Act.eval _) _) _)
    try simp only [Act.put, List.setIfInBounds_toArray, List.set_cons_succ, List.set_cons_zero]
    simp [go_sem, quietTo, Ext.refl, ↓IntWalk.iteOmega, z3]
    all_goals try simp (disch := omega) only [IntWalk.i64_in]
    all_goals first
      | rfl
  refine fac_quiet 8 rfl rfl rfl (fun _ _ h _ => h) rfl rfl ?_
  apply Exists.intro
  refine ⟨fun sv w' hw' hfa => ?_, ?_⟩
  · obtain ⟨f7, -⟩ := hfa
    replace f7 : sv 7 = _ := f7
    try dsimp only at f7
    refine ⟨rfl, ?_⟩
    simp only [putsL]
    change quietTo _ _ _ _ (Sem.run _ (execOp (Act.eval (Act.put _ (some 12) (sv 7))) _) _)
    try simp only [Act.put, List.setIfInBounds_toArray, List.set_cons_succ, List.set_cons_zero]
    simp [go_sem, quietTo, Ext.refl, ↓IntWalk.iteOmega, f7]
    all_goals try simp (disch := omega) only [IntWalk.i64_in]
    all_goals first
      | rfl
  refine fac_quiet 9 rfl rfl rfl (fun _ _ h _ => h) rfl rfl ?_
  apply Exists.intro
  refine ⟨fun sv w' hw' hfa => ?_, ?_⟩
  · obtain ⟨f6, _, f8, -⟩ := hfa
    replace f6 : sv 6 = _ := f6
    try dsimp only at f6
    replace f8 : sv 8 = _ := f8
    try dsimp only at f8
    have hk9 := (Ext.refl W1).drew.trans hw'; obtain ⟨z1, -⟩ := (hX.ext hk9).walk; obtain ⟨z2, -⟩ := (hq.hn.ext hk9).walk; obtain ⟨z3, -⟩ := (hq.hi.ext hk9).walk; have z4 := (hk9.walk.1 _ _ hbq).trans c1; have z5 := (hk9.walk.1 _ _ hbq).trans c2
    refine ⟨rfl, ?_⟩
    simp only [putsL]
    change quietTo _ _ _ _ (Sem.run _ (execOp (Act.eval (Act.put (Act.put (Act.put _ (some 13) (sv 8)) (some 12) (sv 7)) (some 11) (sv 6))) _) _)
    try simp only [Act.put, List.setIfInBounds_toArray, List.set_cons_succ, List.set_cons_zero]
    simp [go_sem, quietTo, Ext.refl, ↓IntWalk.iteOmega, f6, f8, hiI2]
    all_goals try simp (disch := omega) only [IntWalk.i64_in]
    all_goals first
      | rfl
  refine fac_quiet 10 rfl rfl rfl (fun _ _ h _ => h) rfl rfl ?_
  apply Exists.intro
  refine ⟨fun sv w' hw' hfa => ?_, ?_⟩
  · obtain ⟨_, _, _, f9, -⟩ := hfa
    replace f9 : sv 9 = _ := f9
    try dsimp only at f9
    have hk9 := (Ext.refl W1).drew.trans hw'; obtain ⟨z1, -⟩ := (hX.ext hk9).walk; obtain ⟨z2, -⟩ := (hq.hn.ext hk9).walk; obtain ⟨z3, -⟩ := (hq.hi.ext hk9).walk; have z4 := (hk9.walk.1 _ _ hbq).trans c1; have z5 := (hk9.walk.1 _ _ hbq).trans c2
    refine ⟨rfl, ?_⟩
    simp only [putsL]
    change quietTo _ _ _ _ (Sem.run _ (execOp (Act.eval (Act.put (Act.put (Act.put (Act.put _ (some 14) (sv 9)) (some 13) (sv 8)) (some 12) (sv 7)) (some 11) (sv 6))) _) _)
    try simp only [Act.put, List.setIfInBounds_toArray, List.set_cons_succ, List.set_cons_zero]
    simp [go_sem, quietTo, Ext.refl, ↓IntWalk.iteOmega, f9, z4]
    all_goals try simp (disch := omega) only [IntWalk.i64_in]
    all_goals first
      | rfl
  refine fac_quiet 11 rfl rfl rfl (fun _ _ h _ => h) rfl rfl ?_
  apply Exists.intro
  refine ⟨fun sv w' hw' hfa => ?_, ?_⟩
  · obtain ⟨_, _, _, f5, _, _, _, _, f10, -⟩ := hfa
    replace f5 : sv 5 = _ := f5
    try dsimp only at f5
    replace f10 : sv 10 = _ := f10
    try dsimp only at f10
    refine ⟨rfl, ?_⟩
    simp only [putsL]
    change quietTo _ _ _ _ (Sem.run _ (execOp (Act.eval (Act.put (Act.put (Act.put (Act.put (Act.put (Act.put (Act.put (Act.put (Act.put _ (some 15) (sv 10)) (some 14) (sv 9)) (some 13) (sv 8)) (some 12) (sv 7)) (some 11) (sv 6)) (some 10) (sv 5)) (some 9) (sv 4)) (some 8) (sv 3)) (some 7) (sv 2))) _) _)
    try simp only [Act.put, List.setIfInBounds_toArray, List.set_cons_succ, List.set_cons_zero]
    simp [go_sem, quietTo, Ext.refl, ↓IntWalk.iteOmega, f5, f10]
    all_goals try simp (disch := omega) only [IntWalk.i64_in]
    all_goals first
      | rfl
  refine fac_quiet 12 rfl rfl rfl (fun _ _ h _ => h) rfl rfl ?_
  apply Exists.intro
  refine ⟨fun sv w' hw' hfa => ?_, ?_⟩
  · obtain ⟨_, f1, _, _, _, _, _, _, _, _, _, f11, -⟩ := hfa
    replace f1 : sv 1 = _ := f1
    try dsimp only at f1
    replace f11 : sv 11 = _ := f11
    try dsimp only at f11
    refine ⟨rfl, ?_⟩
    simp only [putsL]
    change quietTo _ _ _ _ (Sem.run _ (execOp (Act.eval (Act.put (Act.put (Act.put (Act.put (Act.put (Act.put (Act.put (Act.put (Act.put (Act.put (Act.put (Act.put _ (some 16) (sv 11)) (some 15) (sv 10)) (some 14) (sv 9)) (some 13) (sv 8)) (some 12) (sv 7)) (some 11) (sv 6)) (some 10) (sv 5)) (some 9) (sv 4)) (some 8) (sv 3)) (some 7) (sv 2)) (some 6) (sv 1)) (some 5) (sv 0))) _) _)
    try simp only [Act.put, List.setIfInBounds_toArray, List.set_cons_succ, List.set_cons_zero]
    simp [go_sem, quietTo, Ext.refl, ↓IntWalk.iteOmega, f1, f11]
    all_goals try simp (disch := omega) only [IntWalk.i64_in]
    all_goals first
      | rfl
  refine fac_nil fun xa wra hera hfra hcra holda hapa => ?_
  obtain ⟨f0, f1, f2, f3, f4, f5, f6, f7, f8, f9, f10, f11, f12, -⟩ := hfra
  replace f0 : xa 0 = _ := f0
  try dsimp only at f0
  replace f1 : xa 1 = _ := f1
  try dsimp only at f1
  replace f2 : xa 2 = _ := f2
  try dsimp only at f2
  replace f3 : xa 3 = _ := f3
  try dsimp only at f3
  replace f4 : xa 4 = _ := f4
  try dsimp only at f4
  replace f5 : xa 5 = _ := f5
  try dsimp only at f5
  replace f6 : xa 6 = _ := f6
  try dsimp only at f6
  replace f7 : xa 7 = _ := f7
  try dsimp only at f7
  replace f8 : xa 8 = _ := f8
  try dsimp only at f8
  replace f9 : xa 9 = _ := f9
  try dsimp only at f9
  replace f10 : xa 10 = _ := f10
  try dsimp only at f10
  replace f11 : xa 11 = _ := f11
  try dsimp only at f11
  replace f12 : xa 12 = _ := f12
  try dsimp only at f12
  change wpList _ _ _ _ (Act.put (Act.put (Act.put (Act.put (Act.put (Act.put (Act.put (Act.put (Act.put (Act.put (Act.put (Act.put (Act.put _ (some 5) (xa 0)) (some 6) (xa 1)) (some 7) (xa 2)) (some 8) (xa 3)) (some 9) (xa 4)) (some 10) (xa 5)) (some 11) (xa 6)) (some 12) (xa 7)) (some 13) (xa 8)) (some 14) (xa 9)) (some 15) (xa 10)) (some 16) (xa 11)) (some 17) (xa 12)) _
  simp only [putsL, Nat.reduceAdd, List.drop_succ_cons, List.drop_zero, List.drop_nil, Act.put, List.setIfInBounds_toArray, List.set_cons_succ, List.set_cons_zero]
  try simp only [f0, f1, f2, f3, f4, f5, f6, f7, f8, f9, f10, f11, f12]
  clear f0 f1 f2 f3 f4 f5 f6 f7 f8 f9 f10 f11 f12
  clear holda hapa
  go_wp2
  go_ret
  exact ⟨by simp only []; by_cases hq9 : s.size = y - x <;> simp [hq9], hEw.trans ((Ext.refl W1).drew.trans hera)⟩
end Go.Proofs.YtapjekpjekdlkaaGreatDoor
