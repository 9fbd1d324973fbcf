/- Parts that are higher, by voice. Conditions: they are right. -/
import Derived.Test.YtdehmioobkneiaaGreatDoorVsPartsB
import Derived.Test.YtdehmioobkneiaaGreatDoorVsJ4
import Derived.Test.YtdehmioobkneiaaGreatDoorVsFactsB
import Derived.Shelf.SlicesE.Clone
import Derived.Ground.SlgnProg
import Derived.Deep.AppendLies
import Derived.Deep.DeepCutAuto
import Derived.Deep.Light
set_option linter.unusedSimpArgs false
set_option linter.unusedVariables false
namespace Go.Proofs.YtdehmioobkneiaaGreatDoor
open Go Go.RowKit

def PartV.up (x : PartV) (d : Int) : PartV := ⟨x.name, x.lo + d, x.hi + d, x.least, x.most⟩
def okUp (xs : List PartV) (d : Int) : Bool := xs.all fun x => rightR (x.lo + d) (x.hi + d)
theorem part_flat_len : ∀ (xs : List PartV), (xs.flatMap partC).length = xs.length * 5
  | [] => rfl
  | x :: l => by rw [List.flatMap_cons, List.length_append, part_flat_len l, partC_len, List.length_cons]; omega

theorem clonePart_any (p : Option Addr) (n c : Nat) (xs : List PartV) (w : World) (h : Slc 5 partC w p n c xs) (hn : n ≤ 1000) :
    Calls Tryz.prog 92 #[.slice p n c] w fun e w' => ∃ v, e = .returned v ∧ w'.ownsRow w.heap.size 46 5 v n (xs.flatMap partC) ∧ Ext w w' := by
  obtain ⟨hS, hnc, hp0, hp⟩ := h
  cases p with
  | none =>
    obtain rfl := hp0 rfl
    have hx : xs = [] := List.eq_nil_of_length_eq_zero hS.1
    subst hx
    exact (AnyE.slices_Clone_nil Tryz.lecPart 0 c w).mono fun e w' ⟨he, hw⟩ => by
      subst hw
      exact ⟨_, he, World.ownsRow_nil _ _ _ _, Ext.refl _⟩
  | some a =>
    obtain ⟨b, off, rfl, hb⟩ := hp a rfl
    obtain ⟨i0, hi, hz0, hz1, hz2⟩ := info_parts (P := Tryz.prog) (e := 46) (z := .agg #[.string ⟨#[]⟩, .int .i64 0, .int .i64 0, .int .i64 0, .int .i64 0]) (size := 5) (bytes := 48) (by kernel_rfl)
    refine (AnyE.slices_Clone Tryz.lecPart i0 _ 5 48 hi hz0 hz1 hz2 rfl (by decide) Tryz.sizeOf46 b off n c (xs.flatMap partC) w (by rw [part_flat_len, hS.1]) (by unfold maxLen; omega) (by omega) (fun j u hj => ?_) (fun u hu => ?_)).mono fun e w' ⟨v', he, ho, _, hb'⟩ => ⟨v', he, ho, hb'⟩
    · have hj' : j < xs.length * 5 := by rw [← part_flat_len]; exact (List.getElem?_eq_some_iff.1 hj).1
      have hn0 : n ≠ 0 := by have := hS.1; omega
      obtain ⟨b', off', hpe, hb', hE⟩ := hS.2.2 hn0
      cases hpe
      obtain ⟨x, hx⟩ : ∃ x, xs[j / 5]? = some x := ⟨_, List.getElem?_eq_getElem (by omega)⟩
      have hjm : j % 5 < 5 := Nat.mod_lt _ (by omega)
      obtain ⟨u', hu'⟩ : ∃ u', (partC x)[j % 5]? = some u' := ⟨_, List.getElem?_eq_getElem (by rw [partC_len]; exact hjm)⟩
      have h1 := flat_at partC_len xs (j / 5) x hx (j % 5) u' hu'
      have e5 : j / 5 * 5 + j % 5 = j := by omega
      rw [e5, hj] at h1
      cases h1
      have h2 := hE (j / 5) x hx (j % 5) u hu'
      rw [Nat.add_assoc, e5] at h2
      exact h2
    · obtain ⟨x, _, hu⟩ := List.mem_flatMap.1 hu
      exact part_one x u hu

set_option maxRecDepth 100000 in
set_option maxHeartbeats 1600000 in
theorem shifted_any (p : Option Addr) (n c : Nat) (xs : List PartV) (d : Int) (w : World) (h : Slc 5 partC w p n c xs) (hn : n ≤ 1000) (hs : ∀ x ∈ xs, x.Small) (hd : -1000 ≤ d ∧ d ≤ 1000) :
    Calls Tryz.prog 46 #[.slice p n c, .int .i64 d] w fun e w' => ∃ v, e = .returned (.tuple #[v, .bool (okUp xs d)]) ∧ (okUp xs d = false → v = .slice none 0 0) ∧ (okUp xs d = true → w'.ownsRow w.heap.size 46 5 v n ((xs.map (PartV.up · d)).flatMap partC)) ∧ Ext w w' := by
  have hl := h.1.1
  have hcl := fun W (hW : Ext w W) => clonePart_any p n c xs W (h.ext hW) hn
  clear h
  by_cases h0 : n = 0
  · subst h0
    have hx : xs = [] := List.eq_nil_of_length_eq_zero hl
    subst hx
    clear hl hs
    go_enter Tryz.func46, Tryz.ntmps46
    go_wp2_with (go_at_call 92; (with_reducible refine Calls.mono (hcl _ (by exact Ext.refl _)) ?_); rintro e w1 ⟨v, rfl, hown, hb1⟩; obtain ⟨p', c', rfl, hS'⟩ := slc_of_own partC_len hown (by decide) (by omega))
    refine wp_loop_rounds 1 ?_
    rw [rounds_succ]
    go_wp2
    go_ret2
    exact ⟨_, rfl, (fun h => by cases h), (fun _ => hown), hb1⟩
  · replace hl := Lib.hid hl
    have hn0 : 0 < n := by omega
    replace h0 := Lib.hid h0
    go_enter Tryz.func46, Tryz.ntmps46
    go_wp2_with (go_at_call 92; (with_reducible refine Calls.mono (hcl _ (by exact Ext.refl _)) ?_); rintro e w1 ⟨v, rfl, hown, hb1⟩; obtain ⟨g, cap, rfl, -, -⟩ := hown.form hn0)
    clear hcl
    have hgw : w.heap.size ≤ g := (hown.lt g rfl).1
    have hown' := Lib.hid hown
    clear hown
    go_loopw [13] (fun i wr => ∃ k : Nat, k ≤ n ∧ i = .int .i64 k ∧ (∀ x ∈ xs.take k, rightR (x.lo + d) (x.hi + d) = true) ∧ wr.ownsRow w.heap.size 46 5 (.slice (some ⟨g, 0, none⟩) n cap) n (((xs.map (PartV.up · d)).take k ++ xs.drop k).flatMap partC) ∧ Ext w wr) (fun i _ => n - (intOf i).toNat)
    case atStart => exact ⟨0, Nat.zero_le _, rfl, (fun x hx => by simp at hx), by simpa using hown'.out, hb1⟩
    case round =>
      clear hown' hb1
      obtain ⟨k, hk, rfl, hz, hown, he⟩ := hrel
      by_cases hlt : k < n
      · obtain ⟨x, hx⟩ := getD_some hl.out hlt
        obtain ⟨s1, ⟨s2, s3⟩, ⟨s4, s5⟩, s6⟩ := hs x (List.mem_of_getElem? hx)
        have hgl : g < wr.heap.size := (hown.lt g rfl).2
        have hL : ((xs.map (PartV.up · d)).take k ++ xs.drop k)[k]? = some x := by
          rw [List.getElem?_append_right (by rw [List.length_take, List.length_map, hl.out]; omega), List.length_take, List.length_map, hl.out, Nat.min_eq_left (by omega), Nat.sub_self, List.getElem?_drop, Nat.add_zero]
          exact hx
        have c1 : wr.cell? ⟨g, k * 5 + 1, none⟩ = some (.int .i64 x.lo) := (hown.cellAt (k * 5 + 1) (by omega)).trans (flat_at partC_len _ k x hL 1 _ rfl)
        have c2 : wr.cell? ⟨g, k * 5 + 2, none⟩ = some (.int .i64 x.hi) := (hown.cellAt (k * 5 + 2) (by omega)).trans (flat_at partC_len _ k x hL 2 _ rfl)
        have hown' := Lib.hid hown
        have hz' := Lib.hid hz
        clear hown hz
        replace hx := Lib.hid hx
        replace hL := Lib.hid hL
        go_upto_region 6 with fail
        refine wp_region_facts [1, 12, 13] [([], false, false), ([], false, false), ([], false, false), ([2], false, false), ([2, 3], false, false), ([2, 3, 4], false, false), ([], false, false), ([2, 3, 4, 5, 6], false, false), ([], false, false), ([8], false, false), ([8, 9], false, false), ([8, 9, 10], false, false), ([], false, false), ([8, 9, 10, 11, 12], false, false), ([0], false, false), ([0, 14], false, false)] (Ext) Ext (fun _ => True) (by kernel_rfl) (by kernel_rfl) Ext.refl (fun _ _ _ => Ext.trans) (fun _ _ h => h) (fun _ _ h => h.size) (fun _ _ h _ => h) trivial ?_
        dsimp only [List.length_cons, List.length_nil, List.drop_succ_cons, List.drop_zero, List.drop_nil]
        refine fac_quiet 0 rfl rfl rfl (fun _ _ h _ => h) rfl rfl ?_
        apply Exists.intro
        refine ⟨fun sv w' hw' hfa => ?_, ?_⟩
        · refine ⟨rfl, ?_⟩
          simp only [putsL]
          change quietTo _ _ _ _ (Sem.run _ (execOp (Act.eval _) _) _)
          try simp only [Act.put, List.setIfInBounds_toArray, List.set_cons_succ, List.set_cons_zero]
          simp [go_sem, quietTo, Ext.refl]
          all_goals first
            | rfl
        refine fac_late 1 rfl rfl Ext.refl (fun _ _ h _ => h) rfl rfl (fun _ _ _ _ h => h) ?_
        apply Exists.intro
        refine ⟨fun sv w' hw' hfa => ?_, ?_⟩
        · refine ⟨rfl, fun w2 => ?_⟩
          simp only [putsL]
          change pureTo _ _ (Sem.run _ (execOp (Act.eval _) _) _)
          try simp only [Act.put, List.setIfInBounds_toArray, List.set_cons_succ, List.set_cons_zero]
          simp [go_sem, pureTo]
          all_goals try simp (disch := omega) only [IntWalk.i64_in]
          all_goals first
            | rfl
        refine fac_quiet 2 rfl rfl rfl (fun _ _ h _ => h) rfl rfl ?_
        apply Exists.intro
        refine ⟨fun sv w' hw' hfa => ?_, ?_⟩
        · refine ⟨rfl, ?_⟩
          simp only [putsL]
          change quietTo _ _ _ _ (Sem.run _ (execOp (Act.eval _) _) _)
          try simp only [Act.put, List.setIfInBounds_toArray, List.set_cons_succ, List.set_cons_zero]
          simp [go_sem, quietTo, Ext.refl]
          all_goals first
            | rfl
        refine fac_quiet 3 rfl rfl rfl (fun _ _ h _ => h) rfl rfl ?_
        apply Exists.intro
        refine ⟨fun sv w' hw' hfa => ?_, ?_⟩
        · obtain ⟨f2, -⟩ := hfa
          replace f2 : sv 2 = _ := f2
          try dsimp only at f2
          refine ⟨rfl, ?_⟩
          simp only [putsL]
          change quietTo _ _ _ _ (Sem.run _ (execOp (Act.eval (Act.put _ (some 22) (sv 2))) _) _)
          try simp only [Act.put, List.setIfInBounds_toArray, List.set_cons_succ, List.set_cons_zero]
          simp [go_sem, quietTo, Ext.refl, f2]
          all_goals first
            | rfl
        refine fac_quiet 4 rfl rfl rfl (fun _ _ h _ => h) rfl rfl ?_
        apply Exists.intro
        refine ⟨fun sv w' hw' hfa => ?_, ?_⟩
        · obtain ⟨_, f3, -⟩ := hfa
          replace f3 : sv 3 = _ := f3
          try dsimp only at f3
          refine ⟨rfl, ?_⟩
          simp only [putsL]
          change quietTo _ _ _ _ (Sem.run _ (execOp (Act.eval (Act.put (Act.put _ (some 23) (sv 3)) (some 22) (sv 2))) _) _)
          try simp only [Act.put, List.setIfInBounds_toArray, List.set_cons_succ, List.set_cons_zero]
          simp [go_sem, quietTo, Ext.refl, f3]
          all_goals first
            | rfl
        refine fac_quiet 5 rfl rfl rfl (fun _ _ h _ => h) rfl rfl ?_
        apply Exists.intro
        refine ⟨fun sv w' hw' hfa => ?_, ?_⟩
        · obtain ⟨_, _, f4, -⟩ := hfa
          replace f4 : sv 4 = _ := f4
          try dsimp only at f4
          obtain ⟨hc, hf, hz⟩ := hw'.walk
          have d1 : w'.cell? ⟨g, k * 5 + 1, none⟩ = some (.int .i64 x.lo) := (hc g (k * 5 + 1) hgl).trans c1
          have d2 : w'.cell? ⟨g, k * 5 + 2, none⟩ = some (.int .i64 x.hi) := (hc g (k * 5 + 2) hgl).trans c2
          refine ⟨rfl, ?_⟩
          simp only [putsL]
          change quietTo _ _ _ _ (Sem.run _ (execOp (Act.eval (Act.put (Act.put (Act.put _ (some 24) (sv 4)) (some 23) (sv 3)) (some 22) (sv 2))) _) _)
          try simp only [Act.put, List.setIfInBounds_toArray, List.set_cons_succ, List.set_cons_zero]
          simp [go_sem, quietTo, Ext.refl, ↓IntWalk.iteOmega, f4, d1, d2]
          all_goals try simp (disch := omega) only [IntWalk.i64_in]
          all_goals first
            | rfl
        refine fac_quiet 6 rfl rfl rfl (fun _ _ h _ => h) rfl rfl ?_
        apply Exists.intro
        refine ⟨fun sv w' hw' hfa => ?_, ?_⟩
        · refine ⟨rfl, ?_⟩
          simp only [putsL]
          change quietTo _ _ _ _ (Sem.run _ (execOp (Act.eval _) _) _)
          try simp only [Act.put, List.setIfInBounds_toArray, List.set_cons_succ, List.set_cons_zero]
          simp [go_sem, quietTo, Ext.refl]
          all_goals first
            | rfl
        refine fac_quiet 7 rfl rfl rfl (fun _ _ h _ => h) rfl rfl ?_
        apply Exists.intro
        refine ⟨fun sv w' hw' hfa => ?_, ?_⟩
        · obtain ⟨_, _, _, f5, f6, -⟩ := hfa
          replace f5 : sv 5 = _ := f5
          try dsimp only at f5
          replace f6 : sv 6 = _ := f6
          try dsimp only at f6
          obtain ⟨hc, hf, hz⟩ := hw'.walk
          have d1 : w'.cell? ⟨g, k * 5 + 1, none⟩ = some (.int .i64 x.lo) := (hc g (k * 5 + 1) hgl).trans c1
          have d2 : w'.cell? ⟨g, k * 5 + 2, none⟩ = some (.int .i64 x.hi) := (hc g (k * 5 + 2) hgl).trans c2
          refine ⟨rfl, ?_⟩
          simp only [putsL]
          change quietTo _ _ _ _ (Sem.run _ (execOp (Act.eval (Act.put (Act.put (Act.put (Act.put (Act.put _ (some 26) (sv 6)) (some 25) (sv 5)) (some 24) (sv 4)) (some 23) (sv 3)) (some 22) (sv 2))) _) _)
          try simp only [Act.put, List.setIfInBounds_toArray, List.set_cons_succ, List.set_cons_zero]
          simp [go_sem, quietTo, Ext.refl, ↓IntWalk.iteOmega, f5, f6, d1, d2]
          all_goals try simp (disch := omega) only [IntWalk.i64_in]
          all_goals first
            | rfl
        refine fac_quiet 8 rfl rfl rfl (fun _ _ h _ => h) rfl rfl ?_
        apply Exists.intro
        refine ⟨fun sv w' hw' hfa => ?_, ?_⟩
        · refine ⟨rfl, ?_⟩
          simp only [putsL]
          change quietTo _ _ _ _ (Sem.run _ (execOp (Act.eval _) _) _)
          try simp only [Act.put, List.setIfInBounds_toArray, List.set_cons_succ, List.set_cons_zero]
          simp [go_sem, quietTo, Ext.refl]
          all_goals first
            | rfl
        refine fac_quiet 9 rfl rfl rfl (fun _ _ h _ => h) rfl rfl ?_
        apply Exists.intro
        refine ⟨fun sv w' hw' hfa => ?_, ?_⟩
        · obtain ⟨f8, -⟩ := hfa
          replace f8 : sv 8 = _ := f8
          try dsimp only at f8
          refine ⟨rfl, ?_⟩
          simp only [putsL]
          change quietTo _ _ _ _ (Sem.run _ (execOp (Act.eval (Act.put _ (some 28) (sv 8))) _) _)
          try simp only [Act.put, List.setIfInBounds_toArray, List.set_cons_succ, List.set_cons_zero]
          simp [go_sem, quietTo, Ext.refl, f8]
          all_goals first
            | rfl
        refine fac_quiet 10 rfl rfl rfl (fun _ _ h _ => h) rfl rfl ?_
        apply Exists.intro
        refine ⟨fun sv w' hw' hfa => ?_, ?_⟩
        · obtain ⟨_, f9, -⟩ := hfa
          replace f9 : sv 9 = _ := f9
          try dsimp only at f9
          refine ⟨rfl, ?_⟩
          simp only [putsL]
          change quietTo _ _ _ _ (Sem.run _ (execOp (Act.eval (Act.put (Act.put _ (some 29) (sv 9)) (some 28) (sv 8))) _) _)
          try simp only [Act.put, List.setIfInBounds_toArray, List.set_cons_succ, List.set_cons_zero]
          simp [go_sem, quietTo, Ext.refl, f9]
          all_goals first
            | rfl
        refine fac_quiet 11 rfl rfl rfl (fun _ _ h _ => h) rfl rfl ?_
        apply Exists.intro
        refine ⟨fun sv w' hw' hfa => ?_, ?_⟩
        · obtain ⟨_, _, f10, -⟩ := hfa
          replace f10 : sv 10 = _ := f10
          try dsimp only at f10
          obtain ⟨hc, hf, hz⟩ := hw'.walk
          have d1 : w'.cell? ⟨g, k * 5 + 1, none⟩ = some (.int .i64 x.lo) := (hc g (k * 5 + 1) hgl).trans c1
          have d2 : w'.cell? ⟨g, k * 5 + 2, none⟩ = some (.int .i64 x.hi) := (hc g (k * 5 + 2) hgl).trans c2
          refine ⟨rfl, ?_⟩
          simp only [putsL]
          change quietTo _ _ _ _ (Sem.run _ (execOp (Act.eval (Act.put (Act.put (Act.put _ (some 30) (sv 10)) (some 29) (sv 9)) (some 28) (sv 8))) _) _)
          try simp only [Act.put, List.setIfInBounds_toArray, List.set_cons_succ, List.set_cons_zero]
          simp [go_sem, quietTo, Ext.refl, ↓IntWalk.iteOmega, f10, d1, d2]
          all_goals try simp (disch := omega) only [IntWalk.i64_in]
          all_goals first
            | rfl
        refine fac_late 12 rfl rfl Ext.refl (fun _ _ h _ => h) rfl rfl (fun _ _ _ _ h => h) ?_
        apply Exists.intro
        refine ⟨fun sv w' hw' hfa => ?_, ?_⟩
        · refine ⟨rfl, fun w2 => ?_⟩
          simp only [putsL]
          change pureTo _ _ (Sem.run _ (execOp (Act.eval _) _) _)
          try simp only [Act.put, List.setIfInBounds_toArray, List.set_cons_succ, List.set_cons_zero]
          simp [go_sem, pureTo]
          all_goals try simp (disch := omega) only [IntWalk.i64_in]
          all_goals first
            | rfl
        refine fac_late 13 rfl rfl Ext.refl (fun _ _ h _ => h) rfl rfl (fun _ _ _ _ h => h) ?_
        apply Exists.intro
        refine ⟨fun sv w' hw' hfa => ?_, ?_⟩
        · obtain ⟨_, _, _, f11, f12, -⟩ := hfa
          replace f11 : sv 11 = _ := f11
          try dsimp only at f11
          replace f12 : sv 12 = _ := f12
          try dsimp only at f12
          refine ⟨rfl, fun w2 => ?_⟩
          simp only [putsL]
          change pureTo _ _ (Sem.run _ (execOp (Act.eval (Act.put (Act.put (Act.put (Act.put (Act.put _ (some 32) (sv 12)) (some 31) (sv 11)) (some 30) (sv 10)) (some 29) (sv 9)) (some 28) (sv 8))) _) _)
          try simp only [Act.put, List.setIfInBounds_toArray, List.set_cons_succ, List.set_cons_zero]
          simp [go_sem, pureTo, ↓IntWalk.iteOmega, f11, f12]
          all_goals try simp (disch := omega) only [IntWalk.i64_in]
          all_goals first
            | rfl
        refine fac_quiet 14 rfl rfl rfl (fun _ _ h _ => h) rfl rfl ?_
        apply Exists.intro
        refine ⟨fun sv w' hw' hfa => ?_, ?_⟩
        · obtain ⟨f0, -⟩ := hfa
          replace f0 : sv 0 = _ := f0
          try dsimp only at f0
          refine ⟨rfl, ?_⟩
          simp only [putsL]
          change quietTo _ _ _ _ (Sem.run _ (execOp (Act.eval (Act.put _ (some 20) (sv 0))) _) _)
          try simp only [Act.put, List.setIfInBounds_toArray, List.set_cons_succ, List.set_cons_zero]
          simp [go_sem, quietTo, Ext.refl, f0]
          all_goals first
            | rfl
        refine fac_quiet 15 rfl rfl rfl (fun _ _ h _ => h) rfl rfl ?_
        apply Exists.intro
        refine ⟨fun sv w' hw' hfa => ?_, ?_⟩
        · obtain ⟨_, f14, -⟩ := hfa
          replace f14 : sv 14 = _ := f14
          try dsimp only at f14
          refine ⟨rfl, ?_⟩
          simp only [putsL]
          change quietTo _ _ _ _ (Sem.run _ (execOp (Act.eval (Act.put (Act.put _ (some 34) (sv 14)) (some 20) (sv 0))) _) _)
          try simp only [Act.put, List.setIfInBounds_toArray, List.set_cons_succ, List.set_cons_zero]
          simp [go_sem, quietTo, Ext.refl, f14]
          all_goals first
            | rfl
        refine fac_nil fun x1 wr1 her1 hfr1 hcr1 hold1 hap1 => ?_
        obtain ⟨f0, f1, f2, f3, f4, f5, f6, f7, f8, f9, f10, f11, f12, f13, f14, f15, -⟩ := hfr1
        replace f0 : x1 0 = _ := f0
        try dsimp only at f0
        replace f1 : x1 1 = _ := f1
        try dsimp only at f1
        replace f2 : x1 2 = _ := f2
        try dsimp only at f2
        replace f3 : x1 3 = _ := f3
        try dsimp only at f3
        replace f4 : x1 4 = _ := f4
        try dsimp only at f4
        replace f5 : x1 5 = _ := f5
        try dsimp only at f5
        replace f6 : x1 6 = _ := f6
        try dsimp only at f6
        replace f7 : x1 7 = _ := f7
        try dsimp only at f7
        replace f8 : x1 8 = _ := f8
        try dsimp only at f8
        replace f9 : x1 9 = _ := f9
        try dsimp only at f9
        replace f10 : x1 10 = _ := f10
        try dsimp only at f10
        replace f11 : x1 11 = _ := f11
        try dsimp only at f11
        replace f12 : x1 12 = _ := f12
        try dsimp only at f12
        replace f13 : x1 13 = _ := f13
        try dsimp only at f13
        replace f14 : x1 14 = _ := f14
        try dsimp only at f14
        replace f15 : x1 15 = _ := f15
        try dsimp only at f15
        change wpList _ _ _ _ (Act.put (Act.put (Act.put (Act.put (Act.put (Act.put (Act.put (Act.put (Act.put (Act.put (Act.put (Act.put (Act.put (Act.put (Act.put (Act.put _ (some 20) (x1 0)) (some 21) (x1 1)) (some 22) (x1 2)) (some 23) (x1 3)) (some 24) (x1 4)) (some 25) (x1 5)) (some 26) (x1 6)) (some 27) (x1 7)) (some 28) (x1 8)) (some 29) (x1 9)) (some 30) (x1 10)) (some 31) (x1 11)) (some 32) (x1 12)) (some 33) (x1 13)) (some 34) (x1 14)) (some 35) (x1 15)) _
        simp only [putsL, Nat.reduceAdd, List.drop_succ_cons, List.drop_zero, List.drop_nil, Act.put, List.setIfInBounds_toArray, List.set_cons_succ, List.set_cons_zero]
        try simp only [f0, f1, f2, f3, f4, f5, f6, f7, f8, f9, f10, f11, f12, f13, f14, f15]
        clear f0 f1 f2 f3 f4 f5 f6 f7 f8 f9 f10 f11 f12 f13 f14 f15
        clear hold1 hap1
        have he1 : Ext wr wr1 := (Ext.refl _).drew.trans her1
        have hown1 := own_ext he1 hown'.out
        have hgl1 := Nat.lt_of_lt_of_le hgl he1.size
        have k1 : wr1.cell? ⟨g, k * 5 + 1, none⟩ = some (.int .i64 x.lo) := (hown1.cellAt (k * 5 + 1) (by omega)).trans (flat_at partC_len _ k x hL.out 1 _ rfl)
        have k2 : wr1.cell? ⟨g, k * 5 + 2, none⟩ = some (.int .i64 x.hi) := (hown1.cellAt (k * 5 + 2) (by omega)).trans (flat_at partC_len _ k x hL.out 2 _ rfl)
        have z1 : wr1.frozen? ⟨g, k * 5 + 1, none⟩ = false := hown1.frozenAt _
        have z2 : wr1.frozen? ⟨g, k * 5 + 2, none⟩ = false := hown1.frozenAt _
        have hown1' := Lib.hid hown1
        clear hown1 hown' c1 c2 her1
        go_upto_region 7 with fail
        have hset := own_set1 partC_len (own_set1 partC_len hown1'.out ⟨x.name, x.lo + d, x.hi, x.least, x.most⟩ hL.out 1 (by decide) (.int .i64 (x.lo + d)) rfl) (x.up d) (i := k) (x := ⟨x.name, x.lo + d, x.hi, x.least, x.most⟩) (by rw [List.getElem?_set_self (List.getElem?_eq_some_iff.1 hL.out).1]) 2 (by decide) (.int .i64 (x.hi + d)) rfl
        have hyk : (xs.map (PartV.up · d))[k]? = some (x.up d) := by rw [List.getElem?_map, hx.out]; rfl
        rw [List.set_set, set_take_drop (by rw [List.length_map]) hyk] at hset
        have he2 : Ext w ((wr1.setCell ⟨g, k * 5 + 1, none⟩ (.int .i64 (x.lo + d))).setCell ⟨g, k * 5 + 2, none⟩ (.int .i64 (x.hi + d))) := ((he.trans he1).setCell hgw _).setCell hgw _
        rw [show k * 5 + 1 + 1 = k * 5 + 2 from rfl]
        generalize (wr1.setCell ⟨g, k * 5 + 1, none⟩ (.int .i64 (x.lo + d))).setCell ⟨g, k * 5 + 2, none⟩ (.int .i64 (x.hi + d)) = W2 at hset he2 ⊢
        have hLk : ((xs.map (PartV.up · d)).take (k + 1) ++ xs.drop (k + 1))[k]? = some (x.up d) := by
          rw [List.getElem?_append_left (by rw [List.length_take, List.length_map, hl.out]; omega), List.getElem?_take_of_lt (by omega)]
          exact hyk
        have m1 : W2.cell? ⟨g, k * 5 + 1, none⟩ = some (.int .i64 (x.lo + d)) := own_cell partC_len hset hLk 1 rfl hlt
        have m2 : W2.cell? ⟨g, k * 5 + 2, none⟩ = some (.int .i64 (x.hi + d)) := own_cell partC_len hset hLk 2 rfl hlt
        have hset' := Lib.hid hset
        replace hyk := Lib.hid hyk
        clear hset k1 k2 z1 z2 hown1' he1 he hgl hgl1 hLk
        cases hr : rightR (x.lo + d) (x.hi + d)
        · go_wp2_with (go_at_call 48; (with_reducible refine Calls.mono (isRight_any (x.lo + d) (x.hi + d) _) ?_); rintro e w3 ⟨rfl, hb3⟩)
          have hno : okUp xs d = false := by
            unfold okUp
            rw [List.all_eq_false]
            exact ⟨x, List.mem_of_getElem? hx.out, by rw [hr]; decide⟩
          go_ret2
          exact ⟨.slice none 0 0, by rw [hno]; rfl, (fun _ => rfl), (fun h => by rw [hno] at h; cases h), he2.trans hb3⟩
        · go_wp2_with (go_at_call 48; (with_reducible refine Calls.mono (isRight_any (x.lo + d) (x.hi + d) _) ?_); rintro e w3 ⟨rfl, hb3⟩)
          go_roundw
          case rel => exact ⟨k + 1, by omega, by go_num, (fun y hy => by
            rw [take_snocL hx.out] at hy
            rcases List.mem_append.1 hy with h | h
            · exact hz'.out y h
            · obtain rfl : y = x := by simpa using h
              exact hr), own_ext hb3 hset'.out, he2.trans hb3⟩
          case measure => simp [intOf]; omega
      · obtain rfl : k = n := by omega
        have hall : okUp xs d = true := by
          unfold okUp
          rw [List.all_eq_true]
          intro x hx
          exact hz x (by rw [List.take_of_length_le (by rw [hl.out]; omega)]; exact hx)
        rw [List.take_of_length_le (by rw [List.length_map, hl.out]; omega), List.drop_eq_nil_of_le (by rw [hl.out]; omega), List.append_nil] at hown
        replace hown := Lib.hid hown
        go_wp2
        go_ret2
        exact ⟨.slice (some ⟨g, 0, none⟩) k cap, by rw [hall]; rfl, (fun h => by rw [hall] at h; cases h), (fun _ => hown.out), he⟩

end Go.Proofs.YtdehmioobkneiaaGreatDoor
